/-
  plan.Substitute.
  The reference of package plan: its mode, what its methods come to; lists that are made in place.
  The reference's mode.list.
  The reference's methods: their boxes; mode.agg.
-/
import Derived.Test.YthijagpnpcpcbaaGreatQGtSd
import Derived.Test.YthijagpnpcpcbaaGreatQGtUc
namespace Go.Proofs.YthijagpnpcpcbaaGreat
open Go.RowKit Go.Sort
/-- Substitute's mapper. -/
def MSb (B b3 b6 : Nat) (A : Option Addr) (cap : Nat) (wl : List DT) (h36 : b3 ≠ b6) (hwn : ∀ x, x ∈ wl → x.n ≤ 1048576) : Mpr ((Int × DT → Prop) × Bool) where
  C := CSb B b3 b6 A cap wl
  mem := fun s v => s.1 v
  cnt := fun _ => 0
  g := 37
  lb := #[.pointer (some ⟨b3, 0, none⟩), .pointer (some ⟨b6, 0, none⟩)]
  eg := enters_of Tryz.func37 (by kernel_rfl) rfl
  m := sbCm wl
  col := fun s W d x hd hd2 hst hx _ hk _ => subst1_any B b3 b6 A cap wl h36 hwn s W d x hd hd2 hst hx hk
/-- What Substitute comes to. -/
def SbPost (B : Nat) (wl : List DT) (x : DT) (w : World) (e : Ending) (w' : World) : Prop :=
  ∃ (y : DT) (f : Int), e = .returned (.tuple #[.agg y.c.toArray, .int .i64 f]) ∧ Below w.heap.size w w' ∧ UIn (Nw (CBs B) w.heap.size () w') w' .expr y ∧
    (((∃ v, Vs (sbCm wl) .expr 0 x v ∧ sbBad wl v) ∧ f = 3 ∧ y = zTr) ∨ ((∀ v, Vs (sbCm wl) .expr 0 x v → ¬ sbBad wl v) ∧ f = 0 ∧ Mp (sbCm wl) .expr 0 x y))
set_option maxRecDepth 100000 in
set_option maxHeartbeats 4000000 in
theorem subst_any (B : Nat) (A : Option Addr) (cap : Nat) (wl : List DT) (x : DT) (w : World) (hB : B ≤ w.heap.size) (hn : x.n ≤ 1048576) (hx : UIn (fun k => k < B) w .expr x) (hwr : DRow (fun k => k < B) w 14 A cap wl) (hwi : ∀ y, y ∈ wl → UIn (fun k => k < B) w .expr y) (hwn : ∀ y, y ∈ wl → y.n ≤ 1048576) : Calls Tryz.prog 17 #[.agg x.c.toArray, .slice A wl.length cap] w (SbPost B wl x w) := by
  obtain ⟨w1, hw1⟩ : ∃ w1, w.alloc (.cells x.c.toArray 31) = w1 := ⟨_, rfl⟩
  obtain ⟨w2, hw2⟩ : ∃ w2, w1.alloc (.cells #[.slice A wl.length cap] 28) = w2 := ⟨_, rfl⟩
  obtain ⟨w4, hw4⟩ : ∃ w4, w2.alloc (.cells #[.int .i64 0, .int .i64 0, .int .i64 0, .int .i64 0, .int .i64 0, .int .i64 0, .slice none 0 0, .int .i64 0, .int .i64 0, .int .i64 0, .string ⟨#[]⟩, .slice none 0 0, .slice none 0 0, .slice none 0 0] 31) = w4 := ⟨_, rfl⟩
  obtain ⟨w5, hw5⟩ : ∃ w5, w4.alloc (.cells #[.bool false] 4) = w5 := ⟨_, rfl⟩
  have hz1 : w1.heap.size = w.heap.size + 1 := by rw [← hw1]; simp
  have hz2 : w2.heap.size = w.heap.size + 2 := by rw [← hw2]; simp [hz1]
  have hz4 : w4.heap.size = w.heap.size + 3 := by rw [← hw4]; simp [hz2]
  have hz5 : w5.heap.size = w.heap.size + 4 := by rw [← hw5]; simp [hz4]
  have k1 : Hid (Bk w5 w.heap.size x.c 31) := by show Bk _ _ _ _; rw [← hw5, ← hw4, ← hw2, ← hw1]; exact (((Bk.new w x.c _).alloc _).alloc _).alloc _
  have k2 : Hid (Bk w5 (w.heap.size + 1) [.slice A wl.length cap] 28) := by show Bk _ _ _ _; rw [← hw5, ← hw4, ← hw2, ← hz1]; exact ((Bk.new w1 [.slice A wl.length cap] _).alloc _).alloc _
  have k4 : Hid (Bk w5 (w.heap.size + 2) zEx 31) := by show Bk _ _ _ _; rw [← hw5, ← hw4, ← hz2]; exact (Bk.new w2 zEx _).alloc _
  have k5 : Hid (Bk w5 (w.heap.size + 3) [.bool false] 4) := by show Bk _ _ _ _; rw [← hw5, ← hz4]; exact Bk.new w4 [.bool false] _
  have hbw : Hid (Below w.heap.size w w5) := by show Below _ _ _; rw [← hw5, ← hw4, ← hw2, ← hw1]; exact ((((Below.refl _ _).alloc (Nat.le_refl _) _).alloc (by simp) _).alloc (by simp; omega) _).alloc (by simp; omega) _
  have Hx := Lib.hid hx
  have Hi : Hid ((Tryz.prog.info? 31).map (·.size) = some x.c.length) := by show _ = _; rw [hx.len]; exact uClExpr1
  have Hie := Lib.hid uClExpr1
  have Him := Lib.hid uIm
  have Hbl := Lib.hid uBool1
  have HC : Hid (∀ w7 w8, Wrt w5 (w.heap.size + 3) [.bool false] 4 w7 → Wrt (w7.alloc (.cells #[.nilFunc] 73)) (w.heap.size + 4) [.func (.func 37) #[] #[.pointer (some ⟨w.heap.size + 1, 0, none⟩), .pointer (some ⟨w.heap.size + 3, 0, none⟩)]] 73 w8 →
      Below w.heap.size w w8 ∧ w8.heap.size = w.heap.size + 5 ∧ Bk w8 w.heap.size x.c 31 ∧ Bk w8 (w.heap.size + 2) zEx 31 ∧ Calls Tryz.prog 36 #[.agg #[.func (.func 37) #[] #[.pointer (some ⟨w.heap.size + 1, 0, none⟩), .pointer (some ⟨w.heap.size + 3, 0, none⟩)]], .agg x.c.toArray, .int .i64 0] w8 fun e w9 => ∃ (y : DT) (fl : Bool), e = .returned (.agg y.c.toArray) ∧
        Below w.heap.size w w9 ∧ w.heap.size + 5 ≤ w9.heap.size ∧ UIn (Nw (CBs B) (w.heap.size + 5) () w9) w9 .expr y ∧ Mp (sbCm wl) .expr 0 x y ∧ (fl = true ↔ ∃ v, Vs (sbCm wl) .expr 0 x v ∧ sbBad wl v) ∧ Bk w9 (w.heap.size + 3) [.bool fl] 4 ∧ Bk w9 (w.heap.size + 2) zEx 31) := by
    intro w7 w8 h7 h8
    have hz7 : w7.heap.size = w.heap.size + 4 := h7.size.trans hz5
    have hz8 : w8.heap.size = w.heap.size + 5 := by rw [h8.size]; simp [hz7]
    have b7 : Below w.heap.size w w7 := Fr.toBelow hbw.out h7 (by omega)
    have b7' : Below w.heap.size w (w7.alloc (.cells #[.nilFunc] 73)) := b7.alloc (by omega) _
    have b8 : Below w.heap.size w w8 := Fr.toBelow b7' h8 (by omega)
    have j1 := (((k1.out.wrt h7 (by omega)).alloc (.cells #[.nilFunc] 73)).wrt h8 (by omega))
    have j2 := (((k2.out.wrt h7 (by omega)).alloc (.cells #[.nilFunc] 73)).wrt h8 (by omega))
    have j4 := (((k4.out.wrt h7 (by omega)).alloc (.cells #[.nilFunc] 73)).wrt h8 (by omega))
    have j5 := ((h7.bk.alloc (.cells #[.nilFunc] 73)).wrt h8 (by omega))
    have hst : (MSb B (w.heap.size + 1) (w.heap.size + 3) A cap wl (by omega) hwn).C.St (fun _ => False, false) w8 := by
      refine ⟨⟨by rw [hz8]; omega, Iff.intro (fun h => by cases h) (fun h => h.choose_spec.1.elim), fun p hp => ?_⟩, hwr.keep (fun k hk => b8.block k (by omega)) fun _ h => h, fun y hy => (hwi y hy).keep (fun k hk => b8.block k (by omega)) fun _ h => h⟩
      simp only [List.mem_cons, List.not_mem_nil, or_false] at hp
      rcases hp with rfl | rfl
      · exact ⟨by show B ≤ w.heap.size + 1; omega, j2⟩
      · exact ⟨by show B ≤ w.heap.size + 3; omega, j5⟩
    refine ⟨b8, hz8, j1, j4, ((mexpr_any (MSb B (w.heap.size + 1) (w.heap.size + 3) A cap wl (by omega) hwn) x 0 (fun _ => False, false) w8 (Int.le_refl _) (by omega) hst (hx.keep (fun k hk => b8.block k (by omega)) fun _ h => h) (by show 0 + _ ≤ _; omega)).mono ?_)⟩
    rintro e w9 ⟨y, s', rfl, hf, hv, hy, hm⟩
    have hO : ∀ k, (MSb B (w.heap.size + 1) (w.heap.size + 3) A cap wl (by omega) hwn).C.O (fun _ => False, false) k → k = w.heap.size + 1 ∨ k = w.heap.size + 3 := fun k h => h.2
    have hs9 := hf.size
    have hfo := hf.st.1.2.1
    refine ⟨y, s'.2, rfl, ⟨hf.os.trans b8.os, hf.tape.trans b8.tape, hf.output.trans b8.output, by omega, fun k hk => (hf.block k (by omega) fun e => by have := hO k e; omega).trans (b8.block k hk)⟩, by omega, hy.keep (fun _ _ => rfl) fun k hk => ?_, hm, ?_, (hf.st.1.2.2 (w.heap.size + 3, 4, [.bool s'.2]) (by simp)).2, j4.fr hf fun e => by have := hO _ e; omega⟩
    · obtain ⟨h1, h2, _⟩ := hk
      refine ⟨?_, h2, fun e => e⟩
      rcases h1 with h1 | h1
      · exact .inl h1
      · exact .inr (by omega)
    · rw [show s'.2 = true ↔ ∃ v, s'.1 v ∧ sbBad wl v from hfo]
      constructor
      · rintro ⟨v, h1, h2⟩
        exact ⟨v, ((hv.1 v).1 h1).resolve_left fun h => h, h2⟩
      · rintro ⟨v, h1, h2⟩
        exact ⟨v, (hv.1 v).2 (.inr h1), h2⟩
  clear hx
  go_enter Tryz.func17, Tryz.ntmps17
  go_upto_if 14 with (first
    | (refine wpList_store_blk rfl 4 _ _ rfl _ 0 _ _ [.bool false] rfl rfl k5.out Hbl.out (by simp) rfl ?_; intro w7 hw7; have hz7 := hw7.size.trans hz5; have k7 := Lib.hid (show Bk (w7.alloc (.cells #[.nilFunc] 73)) (w.heap.size + 4) [.nilFunc] 73 by rw [← hz7]; exact Bk.new w7 [.nilFunc] _))
    | (refine wpList_store_blk rfl 73 _ _ rfl _ 0 _ _ [.func (.func 37) #[] #[.pointer (some ⟨w.heap.size + 1, 0, none⟩), .pointer (some ⟨w.heap.size + 3, 0, none⟩)]] rfl rfl k7.out Him.out (by simp) rfl ?_; intro w8 hw8; obtain ⟨b8, hz8, j1, j4, hcl⟩ := HC.out _ _ hw7 hw8; have J1 := Lib.hid j1; have J4 := Lib.hid j4; have Hcl := Lib.hid hcl; have k8 := Lib.hid hw8.bk; have B8 := Lib.hid b8; clear j1 j4 hcl hw8 hw7 b8)
    | (refine wpList_load_part rfl 73 _ rfl _ Tryz.underlying73 rfl _ _ _ _ [.func (.func 37) #[] #[.pointer (some ⟨w.heap.size + 1, 0, none⟩), .pointer (some ⟨w.heap.size + 3, 0, none⟩)]] rfl k8.out Him.out rfl ?_)
    | (refine wpList_load_part rfl 31 _ rfl _ Tryz.underlying31 rfl _ _ _ _ x.c rfl J1.out Hi.out (by rw [List.drop_zero, List.take_length]) ?_)
    | (go_at_call 36; refine Hcl.out.mono ?_; rintro e w9 ⟨y, fl, rfl, b9, hz9, hy, hm, hfl, c5, c4⟩; have Hy := Lib.hid hy; have y14 : Hid (y.c.toArray.size = 14) := (by show _ = _; rw [List.size_toArray, hy.len]; rfl); have yi : Hid ((Tryz.prog.info? 31).map (·.size) = some y.c.length) := (by show _ = _; rw [hy.len]; exact uClExpr1); have y1 := Lib.hid (all_one hy.ones); have C5 := Lib.hid c5; have C4 := Lib.hid c4; have Hm := Lib.hid hm; have Hfl := Lib.hid hfl; have B9 := Lib.hid b9; clear hy c5 c4 hm hfl b9)
    | (refine wpList_store_st rfl 31 _ _ rfl _ y.c.toArray (by simpa using yi.out) y14.out.symm y1.out rfl rfl ?_; obtain ⟨wa, hwa⟩ : ∃ wa, w9.alloc (.cells y.c.toArray 31) = wa := ⟨_, rfl⟩; have D5 : Hid (Bk wa (w.heap.size + 3) [.bool fl] 4) := (by show Bk _ _ _ _; rw [← hwa]; exact C5.out.alloc _); have D4 : Hid (Bk wa (w.heap.size + 2) zEx 31) := (by show Bk _ _ _ _; rw [← hwa]; exact C4.out.alloc _); have D6 : Hid (Bk wa w9.heap.size y.c 31) := (by show Bk _ _ _ _; rw [← hwa]; exact Bk.new w9 y.c _); have Ha := Lib.hid hwa; rw [hwa])
    | (refine wpList_load_one rfl 4 _ rfl _ Tryz.underlying4 rfl _ 0 _ _ _ rfl D5.out rfl ?_))
  have Hbx : Hid (Below w.heap.size w wa) := by show Below _ _ _; rw [← Ha.out]; exact B9.out.alloc (by omega) _
  have HyA : Hid (UIn (Nw (CBs B) (w.heap.size + 5) () wa) wa .expr y) := by
    show UIn _ _ _ _
    refine Hy.out.keep (fun k hk => ?_) fun k hk => ⟨hk.1, ?_, hk.2.2⟩
    · rw [← Ha.out]; exact Below.heap_alloc w9 _ k hk.2.1
    · rw [← Ha.out]; have := hk.2.1; simp; omega
  cases fl with
  | true =>
    go_wp2_with (refine wpList_store_blk rfl 31 _ _ rfl _ 0 _ _ zEx rfl rfl D4.out Hie.out (by simp [zEx]) rfl ?_; intro wb hwb)
    refine bodyPost_blk2 rfl (w.heap.size + 2) zEx _ (.int .i64 3) rfl rfl _ hwb.bk Tryz.underlying31 rfl Hie.out rfl ?_
    exact ⟨zTr, 3, rfl, Fr.toBelow Hbx.out hwb (by omega), zTr_in _ _, .inl ⟨Hfl.out.1 (by simp), rfl, rfl⟩⟩
  | false =>
    go_wp2_with (first
      | (refine wpList_load_part rfl 31 _ rfl _ Tryz.underlying31 rfl _ _ _ _ y.c rfl D6.out yi.out (by rw [List.drop_zero, List.take_length]) ?_)
      | (refine wpList_store_blk rfl 31 _ _ rfl _ 0 _ _ y.c rfl rfl D4.out yi.out (by simpa [zEx] using Nat.le_of_eq y14.out) (by simpa using y1.out) ?_; intro wb hwb))
    rw [setL_all _ _ (by simpa [zEx] using y14.out)] at hwb
    refine bodyPost_blk2 rfl (w.heap.size + 2) y.c _ (.int .i64 0) rfl rfl _ hwb.bk Tryz.underlying31 rfl yi.out rfl ?_
    refine ⟨y, 0, rfl, Fr.toBelow Hbx.out hwb (by omega), ?_, .inr ⟨fun v hv hb => ?_, rfl, Hm.out⟩⟩
    · exact (HyA.out.wrt hwb (by show B ≤ _; omega) (by omega)).lower (by omega)
    · have := Hfl.out.2 ⟨v, hv, hb⟩
      cases this
end Go.Proofs.YthijagpnpcpcbaaGreat
namespace Go.Proofs.YthijagpnpcpcbaaGreat
open Go.RowKit Go.Sort
/-- What the reference's column comes to. -/
def RColPost {σ : Type} (C : Cl σ) (mem : σ → Int × DT → Prop) (cnt : σ → Nat) (m : Cm) (d : Int) (x : DT) (s : σ) (W : World) (e : Ending) (W1 : World) : Prop :=
  ∃ (y : DT) (s' : σ), e = .returned (.agg y.c.toArray) ∧ Fr C s W s' W1 ∧ ((∀ v, mem s' v ↔ mem s v ∨ v = (d, x)) ∧ cnt s' ≤ cnt s + 1) ∧
    (m.dn d x = false → y = .node (m.cg d x) x.k ∧ UIn (fun k => k < C.B) W1 .expr y ∧ kd y.c = 2) ∧ (m.dn d x = true → UIn (Nw C W.heap.size s' W1) W1 .expr y ∧ ∃ y0, m.rs d x y0 ∧ USm .expr y0 y)
/-- A mode: its block, its kind, what it makes of columns. -/
structure Mde (σ : Type) where
  C : Cl σ
  mem : σ → Int × DT → Prop
  cnt : σ → Nat
  mp : Nat
  knd : Int
  shr : ∀ k, k < C.B → C.sh k
  m : Cm
  kat : ∀ (s : σ) (W : World), C.St s W → ∃ cs, Bk W mp cs 68 ∧ cs[0]? = some (.int .i64 knd)
  dnk : ∀ d x, m.dn d x = (decide (knd = 3) && decide (upOf x.c = d))
  col : ∀ (s : σ) (W : World) (d : Int) (x : DT), 0 ≤ d → d ≤ 1048576 → C.St s W → UIn (fun k => k < C.B) W .expr x → x.n ≤ 1048576 → kd x.c = 2 → cnt s + 1 ≤ 1048576 → Calls Tryz.prog 54 #[.pointer (some ⟨mp, 0, none⟩), .agg x.c.toArray, .int .i64 d] W (RColPost C mem cnt m d x s W)
/-- The argument by which it is handed on. -/
def Mde.v {σ : Type} (M : Mde σ) : Value := .pointer (some ⟨M.mp, 0, none⟩)
def Mde.vst {σ : Type} (M : Mde σ) (s s' : σ) (n : Nat) (X : Int × DT → Prop) : Prop := (∀ v, M.mem s' v ↔ M.mem s v ∨ X v) ∧ M.cnt s' ≤ M.cnt s + n
theorem Mde.vst.tr {σ : Type} {M : Mde σ} {s s' s'' : σ} {n m : Nat} {X Y : Int × DT → Prop} (h : M.vst s s' n X) (h' : M.vst s' s'' m Y) : M.vst s s'' (n + m) fun v => X v ∨ Y v :=
  ⟨fun v => by rw [h'.1, h.1, or_assoc], by have := h.2; have := h'.2; omega⟩
theorem Mde.vst.to {σ : Type} {M : Mde σ} {s s' : σ} {n m : Nat} {X Y : Int × DT → Prop} (h : M.vst s s' n X) (hn : n ≤ m) (hX : ∀ v, X v ↔ Y v) : M.vst s s' m Y :=
  ⟨fun v => by rw [h.1, hX], by have := h.2; omega⟩
theorem Mde.vst.no {σ : Type} {M : Mde σ} {s : σ} {n : Nat} {X : Int × DT → Prop} (h : ∀ v, ¬ X v) : M.vst s s n X := ⟨fun v => ⟨.inl, fun e => e.elim id fun e => absurd e (h v)⟩, by omega⟩
/-- What a method comes to. -/
def RmPost {σ : Type} (M : Mde σ) (t : Uy) (d : Int) (x : DT) (s : σ) (W : World) (e : Ending) (W1 : World) : Prop :=
  OnePost M.C (fun s' => M.vst s s' x.n (Vs M.m t d x)) (Mp M.m t d) t x s W e W1
/-- A method, for trees of less than N parts. -/
def RmT (f : Nat) (t : Uy) (N : Nat) : Prop := ∀ (σ : Type) (M : Mde σ) (x : DT) (d : Int) (s : σ) (W : World), x.n < N → 0 ≤ d → d + x.n ≤ 1048576 → M.C.St s W → UIn (fun k => k < M.C.B) W t x → M.cnt s + x.n ≤ 1048576 → Calls Tryz.prog f #[M.v, .agg x.c.toArray, .int .i64 d] W (RmPost M t d x s W)
/-- A list in a method. -/
def RlPost {σ : Type} (M : Mde σ) (t : Uy) (d : Int) (l : List DT) (s : σ) (W : World) (e : Ending) (W1 : World) : Prop :=
  ∃ (A : Option Addr) (cap : Nat) (ys : List DT) (s' : σ), e = .returned (.slice A l.length cap) ∧ l.length ≤ cap ∧ cap ≤ maxLen ∧ Fr M.C s W s' W1 ∧ M.vst s s' (nL l) (VL M.m t d l) ∧ LR M.C W.heap.size s' W1 t (Mp M.m t d) l A ys
def RmL (f : Nat) (t : Uy) (N : Nat) : Prop := ∀ (σ : Type) (M : Mde σ) (l : List DT) (A : Option Addr) (cap : Nat) (d : Int) (s : σ) (W : World), nL l < N → 0 ≤ d → d + nL l ≤ 1048576 → M.C.St s W → DRow (fun k => k < M.C.B) W t.sz A cap l → (∀ x, x ∈ l → UIn (fun k => k < M.C.B) W t x) → M.cnt s + nL l ≤ 1048576 → Calls Tryz.prog f #[M.v, .slice A l.length cap, .int .i64 d] W (RlPost M t d l s W)
/-- A list that is made in place: its blocks lie from b0 on; boxes may lie below. -/
structure LsJ {σ : Type} (C : Cl σ) (Sq : Nat → σ → Prop) (Rel : Nat → DT → DT → Prop) (t : Uy) (T : TypeId) (l : List DT) (s0 : σ) (w : World) (b0 : Nat) (j : Nat) (ys : List DT) (s : σ) (ov : Value) (wr : World) : Prop where
  len : ys.length = j
  own : wr.ownsRow b0 T t.sz ov j (ys.flatMap DT.c)
  fr : Fr C s0 w s wr
  sz : b0 ≤ wr.heap.size
  sq : Sq j s
  ins : ∀ y, y ∈ ys → UIn (fun k => Nw C b0 s wr k ∧ some k ≠ ov.ownBlock) wr t y
  rel : ∀ (i : Nat) x y, l[i]? = some x → ys[i]? = some y → Rel i x y
  ne : ∀ k, ov.ownBlock = some k → ¬ C.O s k
theorem LsJ.start {σ : Type} {C : Cl σ} {Sq : Nat → σ → Prop} {Rel : Nat → DT → DT → Prop} {t : Uy} {T : TypeId} {l : List DT} {s0 s : σ} {w wr : World} {b0 : Nat} (h0 : Sq 0 s) (hf : Fr C s0 w s wr) (hz : b0 ≤ wr.heap.size) : LsJ C Sq Rel t T l s0 w b0 0 [] s (.slice none 0 0) wr :=
  ⟨rfl, World.ownsRow_nil _ _ _ _, hf, hz, h0, (fun y h => by cases h), (fun i x y _ h => by simp at h), fun k h => by cases h⟩
theorem LsJ.wrt {σ : Type} {C : Cl σ} {Sq : Nat → σ → Prop} {Rel : Nat → DT → DT → Prop} {t : Uy} {T : TypeId} {l : List DT} {s0 s : σ} {w wr w5 : World} {b0 b j : Nat} {ys : List DT} {ov : Value} {cs : List Value} {T' : TypeId} (hst : C.St s0 w) (h : LsJ C Sq Rel t T l s0 w b0 j ys s ov wr) (hw : Wrt wr b cs T' w5) (h1 : w.heap.size ≤ b) (h2 : b < b0) (hO : ¬ C.O s b) : LsJ C Sq Rel t T l s0 w b0 j ys s ov w5 := by
  have hB := C.base s0 w hst
  refine ⟨h.len, own_fr h.own (by rw [hw.size]; exact Nat.le_refl _) fun k hk => hw.block k (by have := (h.own.lt k hk).1; omega), h.fr.wrt hw h1 hO, by rw [hw.size]; exact h.sz, h.sq, fun y hy => (h.ins y hy).keep (fun k hk => hw.block k (by have := hk.1.at; omega)) fun k hk => ⟨hk.1.wrt hw, hk.2⟩, h.rel, h.ne⟩
theorem LsJ.step {σ : Type} {C : Cl σ} {Sq : Nat → σ → Prop} {Rel : Nat → DT → DT → Prop} {t : Uy} {T : TypeId} {l : List DT} {s0 s s' : σ} {w wr W2 w3 w4 : World} {b0 j : Nat} {ys : List DT} {ov ov' : Value} {x y : DT} {o : Obj} (hst : C.St s0 w) (hb0 : w.heap.size ≤ b0) (h : LsJ C Sq Rel t T l s0 w b0 j ys s ov wr) (hx : l[j]? = some x)
    (hW2 : Below wr.heap.size wr W2) (hf : Fr C s W2 s' w3) (hq : Sq (j + 1) s') (hy : UIn (Nw C W2.heap.size s' w3) w3 t y) (hr : Rel j x y) (hown : w4.ownsRow b0 T t.sz ov' (j + 1) (ys.flatMap DT.c ++ y.c)) (hg : (w3.alloc o).grownBy w4 ov.ownBlock) (hm : Moved (w3.alloc o) ov ov') :
    LsJ C Sq Rel t T l s0 w b0 (j + 1) (ys ++ [y]) s' ov' w4 := by
  have z0 := h.fr.size
  have zb := h.sz
  have z1 := hW2.size
  have z2 := hf.size
  have z3 : w3.heap.size + 1 ≤ w4.heap.size := by have := hg.size; simpa using this
  have hol := h.own.lt
  have hB := C.base s0 w hst
  have hnO : ∀ k, ov.ownBlock = some k → ¬ C.O s' k := fun k hk e => by
    have := hol k hk
    rcases hf.own k e with e | e
    · exact h.ne k hk e
    · omega
  have h43 : ∀ k, k < w3.heap.size → some k ≠ ov.ownBlock → w4.heap[k]? = w3.heap[k]? := fun k hk hne => (hg.block k (by simp; omega) hne).trans (Below.heap_alloc w3 o k hk)
  have hmv : ∀ k, ov'.ownBlock = some k → ov.ownBlock = some k ∨ w3.heap.size < k := fun k hk => by
    rcases hm with e | e
    · exact .inl (e.symm.trans hk)
    · have := e k hk
      simp at this
      exact .inr (by omega)
  have f1 : Fr C s0 w s' w3 := (h.fr.trans (Fr.below h.fr.st hW2)).trans hf
  refine ⟨by simp [h.len], by rw [List.flatMap_append]; simpa using hown, ⟨hg.os.trans f1.os, hg.tape.trans f1.tape, hg.output.trans f1.output, by omega, fun k hk hn => ?_, f1.own, ?_⟩, by omega, hq, fun u hu => ?_, fun i a b ha hb => ?_, fun k hk e => ?_⟩
  · exact (h43 k (by omega) fun e => by have := (hol k e.symm).1; omega).trans (f1.block k hk hn)
  · exact C.keep s' w3 w4 f1.st (fun k hk => hk.elim (fun hk => h43 k (C.lt s' w3 f1.st k hk) fun e => hnO k e.symm hk) fun hk => h43 k (by omega) fun e => by have := (hol k e.symm).1; omega) (by omega)
  · rcases List.mem_append.1 hu with hu | hu
    · refine (h.ins u hu).keep (fun k hk => ?_) (fun k hk => ?_)
      · obtain ⟨⟨k1, k2, k3⟩, k4⟩ := hk
        exact (h43 k (by omega) k4).trans ((hf.block k (by omega) k3).trans (hW2.block k k2))
      · obtain ⟨⟨k1, k2, k3⟩, k4⟩ := hk
        refine ⟨⟨k1, by omega, fun e => ?_⟩, fun e => ?_⟩
        · rcases hf.own k e with e | e
          · exact k3 e
          · omega
        · rcases hmv k e.symm with e | e
          · exact k4 e.symm
          · omega
    · rw [List.mem_singleton] at hu
      subst hu
      refine hy.keep (fun k hk => ?_) (fun k hk => ?_)
      · have k1 := hk.at
        obtain ⟨_, k2, k3⟩ := hk
        exact h43 k k2 fun e => by have := hol k e.symm; omega
      · have k0 := hk.at
        obtain ⟨k1, k2, k3⟩ := hk
        refine ⟨⟨k1.imp id fun h => by omega, by omega, k3⟩, fun e => ?_⟩
        rcases hmv k e.symm with e | e
        · have := hol k e; omega
        · omega
  · by_cases hi : i < ys.length
    · exact h.rel i a b ha (by rw [List.getElem?_append_left hi] at hb; exact hb)
    · rw [List.getElem?_append_right (by omega)] at hb
      have e0 : i - ys.length = 0 := by
        have := (List.getElem?_eq_some_iff.1 hb).1
        simp at this
        omega
      rw [e0] at hb
      simp at hb
      subst hb
      have : i = j := by have := h.len; omega
      subst this
      rw [hx] at ha
      cases ha
      exact hr
  · rcases hmv k hk with h1 | h1
    · exact hnO k h1 e
    · have := C.lt s' w3 f1.st k e; omega
theorem LsJ.lr {σ : Type} {C : Cl σ} {Sq : Nat → σ → Prop} {Rel : Nat → DT → DT → Prop} {t : Uy} {T : TypeId} {l : List DT} {s0 s : σ} {w wr : World} {b0 : Nat} {ys : List DT} {ov : Value} {n : Nat} (h : LsJ C Sq Rel t T l s0 w b0 n ys s ov wr) (hl : l.length = n) :
    ∃ A cap, ov = .slice A l.length cap ∧ l.length ≤ cap ∧ cap ≤ maxLen ∧ LR C b0 s wr t (fun _ _ => True) l A ys := by
  obtain ⟨A, cap, e, hrow, _⟩ := own_structs h.own h.len (fun x hx => (h.ins x hx).len)
  have hk := hrow.keep (S' := Nw C b0 s wr) (w' := wr) (fun _ _ => rfl) (fun k hk => ⟨.inr hk.2.1, hk.2.2, fun e => h.ne k hk.1 e⟩)
  have h1 := hk.1
  have h2 := hk.2.1
  rw [h.len] at h1
  refine ⟨A, cap, by rw [e, hl], by omega, h2, ⟨by rw [h.len, hl], fun _ _ _ _ _ => trivial, ⟨by rw [h.len, hl]; exact Nat.le_refl _, by omega, hk.2.2⟩, fun y hy => (h.ins y hy).keep (fun _ _ => rfl) (fun k hk => hk.1)⟩⟩
/-- What has been visited in a list so far. -/
def JSq {σ : Type} (M : Mde σ) (t : Uy) (dq : Nat → Int) (l : List DT) (s1 : σ) (j : Nat) (s2 : σ) : Prop := M.vst s1 s2 (nL (l.take j)) fun v => ∃ (i : Nat) (x : DT), i < j ∧ l[i]? = some x ∧ Vs M.m t (dq i) x v
theorem JSq.start {σ : Type} {M : Mde σ} {t : Uy} {dq : Nat → Int} {l : List DT} {s1 : σ} : JSq M t dq l s1 0 s1 := Mde.vst.no fun v h => by obtain ⟨_, _, h, _⟩ := h; omega
theorem JSq.step {σ : Type} {M : Mde σ} {t : Uy} {dq : Nat → Int} {l : List DT} {s1 s2 s3 : σ} {j : Nat} {x : DT} (h : JSq M t dq l s1 j s2) (hx : l[j]? = some x) (h3 : M.vst s2 s3 x.n (Vs M.m t (dq j) x)) : JSq M t dq l s1 (j + 1) s3 := by
  refine (Mde.vst.tr h h3).to (Nat.le_of_eq (nL_take_succ hx).symm) fun v => ?_
  constructor
  · rintro (⟨i, x', hi, hx', hv⟩ | hv)
    · exact ⟨i, x', by omega, hx', hv⟩
    · exact ⟨j, x, by omega, hx, hv⟩
  · rintro ⟨i, x', hi, hx', hv⟩
    by_cases hij : i = j
    · subst hij
      rw [hx] at hx'
      cases hx'
      exact .inr hv
    · exact .inl ⟨i, x', by omega, hx', hv⟩
theorem JSq.fin {σ : Type} {M : Mde σ} {t : Uy} {dq : Nat → Int} {l : List DT} {s1 s2 : σ} {n : Nat} (h : JSq M t dq l s1 n s2) (hn : l.length = n) : M.vst s1 s2 (nL l) fun v => ∃ (i : Nat) (x : DT), l[i]? = some x ∧ Vs M.m t (dq i) x v := by
  refine Mde.vst.to h (by rw [← hn, List.take_length]; exact Nat.le_refl _) fun v => ?_
  constructor
  · rintro ⟨i, x, _, hx, hv⟩
    exact ⟨i, x, hx, hv⟩
  · rintro ⟨i, x, hx, hv⟩
    exact ⟨i, x, by rw [← hn]; exact (List.getElem?_eq_some_iff.1 hx).1, hx, hv⟩
theorem LR.upgrade {σ : Type} {C : Cl σ} {b0 : Nat} {s : σ} {W : World} {t : Uy} {Rel : DT → DT → Prop} {l ys : List DT} {A : Option Addr} (h : LR C b0 s W t (fun _ _ => True) l A ys) (hr : ∀ (i : Nat) x y, l[i]? = some x → ys[i]? = some y → Rel x y) : LR C b0 s W t Rel l A ys := ⟨h.len, hr, h.row, h.ins⟩
end Go.Proofs.YthijagpnpcpcbaaGreat
namespace Go.Proofs.YthijagpnpcpcbaaGreat
open Go.RowKit Go.Sort
set_option maxRecDepth 100000 in
set_option maxHeartbeats 4000000 in
theorem rlist_step (N : Nat) (h : RmT 33 .expr N) : RmL 69 .expr N := by
  intro σ M l A cap d s0 w hn0 hd hd2 hst hl hin hcn
  obtain ⟨i0, hi, hrest⟩ := Option.map_eq_some_iff.1 infoExp_u
  simp only [Prod.mk.injEq] at hrest
  obtain ⟨hz0, isz, iby⟩ := hrest
  obtain ⟨z, iz, hzs⟩ := Option.map_eq_some_iff.1 hz0
  obtain ⟨n, hlen⟩ : ∃ n, l.length = n := ⟨_, rfl⟩
  have hB := M.C.base s0 w hst
  have hln := len_nL l
  have hn : n ≤ 1048576 := by omega
  rw [hlen]
  have Hl := Lib.hid hl
  have Hin := Lib.hid hin
  have Hlen := Lib.hid hlen
  have Hst := Lib.hid hst
  have Hn0 := Lib.hid hn0
  have Hd2 := Lib.hid hd2
  have Hcn := Lib.hid hcn
  clear hl hin hlen hst hn0 hd2 hcn hln
  unfold Mde.v
  go_enter Tryz.func69, Tryz.ntmps69
  go_wp2
  go_loopw [7, 13] (fun ov i wr => ∃ (j : Nat) (ys : List DT) (s : σ), j ≤ n ∧ i = .int .i64 j ∧ LsJ M.C (JSq M .expr (fun _ => d) l s0) (fun _ => Mp M.m .expr d) .expr 31 l s0 w w.heap.size j ys s ov wr) (fun _ i _ => n - (intOf i).toNat)
  case atStart => exact ⟨0, [], s0, Nat.zero_le _, rfl, LsJ.start JSq.start (Fr.refl Hst.out) (Nat.le_refl _)⟩
  case round =>
    obtain ⟨j, ys, s, hj, rfl, hI⟩ := hrel
    have HI := Lib.hid hI
    by_cases hlt : j < n
    · obtain ⟨x, ad, hx, rfl, hb, hat⟩ := (Hl.out.keep (hI.fr.src Hst.out) (fun _ h => h)).get (show j < l.length by rw [Hlen.out]; exact hlt)
      have hxi := (Hin.out x (mem_of_get? hx)).keep (hI.fr.src Hst.out) fun _ h => h
      have hx6 := hxi.len
      have HiE : Hid ((Tryz.prog.info? 31).map (·.size) = some x.c.length) := by show _ = _; rw [hx6, hi]; simp [isz, Uy.sz]
      have HiE2 : Hid ((Tryz.prog.info? 31).map (·.size) = some x.c.toArray.size) := by show _ = _; rw [List.size_toArray, hx6, hi]; simp [isz, Uy.sz]
      have Hz : Hid (x.c.toArray.size = 14) := by show _ = _; rw [List.size_toArray, hx6]; rfl
      have H1 := Lib.hid (all_one hxi.ones)
      have Hat := Lib.hid (at_add hat)
      obtain ⟨W2, hW2⟩ : ∃ W2, wr.alloc (.cells x.c.toArray 31) = W2 := ⟨_, rfl⟩
      have Hcell : Hid (∀ j u, x.c[j]? = some u → W2.cell? ((⟨wr.heap.size, 0, none⟩ : Addr).add j) = some u) := by show ∀ j u, _ → _; rw [← hW2]; exact new_cellsT wr x.c 31
      have hbW2 : Below wr.heap.size wr W2 := by rw [← hW2]; exact bel1 _ _
      have hxn := n_mem (mem_of_get? hx)
      have hcall : Calls Tryz.prog 33 #[M.v, .agg x.c.toArray, .int .i64 d] W2 (RmPost M .expr d x s W2) := by
        have hf2 := Fr.below hI.fr.st hbW2
        refine h σ M x d s W2 (by have := Hn0.out; omega) hd (by have := Hd2.out; omega) hf2.st (hxi.keep (hf2.src hI.fr.st) fun _ h => h) ?_
        have h1 := hI.sq.2
        have h2 := nL_take_succ hx
        have h3 := nL_take_le l (j + 1)
        have := Hcn.out
        omega
      have Hx := Lib.hid hx
      have HW2 := Lib.hid hW2
      have HbW2 := Lib.hid hbW2
      have hjn : j < 1048576 := by omega
      have h3 : Hid (j + 1 ≤ maxLen) := by show _ ≤ _; unfold maxLen; omega
      have h4 : Hid ((j + 1) * 184 ≤ 140737488355328) := by show _ ≤ _; omega
      have hcallH : Hid (Calls Tryz.prog 33 #[.pointer (some ⟨M.mp, 0, none⟩), .agg x.c.toArray, .int .i64 d] W2 fun e w3 => ∃ (y : DT) (s' : σ), e = .returned (.agg y.c.toArray) ∧ Hid (Fr M.C s W2 s' (w3.alloc (.cells y.c.toArray 31))) ∧ Hid (JSq M .expr (fun _ => d) l s0 (j + 1) s') ∧ Hid (UIn (Nw M.C W2.heap.size s' (w3.alloc (.cells y.c.toArray 31))) (w3.alloc (.cells y.c.toArray 31)) .expr y) ∧ Hid (Mp M.m .expr d x y) ∧ Hid (y.c.toArray.size = 14) ∧ Hid ((Tryz.prog.info? 31).map (·.size) = some y.c.length) ∧ Hid (∀ u, u ∈ y.c → u.oneCell' = true) ∧ Hid (y.c.toArray.all (·.oneCell') = true) ∧
          Hid ((w3.alloc (.cells y.c.toArray 31)).ownsRow w.heap.size 31 14 u7 j (ys.flatMap DT.c)) ∧ Hid (∀ o, w.heap.size ≤ ((w3.alloc (.cells y.c.toArray 31)).alloc o).heap.size) ∧ Hid (Bk (w3.alloc (.cells y.c.toArray 31)) w3.heap.size y.c 31)) := by
        refine hcall.mono ?_
        rintro e w3 ⟨y, s', rfl, hf, hv, hy, hr⟩
        have hb0 := hbW2.size
        have hfz := hf.size
        have hw0 := hI.fr.size
        have fa := Fr.below hf.st (bel1 w3 (.cells y.c.toArray 31))
        refine ⟨y, s', rfl, hf.trans fa, hI.sq.step hx hv, hy.fr fa, hr, ?_, ?_, hy.ones, all_one hy.ones, own_fr hI.own (by simp; omega) fun k hk => ?_, fun o => by simp; omega, Bk.new w3 y.c _⟩
        · show _ = _
          rw [List.size_toArray, hy.len]; rfl
        · show _ = _
          rw [hy.len, hi]; simp [isz, Uy.sz]
        · have hl := hI.own.lt k hk
          exact (Below.heap_alloc w3 _ k (by omega)).trans ((hf.block k (by omega) (hI.ne k hk)).trans (hbW2.block k hl.2))
      clear hat hxi hx6 hx hW2 hI hbW2 hcall hxn
      go_upto_region 5 with (first | (refine wpList_load_st rfl 31 _ rfl _ Tryz.underlying31 rfl (ad.add (j * 14)) x.c HiE.out rfl Hat.out ?_) | (refine wpList_store_st rfl 31 _ _ rfl _ x.c.toArray HiE2.out Hz.out.symm H1.out rfl rfl ?_))
      rw [HW2.out]
      go_wp2_with (first
        | (refine wpList_load_st rfl 31 _ rfl _ Tryz.underlying31 rfl ⟨wr.heap.size, 0, none⟩ x.c HiE.out rfl Hcell.out ?_)
        | (go_at_call 33; refine hcallH.out.mono ?_; rintro e w3 ⟨y, s', rfl, Hf, Hq, Hy, Hr, Hzy, Hyi, H1y, H1a, Hown3, Hz3, Hk3⟩)
        | (refine wpList_store_st rfl 31 _ _ rfl _ y.c.toArray (by simpa using Hyi.out) Hzy.out.symm H1a.out rfl rfl ?_)
        | (refine wpList_load_part rfl 31 _ rfl _ Tryz.underlying31 rfl _ _ _ _ y.c rfl Hk3.out Hyi.out (by rw [List.drop_zero, List.take_length]) ?_)
        | (refine wpList_one_st rfl 28 31 _ rfl i0 Tryz.underlying28 hi _ iz y.c.toArray (isz.trans Hzy.out.symm) (hzs.trans Hzy.out.symm) (by rw [Hzy.out]; decide) (by rw [Hzy.out]; decide) rfl ?_)
        | (at_builtin; refine wpList_append_row _ rfl _ _ 28 rfl w.heap.size 31 i0 _ 14 184 Tryz.underlying28 hi iz isz iby hzs (by decide) u7 _ _ rfl (Hown3.out.alloc _) (some ⟨(w3.alloc (.cells y.c.toArray 31)).heap.size, 0, none⟩) 1 1 y.c rfl (by rw [← List.size_toArray, Hzy.out]) (new_srcK _ _ _) H1y.out h3.out h4.out (Hz3.out _) ?_; intro ov' w4 hown4 hg4 hm4))
      have Hst' := Lib.hid (HI.out.step Hst.out (Nat.le_refl _) Hx.out HbW2.out Hf.out Hq.out Hy.out Hr.out hown4 hg4 hm4)
      clear hown4
      go_wp2_with fail
      go_roundw
      case rel => exact ⟨j + 1, ys ++ [y], s', by omega, by simp, Hst'.out⟩
      case measure => simp [intOf]; omega
    · obtain rfl : j = n := by omega
      obtain ⟨A2, c2, rfl, hc1, hc2, hlr⟩ := hI.lr Hlen.out
      clear hI
      go_wp2
      go_ret
      have hI := HI.out
      exact ⟨A2, c2, ys, s, rfl, hc1, hc2, hI.fr, hI.sq.fin Hlen.out, hlr.upgrade hI.rel⟩
end Go.Proofs.YthijagpnpcpcbaaGreat
namespace Go.Proofs.YthijagpnpcpcbaaGreat
open Go.RowKit Go.Sort
/-- A method's boxes: the struct, the result. -/
structure Mq {σ : Type} (M : Mde σ) (T : TypeId) (zs : List Value) (s0 : σ) (W : World) (cs : List Value) (s : σ) (w : World) : Prop where
  fr : Fr M.C s0 W s w
  sz : W.heap.size + 2 ≤ w.heap.size
  no : ∀ b, W.heap.size ≤ b → b < W.heap.size + 2 → ¬ M.C.O s b
  b4 : Bk w W.heap.size cs T
  b6 : Bk w (W.heap.size + 1) zs T
/-- What lists came to is kept. -/
def Tk {σ : Type} (M : Mde σ) (b0 : Nat) (s : σ) (w : World) (s' : σ) (w' : World) : Prop := ∀ (t : Uy) (Rel : DT → DT → Prop) (l : List DT) (A : Option Addr) (ys : List DT), LR M.C b0 s w t Rel l A ys → LR M.C b0 s' w' t Rel l A ys
theorem Tk.refl {σ : Type} (M : Mde σ) (b0 : Nat) (s : σ) (w : World) : Tk M b0 s w s w := fun _ _ _ _ _ h => h
theorem Tk.trans {σ : Type} {M : Mde σ} {b0 : Nat} {s s' s'' : σ} {w w' w'' : World} (h : Tk M b0 s w s' w') (h' : Tk M b0 s' w' s'' w'') : Tk M b0 s w s'' w'' := fun _ _ _ _ _ x => h' _ _ _ _ _ (h _ _ _ _ _ x)
theorem Mq.call {σ : Type} {M : Mde σ} {T : TypeId} {zs cs : List Value} {s0 s s' : σ} {W w w' : World} (h : Mq M T zs s0 W cs s w) (hf : Fr M.C s w s' w') : Mq M T zs s0 W cs s' w' ∧ Tk M (W.heap.size + 2) s w s' w' := by
  have hz := h.sz
  have hz2 := hf.size
  refine ⟨⟨h.fr.trans hf, by omega, fun b h1 h2 e => ?_, h.b4.fr hf (h.no _ (by omega) (by omega)), h.b6.fr hf (h.no _ (by omega) (by omega))⟩, fun _ _ _ _ _ x => x.fr hf⟩
  rcases hf.own b e with e | e
  · exact h.no b h1 h2 e
  · omega
theorem Mq.set {σ : Type} {M : Mde σ} {T : TypeId} {zs cs cs' : List Value} {s0 s : σ} {W w w' : World} (hB : M.C.B ≤ W.heap.size) (h : Mq M T zs s0 W cs s w) (hw : Wrt w W.heap.size cs' T w') : Mq M T zs s0 W cs' s w' ∧ Tk M (W.heap.size + 2) s w s w' :=
  ⟨⟨h.fr.wrt hw (by omega) (h.no _ (by omega) (by omega)), by rw [hw.size]; exact h.sz, h.no, hw.bk, h.b6.wrt hw (by omega)⟩, fun _ _ _ _ _ x => x.wrt hw (by omega) (by omega)⟩
theorem Mq.ret {σ : Type} {M : Mde σ} {T : TypeId} {zs cs zs' : List Value} {s0 s : σ} {W w w' : World} (hB : M.C.B ≤ W.heap.size) (h : Mq M T zs s0 W cs s w) (hw : Wrt w (W.heap.size + 1) zs' T w') : Fr M.C s0 W s w' ∧ Tk M (W.heap.size + 2) s w s w' :=
  ⟨h.fr.wrt hw (by omega) (h.no _ (by omega) (by omega)), fun _ _ _ _ _ x => x.wrt hw (by omega) (by omega)⟩
theorem Mq.new {σ : Type} {M : Mde σ} {T : TypeId} {zs cs : List Value} {s0 : σ} {W w1 w2 : World} (hst : M.C.St s0 W) (e1 : W.alloc (.cells cs.toArray T) = w1) (e2 : w1.alloc (.cells zs.toArray T) = w2) : Mq M T zs s0 W cs s0 w2 := by
  have hz1 : w1.heap.size = W.heap.size + 1 := by rw [← e1]; simp
  have hz2 : w2.heap.size = W.heap.size + 2 := by rw [← e2]; simp [hz1]
  refine ⟨Fr.below hst ?_, by omega, fun b h1 h2 e => by have := M.C.lt s0 W hst b e; omega, ?_, ?_⟩
  · rw [← e2, ← e1]; exact ((Below.refl _ _).alloc (Nat.le_refl _) _).alloc (by simp) _
  · rw [← e2, ← e1]; exact (Bk.new W cs _).alloc _
  · rw [← e2, ← hz1]; exact Bk.new w1 zs _
/-- What stands in the source, as a part of a result. -/
theorem Nw.src {σ : Type} {M : Mde σ} {b : Nat} {s0 s : σ} {W w : World} (hst : M.C.St s0 W) (hf : Fr M.C s0 W s w) {k : Nat} (hk : k < M.C.B) : Nw M.C b s w k :=
  ⟨.inl (M.shr k hk), by have := M.C.base s0 W hst; have := hf.size; omega, fun e => by have := M.C.ob s k e; omega⟩
theorem srcKR {σ : Type} {M : Mde σ} {b : Nat} {s0 s : σ} {W w : World} {t : Uy} {l : List DT} {A : Option Addr} {cap : Nat} (hst : M.C.St s0 W) (hf : Fr M.C s0 W s w) (hr : DRow (fun k => k < M.C.B) W t.sz A cap l) (hi : ∀ x, x ∈ l → UIn (fun k => k < M.C.B) W t x) {c : List Value} {o : Nat} (hc : c[o]? = some (.slice A l.length cap)) :
    ∃ A cap, c[o]? = some (.slice A l.length cap) ∧ DRow (Nw M.C b s w) w t.sz A cap l ∧ ∀ x, x ∈ l → UIn (Nw M.C b s w) w t x :=
  ⟨A, cap, hc, hr.keep (hf.src hst) fun _ h => Nw.src hst hf h, fun x hx => (hi x hx).keep (hf.src hst) fun _ h => Nw.src hst hf h⟩
/-- A list in a method. -/
def MqPost {σ : Type} (M : Mde σ) (T : TypeId) (zs : List Value) (s0 : σ) (W : World) (cs : List Value) (t : Uy) (d : Int) (l : List DT) (s : σ) (w : World) (e : Ending) (w' : World) : Prop :=
  ∃ (A : Option Addr) (cap : Nat) (ys : List DT) (s' : σ), e = .returned (.slice A l.length cap) ∧ (l.length ≤ cap ∧ cap ≤ maxLen) ∧ Mq M T zs s0 W cs s' w' ∧ Tk M (W.heap.size + 2) s w s' w' ∧ M.vst s s' (nL l) (VL M.m t d l) ∧ LR M.C (W.heap.size + 2) s' w' t (Mp M.m t d) l A ys
theorem Mq.post {σ : Type} {M : Mde σ} {T : TypeId} {zs cs : List Value} {s0 s : σ} {W w : World} {t : Uy} {d : Int} {l : List DT} {e : Ending} {w' : World} (h : Mq M T zs s0 W cs s w) (hp : RlPost M t d l s w e w') : MqPost M T zs s0 W cs t d l s w e w' := by
  obtain ⟨A, cap, ys, s', he, h1, h2, hf, hv, hr⟩ := hp
  obtain ⟨m1, m2⟩ := h.call hf
  exact ⟨A, cap, ys, s', he, ⟨h1, h2⟩, m1, m2, hv, hr.lower h.sz⟩
theorem Mq.list {σ : Type} {M : Mde σ} {f : Nat} {N : Nat} {t : Uy} (hf : RmL f t N) {T : TypeId} {zs cs : List Value} {s0 s : σ} {W w : World} (hst : M.C.St s0 W) (h : Mq M T zs s0 W cs s w) (l : List DT) (A : Option Addr) (cap : Nat) (d : Int) (hn : nL l < N) (hd : 0 ≤ d) (hd2 : d + nL l ≤ 1048576) (hl : DRow (fun k => k < M.C.B) W t.sz A cap l) (hin : ∀ x, x ∈ l → UIn (fun k => k < M.C.B) W t x) (hcn : M.cnt s + nL l ≤ 1048576) :
    Calls Tryz.prog f #[M.v, .slice A l.length cap, .int .i64 d] w (MqPost M T zs s0 W cs t d l s w) :=
  (hf σ M l A cap d s w hn hd hd2 h.fr.st (hl.keep (h.fr.src hst) fun _ h => h) (fun x hx => (hin x hx).keep (h.fr.src hst) fun _ h => h) hcn).mono fun _ _ hp => h.post hp
set_option maxRecDepth 100000 in
set_option maxHeartbeats 4000000 in
theorem ragg_step (N : Nat) (h : RmL 69 .expr N) : RmT 70 .agg N := by
  intro σ M x d s W hn hd hd2 hst hx hcn
  obtain ⟨k, p, ds, A, ac, az, B, bc, bz, rfl, ok, ra, ia, rb, ib⟩ := hx.ag
  have hB := M.C.base s W hst
  rw [DT.n_node] at hn hd2 hcn
  simp at hn hd2 hcn
  show Calls _ _ #[.pointer (some ⟨M.mp, 0, none⟩), .agg #[.int .i64 k, .int .i64 p, .bool ds, .slice A az.length ac, .slice B bz.length bc], .int .i64 d] _ _
  obtain ⟨w1, hw1⟩ : ∃ w1, W.alloc (.cells #[.int .i64 k, .int .i64 p, .bool ds, .slice A az.length ac, .slice B bz.length bc] 99) = w1 := ⟨_, rfl⟩
  obtain ⟨w2, hw2⟩ : ∃ w2, w1.alloc (.cells #[.int .i64 0, .int .i64 0, .bool false, .slice none 0 0, .slice none 0 0] 99) = w2 := ⟨_, rfl⟩
  have hz1 : w1.heap.size = W.heap.size + 1 := by rw [← hw1]; simp
  have hz2 : w2.heap.size = W.heap.size + 2 := by rw [← hw2]; simp [hz1]
  have hmd := Mq.new (M := M) (cs := [.int .i64 k, .int .i64 p, .bool ds, .slice A az.length ac, .slice B bz.length bc]) (zs := [.int .i64 0, .int .i64 0, .bool false, .slice none 0 0, .slice none 0 0]) hst hw1 hw2
  have hc1 : Hid (∀ s' w' cs, Mq M 99 [.int .i64 0, .int .i64 0, .bool false, .slice none 0 0, .slice none 0 0] s W cs s' w' → M.cnt s' + nL az ≤ 1048576 → Calls Tryz.prog 69 #[.pointer (some ⟨M.mp, 0, none⟩), .slice A az.length ac, .int .i64 d] w' (MqPost M 99 [.int .i64 0, .int .i64 0, .bool false, .slice none 0 0, .slice none 0 0] s W cs .expr d az s' w')) := fun s' w' cs hm hc => hm.list h hst az A ac d (by omega) hd (by omega) ra ia hc
  have hc2 : Hid (∀ s' w' cs, Mq M 99 [.int .i64 0, .int .i64 0, .bool false, .slice none 0 0, .slice none 0 0] s W cs s' w' → M.cnt s' + nL bz ≤ 1048576 → Calls Tryz.prog 69 #[.pointer (some ⟨M.mp, 0, none⟩), .slice B bz.length bc, .int .i64 d] w' (MqPost M 99 [.int .i64 0, .int .i64 0, .bool false, .slice none 0 0, .slice none 0 0] s W cs .expr d bz s' w')) := fun s' w' cs hm hc => hm.list h hst bz B bc d (by omega) hd (by omega) rb ib hc
  have Hm0 := Lib.hid hmd
  have Hcn := Lib.hid hcn
  have q1 := Lib.hid (hc1.out _ _ _ hmd (by omega))
  have i1 := Lib.hid uIle
  have i5 := Lib.hid uI99
  clear hc1
  clear hmd hn hd2 hcn ra ia rb ib hx h
  go_enter Tryz.func70, Tryz.ntmps70
  go_wp2_with (first
    | (refine wpList_load_one rfl 28 _ rfl _ Tryz.underlying28 rfl _ 3 _ _ _ rfl Hm0.out.b4 rfl ?_)
    | (go_at_call 69; (with_reducible refine q1.out.mono ?_); rintro e w5 ⟨A1, c1, y1, s1, rfl, l1, mm, tt, vv, rr⟩; have Hm1 := Lib.hid mm; have V1 := Lib.hid vv; have R1 := Lib.hid rr; have L1 := Lib.hid l1; clear mm tt vv rr l1)
    | (refine wpList_store_blk rfl 28 _ _ rfl _ 3 _ _ [.slice A1 az.length c1] rfl rfl Hm1.out.b4 i1.out (by simp) rfl ?_; intro w6 hw6; obtain ⟨mm, tt⟩ := Hm1.out.set hB hw6; have Hm2 := Lib.hid mm; have R1' := Lib.hid (tt _ _ _ _ _ R1.out); clear mm tt hw6 R1)
    | (refine wpList_load_one rfl 28 _ rfl _ Tryz.underlying28 rfl _ 4 _ _ _ rfl Hm2.out.b4 rfl ?_)
    | (go_at_call 69; refine (hc2.out _ _ _ Hm2.out (by have := Hcn.out; have := V1.out.2; omega)).mono ?_; rintro e w7 ⟨A2, c2, y2, s2, rfl, l2, mm, tt, vv, rr⟩; have Hm3 := Lib.hid mm; have V2 := Lib.hid vv; have R2 := Lib.hid rr; have L2 := Lib.hid l2; have R1 := Lib.hid (tt _ _ _ _ _ R1'.out); clear mm tt vv rr l2 R1')
    | (refine wpList_store_blk rfl 28 _ _ rfl _ 4 _ _ [.slice A2 bz.length c2] rfl rfl Hm3.out.b4 i1.out (by simp [setL]) rfl ?_; intro w8 hw8; obtain ⟨mm, tt⟩ := Hm3.out.set hB hw8; have Hm4 := Lib.hid mm; have R1' := Lib.hid (tt _ _ _ _ _ R1.out); have R2' := Lib.hid (tt _ _ _ _ _ R2.out); clear mm tt hw8 R1 R2)
    | (refine wpList_load_part rfl 99 _ rfl _ Tryz.underlying99 rfl _ _ _ _ [.int .i64 k, .int .i64 p, .bool ds, .slice A1 az.length c1, .slice A2 bz.length c2] rfl Hm4.out.b4 i5.out rfl ?_)
    | (refine wpList_store_blk rfl 99 _ _ rfl _ _ _ _ [.int .i64 k, .int .i64 p, .bool ds, .slice A1 az.length c1, .slice A2 bz.length c2] rfl rfl Hm4.out.b6 i5.out (by simp) rfl ?_; intro w9 hw9))
  refine bodyPost_blk rfl (W.heap.size + 1) [.int .i64 k, .int .i64 p, .bool ds, .slice A1 az.length c1, .slice A2 bz.length c2] _ rfl _ hw9.bk Tryz.underlying99 rfl i5.out rfl ?_
  obtain ⟨hf, t5⟩ := Hm4.out.ret hB hw9
  have p1 := t5 _ _ _ _ _ R1'.out
  have p2' := t5 _ _ _ _ _ R2'.out
  exact ⟨.node [.int .i64 k, .int .i64 p, .bool ds, .slice A1 az.length c1, .slice A2 bz.length c2] [y1, y2], s2, rfl, hf, (V1.out.tr V2.out).to (by rw [DT.n_node]; simp) fun v => Vs.ag.symm, UIn.mkK rfl rfl ⟨k, p, ds, _, _, rfl, ok⟩ ⟨p1.krc (by omega) L1.out.1 L1.out.2 rfl, p2'.krc (by omega) L2.out.1 L2.out.2 rfl, trivial⟩, Mp.mkK rfl rfl (fun j hj => by match j with | 0 => rfl | 1 => rfl | 2 => rfl | 3 => exact absurd (by simp [Uy.sl]) (hj .expr) | 4 => exact absurd (by simp [Uy.sl]) (hj .expr) | j + 5 => rfl) ⟨p1.ml, p2'.ml, trivial⟩⟩
end Go.Proofs.YthijagpnpcpcbaaGreat

