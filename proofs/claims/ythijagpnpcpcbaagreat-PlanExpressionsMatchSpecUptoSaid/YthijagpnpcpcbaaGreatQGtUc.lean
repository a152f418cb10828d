/-
  plan.referred's closure over Columns'.
  plan.referred over Columns' closure; plan.Columns.
-/
import Derived.Test.YthijagpnpcpcbaaGreatQGtTd
import Derived.Test.YthijagpnpcpcbaaGreatQGtUa
namespace Go.Proofs.YthijagpnpcpcbaaGreat
open Go.RowKit Go.Sort
set_option maxRecDepth 100000 in
set_option maxHeartbeats 4000000 in
theorem ref1_any (B nb bf bu bo : Nat) (hfo : bf ≠ bo) (huo : bu ≠ bo) (up : Int) (s : CoS) (W : World) (d : Int) (x : DT) (hst : (CCo B nb bf bu bo up).St s W) (hx : UIn (fun k => k < B) W .expr x) (hk : kd x.c = 2) (hn : s.2.1.length + 1 ≤ 1048576) :
    Calls Tryz.prog 51 (#[.agg x.c.toArray, .int .i64 d] ++ #[.pointer (some ⟨bf, 0, none⟩)]) W (ColPost (CCo B nb bf bu bo up) (fun s v => s.1 v) (fun s => s.2.1.length) sameCm d x s W) := by
  obtain ⟨w1, hw1⟩ : ∃ w1, W.alloc (.cells x.c.toArray 31) = w1 := ⟨_, rfl⟩
  obtain ⟨w2, hw2⟩ : ∃ w2, w1.alloc (.cells #[.int .i64 0, .int .i64 0, .int .i64 0, .int .i64 0, .int .i64 0, .int .i64 0, .slice none 0 0, .int .i64 0, .int .i64 0, .int .i64 0, .string ⟨#[]⟩, .slice none 0 0, .slice none 0 0, .slice none 0 0] 31) = w2 := ⟨_, rfl⟩
  have hz1 : w1.heap.size = W.heap.size + 1 := by rw [← hw1]; simp
  have hz2 : w2.heap.size = W.heap.size + 2 := by rw [← hw2]; simp [hz1]
  have hb1 : Bk w2 W.heap.size x.c 31 := by rw [← hw2, ← hw1]; exact (Bk.new W x.c _).alloc _
  have hb2 : Bk w2 (W.heap.size + 1) zEx 31 := by rw [← hw2, ← hz1]; exact Bk.new w1 zEx _
  have hbw : Below W.heap.size W w2 := by rw [← hw2, ← hw1]; exact ((Below.refl _ _).alloc (Nat.le_refl _) _).alloc (by simp) _
  have hf2 := Fr.below hst hbw
  have hlen : x.c.length = 14 := hx.len
  obtain ⟨_, u2, _, _, _⟩ := hx.upAt
  have Hi : Hid ((Tryz.prog.info? 31).map (·.size) = some x.c.length) := by show _ = _; rw [hlen]; exact uClExpr1
  have Hx3 : Hid (x.c.all (·.oneCell') = true) := by have := all_one hx.ones; show _ = _; simpa using this
  have K1 : Hid (Bk w2 bf [.func (.func 31) #[] #[.pointer (some ⟨bu, 0, none⟩), .pointer (some ⟨bo, 0, none⟩)]] 64) := hf2.st.2.2.1
  have hno : ∀ k, W.heap.size ≤ k → k < W.heap.size + 2 → ¬ (CCo B nb bf bu bo up).O s k := fun k h1 h2 e => by have := (CCo B nb bf bu bo up).lt s W hst k e; omega
  have hcall : Hid (Calls Tryz.prog 31 #[.agg x.c.toArray, .int .i64 (wrap64 (upOf x.c - d)), .pointer (some ⟨bu, 0, none⟩), .pointer (some ⟨bo, 0, none⟩)] w2 fun e w3 => e = .returned (.tuple #[]) ∧ ∃ s' : CoS, Hid (Fr (CCo B nb bf bu bo up) s W s' w3) ∧ Hid ((∀ v, s'.1 v ↔ s.1 v ∨ v = (d, x)) ∧ s'.2.1.length ≤ s.2.1.length + 1) ∧ Hid (Bk w3 W.heap.size x.c 31) ∧ Hid (Bk w3 (W.heap.size + 1) zEx 31) ∧ Hid (∀ k, W.heap.size ≤ k → k < W.heap.size + 2 → ¬ (CCo B nb bf bu bo up).O s' k)) := by
    refine (col1_any B nb bf bu bo hfo huo up s w2 d x hf2.st (hx.keep (hf2.src hst) fun _ h => h) hn).mono ?_
    rintro e w3 ⟨rfl, s', hf, hv, hc⟩
    refine ⟨rfl, s', hf2.trans hf, ⟨hv, hc⟩, hb1.fr hf (hno _ (by omega) (by omega)), hb2.fr hf (hno _ (by omega) (by omega)), fun k h1 h2 e => ?_⟩
    rcases hf.own k e with e | e
    · exact hno k h1 h2 e
    · omega
  have H1 := Lib.hid hb1
  have Hx := Lib.hid hx
  have U2 := Lib.hid u2
  have Hl := Lib.hid hlen
  have Hk := Lib.hid hk
  have Hst := Lib.hid hst
  have hBB : (CCo B nb bf bu bo up).B ≤ W.heap.size := hst.1
  obtain ⟨up', hup'⟩ : ∃ u, upOf x.c = u := ⟨_, rfl⟩
  rw [hup'] at hcall u2
  have U2 := Lib.hid u2
  clear hb1 hb2 hbw hf2 hlen u2 hx hk hst hno hup'
  show Calls _ _ #[.agg x.c.toArray, .int .i64 d, .pointer (some ⟨bf, 0, none⟩)] _ _
  go_enter Tryz.func51, Tryz.ntmps51
  go_wp2_with (first
    | (refine wpList_load_one rfl 64 _ rfl _ Tryz.underlying64 rfl _ 0 _ _ _ rfl K1.out rfl ?_)
    | (refine wpList_load_part rfl 31 _ rfl _ Tryz.underlying31 rfl _ _ _ _ x.c rfl H1.out Hi.out (by rw [List.drop_zero, List.take_length]) ?_)
    | (refine wpList_load_one rfl 3 _ rfl _ Tryz.underlying3 rfl _ 2 _ _ _ rfl H1.out U2.out ?_)
    | (go_at_call 31; refine hcall.out.mono ?_; rintro e w3 ⟨rfl, s', hf, hv, j1, j2, ho⟩)
    | (refine wpList_load_part rfl 31 _ rfl _ Tryz.underlying31 rfl _ _ _ _ x.c rfl j1.out Hi.out (by rw [List.drop_zero, List.take_length]) ?_)
    | (refine wpList_store_blk rfl 31 _ _ rfl _ _ _ _ x.c rfl rfl j2.out Hi.out (by rw [Hl.out]; decide) Hx3.out ?_; intro w5 hw5))
  rw [setL_all _ _ (by rw [Hl.out]; rfl)] at hw5
  refine bodyPost_blk2 rfl (W.heap.size + 1) x.c _ (.bool false) rfl rfl _ hw5.bk Tryz.underlying31 rfl Hi.out rfl ?_
  have f5 := hf.out.wrt hw5 (by omega) (ho.out _ (by omega) (by omega))
  exact ⟨x, s', rfl, f5, hv.out, fun _ => ⟨by cases x; rfl, Hx.out.keep (f5.src Hst.out) fun _ h => h, Hk.out⟩, fun h => by cases h⟩
end Go.Proofs.YthijagpnpcpcbaaGreat
namespace Go.Proofs.YthijagpnpcpcbaaGreat
open Go.RowKit Go.Sort
/-- referred's mapper. -/
def MCo (B nb bf bu bo : Nat) (hfo : bf ≠ bo) (huo : bu ≠ bo) (up : Int) : Mpr CoS where
  C := CCo B nb bf bu bo up
  mem := fun s v => s.1 v
  cnt := fun s => s.2.1.length
  g := 51
  lb := #[.pointer (some ⟨bf, 0, none⟩)]
  eg := enters_of Tryz.func51 (by kernel_rfl) rfl
  m := sameCm
  col := fun s W d x _ _ hst hx _ hk hn => ref1_any B nb bf bu bo hfo huo up s W d x hst hx hk hn
/-- The columns of a level. -/
def ColsAt (x : DT) (up k : Int) : Prop := ∃ v, Vs sameCm .expr 0 x v ∧ colAt up v k
def RfPost (bo : Nat) (up : Int) (x : DT) (w : World) (e : Ending) (w' : World) : Prop :=
  e = .returned (.tuple #[]) ∧ ∃ (ns : List Int) (A : Option Addr) (cap : Nat), Bk w' bo [.slice A ns.length cap] 39 ∧ IOwn w.heap.size w' A cap ns ∧ ns.length ≤ x.n ∧ (∀ k, k ∈ ns ↔ ColsAt x up k) ∧
    w'.os = w.os ∧ w'.tape = w.tape ∧ w'.output = w.output ∧ w.heap.size ≤ w'.heap.size ∧ ∀ k, k < w.heap.size → k ≠ bo → w'.heap[k]? = w.heap[k]?
set_option maxRecDepth 100000 in
set_option maxHeartbeats 4000000 in
theorem referred_any (B bu bo : Nat) (up : Int) (x : DT) (w : World) (hB : B ≤ w.heap.size) (hBu : B ≤ bu) (hBo : B ≤ bo) (huo : bu ≠ bo) (hu : Bk w bu [.int .i64 up] 3) (ho : Bk w bo [.slice none 0 0] 39) (hn : x.n ≤ 1048576) (hx : UIn (fun k => k < B) w .expr x) :
    Calls Tryz.prog 30 #[.agg x.c.toArray, .func (.func 31) #[] #[.pointer (some ⟨bu, 0, none⟩), .pointer (some ⟨bo, 0, none⟩)]] w (RfPost bo up x w) := by
  obtain ⟨w1, hw1⟩ : ∃ w1, w.alloc (.cells x.c.toArray 31) = w1 := ⟨_, rfl⟩
  obtain ⟨w2, hw2⟩ : ∃ w2, w1.alloc (.cells #[.func (.func 31) #[] #[.pointer (some ⟨bu, 0, none⟩), .pointer (some ⟨bo, 0, none⟩)]] 64) = w2 := ⟨_, rfl⟩
  obtain ⟨w3, hw3⟩ : ∃ w3, w2.alloc (.cells #[.nilFunc] 73) = w3 := ⟨_, rfl⟩
  have hz1 : w1.heap.size = w.heap.size + 1 := by rw [← hw1]; simp
  have hz2 : w2.heap.size = w.heap.size + 2 := by rw [← hw2]; simp [hz1]
  have hz3 : w3.heap.size = w.heap.size + 3 := by rw [← hw3]; simp [hz2]
  have k1 : Hid (Bk w3 w.heap.size x.c 31) := by show Bk _ _ _ _; rw [← hw3, ← hw2, ← hw1]; exact ((Bk.new w x.c _).alloc _).alloc _
  have k2 : Hid (Bk w3 (w.heap.size + 1) [.func (.func 31) #[] #[.pointer (some ⟨bu, 0, none⟩), .pointer (some ⟨bo, 0, none⟩)]] 64) := by show Bk _ _ _ _; rw [← hw3, ← hw2, ← hz1]; exact (Bk.new w1 [.func (.func 31) #[] #[.pointer (some ⟨bu, 0, none⟩), .pointer (some ⟨bo, 0, none⟩)]] _).alloc _
  have k3 : Hid (Bk w3 (w.heap.size + 2) [.nilFunc] 73) := by show Bk _ _ _ _; rw [← hw3, ← hz2]; exact Bk.new w2 [.nilFunc] _
  have hbw : Hid (Below w.heap.size w w3) := by show Below _ _ _; rw [← hw3, ← hw2, ← hw1]; exact (((Below.refl _ _).alloc (Nat.le_refl _) _).alloc (by simp) _).alloc (by simp; omega) _
  have Hi : Hid ((Tryz.prog.info? 31).map (·.size) = some x.c.length) := by show _ = _; rw [hx.len]; exact uClExpr1
  have Him := Lib.hid uIm
  have hul := hu.lt
  have hol := ho.lt
  have hcall : Hid (∀ w4, Wrt w3 (w.heap.size + 2) [(MCo B (w.heap.size + 3) (w.heap.size + 1) bu bo (by omega) huo up).v] 73 w4 → Bk w4 w.heap.size x.c 31 ∧ Calls Tryz.prog 36 #[.agg #[.func (.func 51) #[] #[.pointer (some ⟨w.heap.size + 1, 0, none⟩)]], .agg x.c.toArray, .int .i64 0] w4 fun e w5 => (∃ y : DT, e = .returned (.agg y.c.toArray)) ∧ RfPost bo up x w (.returned (.tuple #[])) w5) := by
    intro w4 h4
    have b4 : Below w.heap.size w w4 := belTr hbw.out (h4.below (by omega))
    have hz4 : w4.heap.size = w.heap.size + 3 := by rw [h4.size, hz3]
    refine ⟨k1.out.wrt h4 (by omega), ?_⟩
    have hst : (MCo B (w.heap.size + 3) (w.heap.size + 1) bu bo (by omega) huo up).C.St (fun _ => False, [], .slice none 0 0) w4 :=
      ⟨by show B ≤ _; omega, ⟨by omega, hBu, hBo, by omega, by omega, by omega, by omega⟩, k2.out.wrt h4 (by omega), (b4.block _ hul).trans hu, (b4.block _ hol).trans ho, World.ownsRow_nil _ _ _ _, fun k => Iff.intro (fun h => by cases h) (fun h => h.choose_spec.1.elim)⟩
    refine (mexpr_any (MCo B (w.heap.size + 3) (w.heap.size + 1) bu bo (by omega) huo up) x 0 (fun _ => False, [], .slice none 0 0) w4 (Int.le_refl _) (by omega) hst (hx.keep (fun k hk => b4.block k (by have hk' : k < B := hk; omega)) fun _ h => h) (by show 0 + _ ≤ _; omega)).mono ?_
    rintro e w5 ⟨y, ⟨sv, ns, ov⟩, rfl, hf, hv, _, _⟩
    obtain ⟨_, ⟨_, _, _, _, _, _, _⟩, _, ku, ko, hown, hmem⟩ := hf.st
    obtain ⟨A, cap, he⟩ := own_slice hown
    simp only at he
    subst he
    have hs5 := hf.size
    refine ⟨⟨y, rfl⟩, rfl, ns, A, cap, ko, IOwn.of_own (own_base hown (by omega)), ?_, fun k => ?_, hf.os.trans b4.os, hf.tape.trans b4.tape, hf.output.trans b4.output, by omega, fun k hk hne => ?_⟩
    · have := hv.2
      simpa [MCo] using this
    · rw [hmem k]
      constructor
      · rintro ⟨v, h1, h2⟩
        exact ⟨v, ((hv.1 v).1 h1).resolve_left fun h => h, h2⟩
      · rintro ⟨v, h1, h2⟩
        exact ⟨v, (hv.1 v).2 (.inr h1), h2⟩
    · by_cases hku : k = bu
      · subst hku
        exact (show w5.heap[k]? = _ from ku).trans (show w.heap[k]? = _ from hu).symm
      · refine (hf.block k (by omega) fun e => ?_).trans (b4.block k hk)
        rcases e.2 with e | e | e | e
        · omega
        · exact hku e
        · exact hne e
        · cases e
  clear hx hu ho
  go_enter Tryz.func30, Tryz.ntmps30
  go_wp2_with (first
    | (refine wpList_store_blk rfl 73 _ _ rfl _ 0 _ _ [.func (.func 51) #[] #[.pointer (some ⟨w.heap.size + 1, 0, none⟩)]] rfl rfl k3.out Him.out (by simp) rfl ?_; intro w4 hw4; obtain ⟨j1, hcl⟩ := hcall.out w4 hw4; have J1 := Lib.hid j1; have Hcl := Lib.hid hcl; have k4 := Lib.hid hw4.bk; clear j1 hcl hw4)
    | (refine wpList_load_part rfl 73 _ rfl _ Tryz.underlying73 rfl _ _ _ _ [.func (.func 51) #[] #[.pointer (some ⟨w.heap.size + 1, 0, none⟩)]] rfl k4.out Him.out rfl ?_)
    | (refine wpList_load_part rfl 31 _ rfl _ Tryz.underlying31 rfl _ _ _ _ x.c rfl J1.out Hi.out (by rw [List.drop_zero, List.take_length]) ?_)
    | (go_at_call 36; refine Hcl.out.mono ?_; rintro e w5 ⟨⟨y, rfl⟩, hp⟩))
  refine bodyPost_ret (results_none rfl _ _ _) rfl ?_
  exact hp
/-- What Columns comes to, of package plan and of its reference. -/
def ColsPost (up : Int) (x : DT) (w : World) (e : Ending) (w' : World) : Prop :=
  ∃ (A : Option Addr) (cap : Nat) (ns : List Int), e = .returned (.slice A ns.length cap) ∧ IRow w' A cap ns ∧ Below w.heap.size w w' ∧ ns.Pairwise (· < ·) ∧ (∀ k, k ∈ ns ↔ ColsAt x up k) ∧ ns.length ≤ x.n
set_option maxRecDepth 100000 in
set_option maxHeartbeats 4000000 in
theorem pColumns_any (B : Nat) (up : Int) (x : DT) (w : World) (hB : B ≤ w.heap.size) (hn : x.n ≤ 1048576) (hx : UIn (fun k => k < B) w .expr x) : Calls Tryz.prog 13 #[.agg x.c.toArray, .int .i64 up] w (ColsPost up x w) := by
  obtain ⟨w1, hw1⟩ : ∃ w1, w.alloc (.cells x.c.toArray 31) = w1 := ⟨_, rfl⟩
  obtain ⟨w2, hw2⟩ : ∃ w2, w1.alloc (.cells #[.int .i64 up] 3) = w2 := ⟨_, rfl⟩
  obtain ⟨w3, hw3⟩ : ∃ w3, w2.alloc (.cells #[.slice none 0 0] 39) = w3 := ⟨_, rfl⟩
  have hz1 : w1.heap.size = w.heap.size + 1 := by rw [← hw1]; simp
  have hz2 : w2.heap.size = w.heap.size + 2 := by rw [← hw2]; simp [hz1]
  have hz3 : w3.heap.size = w.heap.size + 3 := by rw [← hw3]; simp [hz2]
  have k1 : Hid (Bk w3 w.heap.size x.c 31) := by show Bk _ _ _ _; rw [← hw3, ← hw2, ← hw1]; exact ((Bk.new w x.c _).alloc _).alloc _
  have k2 : Bk w3 (w.heap.size + 1) [.int .i64 up] 3 := by rw [← hw3, ← hw2, ← hz1]; exact (Bk.new w1 [.int .i64 up] _).alloc _
  have k3 : Bk w3 (w.heap.size + 2) [.slice none 0 0] 39 := by rw [← hw3, ← hz2]; exact Bk.new w2 [.slice none 0 0] _
  have hbw : Hid (Below w.heap.size w w3) := by show Below _ _ _; rw [← hw3, ← hw2, ← hw1]; exact (((Below.refl _ _).alloc (Nat.le_refl _) _).alloc (by simp) _).alloc (by simp; omega) _
  have Hi : Hid ((Tryz.prog.info? 31).map (·.size) = some x.c.length) := by show _ = _; rw [hx.len]; exact uClExpr1
  have Hrf := Lib.hid (referred_any B (w.heap.size + 1) (w.heap.size + 2) up x w3 (by omega) (by omega) (by omega) (by omega) k2 k3 hn (hx.keep (fun k hk => hbw.out.block k (by have hk' : k < B := hk; omega)) fun _ h => h))
  clear hx k2 k3
  go_enter Tryz.func13, Tryz.ntmps13
  go_wp2_with (first
    | (refine wpList_load_part rfl 31 _ rfl _ Tryz.underlying31 rfl _ _ _ _ x.c rfl k1.out Hi.out (by rw [List.drop_zero, List.take_length]) ?_)
    | (go_at_call 30; refine Hrf.out.mono ?_; rintro e w4 ⟨rfl, ns, A, cap, ko, hown, hln, hmem, ho1, ho2, ho3, hz4, hbl⟩; have Ko := Lib.hid ko; have Hinc := Lib.hid (increasing_any ns A cap w3.heap.size w4 hown (by omega)); have Hmem := Lib.hid hmem; have Hb4 : Hid (Below w.heap.size w3 w4) := ⟨ho1, ho2, ho3, hz4, fun k hk => hbl k (by omega) (by omega)⟩; clear ko hown hmem ho1 ho2 ho3 hbl)
    | (refine wpList_load_one rfl 39 _ rfl _ Tryz.underlying39 rfl _ 0 _ _ _ rfl Ko.out rfl ?_)
    | (go_at_call 32; refine Hinc.out.mono ?_; rintro e w5 ⟨A2, cap2, rfl, ho5, hb5⟩))
  go_ret
  obtain ⟨hs1, hs2⟩ := mergeI_strict ns
  exact ⟨A2, cap2, mergeI ns, rfl, ho5.row, belTr hbw.out (belTr Hb4.out (belLo hb5 (by omega))), hs1, fun k => (hs2 k).trans (Hmem.out k), Nat.le_trans (mergeI_le ns) hln⟩
end Go.Proofs.YthijagpnpcpcbaaGreat

