/-
  The reference's Substitute.
-/
import Derived.Test.YthijagpnpcpcbaaGreatQRmC
import Derived.Test.YthijagpnpcpcbaaGreatQRmK
namespace Go.Proofs.YthijagpnpcpcbaaGreat
open Go.RowKit Go.Sort
/-- Substitute's mode. -/
def MdSb (B mp : Nat) (A : Option Addr) (cap : Nat) (wl : List DT) (hwn : ∀ x, x ∈ wl → x.n ≤ 1048576) : Mde ((Int × DT → Prop) × Bool) where
  C := RSb B mp A cap wl
  mem := fun s v => s.1 v
  cnt := fun _ => 0
  mp := mp
  knd := 3
  shr := fun _ h => h
  m := sbCm wl
  kat := fun _ _ h => ⟨_, h.1.2.2.2, rfl⟩
  dnk := fun _ _ => by simp [sbCm]
  col := fun s W d x hd hd2 hst hx _ hk _ => rcol3_any B mp A cap wl hwn s W d x hd hd2 hst hx hk
/-- What the reference's Substitute comes to. -/
def RSbPost (B : Nat) (wl : List DT) (x : DT) (w : World) (e : Ending) (w' : World) : Prop :=
  ∃ (y : DT) (f : Int), e = .returned (.tuple #[.agg y.c.toArray, .int .i64 f]) ∧ Below w.heap.size w w' ∧ UIn (Nw (CBs B) w.heap.size () w') w' .expr y ∧
    (((∃ v, Vs (sbCm wl) .expr 0 x v ∧ sbBadR wl v) ∧ f = 3 ∧ y = zTr) ∨ ((∀ v, Vs (sbCm wl) .expr 0 x v → ¬ sbBadR wl v) ∧ f = 0 ∧ Mp (sbCm wl) .expr 0 x y))
set_option maxRecDepth 100000 in
set_option maxHeartbeats 4000000 in
theorem rsubst_any (B : Nat) (A : Option Addr) (cap : Nat) (wl : List DT) (x : DT) (w : World) (hB : B ≤ w.heap.size) (hn : x.n ≤ 1048576) (hx : UIn (fun k => k < B) w .expr x) (hwr : DRow (fun k => k < B) w 14 A cap wl) (hwi : ∀ y, y ∈ wl → UIn (fun k => k < B) w .expr y) (hwn : ∀ y, y ∈ wl → y.n ≤ 1048576) : Calls Tryz.prog 18 #[.agg x.c.toArray, .slice A wl.length cap] w (RSbPost B wl x w) := by
  obtain ⟨w1, hw1⟩ : ∃ w1, w.alloc (.cells x.c.toArray 31) = w1 := ⟨_, rfl⟩
  obtain ⟨w2, hw2⟩ : ∃ w2, w1.alloc (.cells #[.int .i64 0, .int .i64 0, .int .i64 0, .int .i64 0, .int .i64 0, .int .i64 0, .slice none 0 0, .int .i64 0, .int .i64 0, .int .i64 0, .string ⟨#[]⟩, .slice none 0 0, .slice none 0 0, .slice none 0 0] 31) = w2 := ⟨_, rfl⟩
  obtain ⟨w3, hw3⟩ : ∃ w3, w2.alloc (.cells #[.int .i64 3, .int .i64 0, .int .i64 0, .slice A wl.length cap, .slice none 0 0, .bool false] 68) = w3 := ⟨_, rfl⟩
  have hz1 : w1.heap.size = w.heap.size + 1 := by rw [← hw1]; simp
  have hz2 : w2.heap.size = w.heap.size + 2 := by rw [← hw2]; simp [hz1]
  have hz3 : w3.heap.size = w.heap.size + 3 := by rw [← hw3]; simp [hz2]
  have k1 : Hid (Bk w3 w.heap.size x.c 31) := by show Bk _ _ _ _; rw [← hw3, ← hw2, ← hw1]; exact ((Bk.new w x.c _).alloc _).alloc _
  have k2 : Hid (Bk w3 (w.heap.size + 1) zEx 31) := by show Bk _ _ _ _; rw [← hw3, ← hw2, ← hz1]; exact (Bk.new w1 zEx _).alloc _
  have k3 : Bk w3 (w.heap.size + 2) [.int .i64 3, .int .i64 0, .int .i64 0, .slice A wl.length cap, .slice none 0 0, .bool false] 68 := by rw [← hw3, ← hz2]; exact Bk.new w2 [.int .i64 3, .int .i64 0, .int .i64 0, .slice A wl.length cap, .slice none 0 0, .bool false] _
  have hbw : Hid (Below w.heap.size w w3) := by show Below _ _ _; rw [← hw3, ← hw2, ← hw1]; exact (((Below.refl _ _).alloc (Nat.le_refl _) _).alloc (by simp) _).alloc (by simp; omega) _
  have Hi : Hid ((Tryz.prog.info? 31).map (·.size) = some x.c.length) := by show _ = _; rw [hx.len]; exact uClExpr1
  have Hie := Lib.hid zEx_build
  have Hcl : Hid (Calls Tryz.prog 33 #[.pointer (some ⟨w.heap.size + 2, 0, none⟩), .agg x.c.toArray, .int .i64 0] w3 fun e w9 => ∃ (y : DT) (fl : Bool), e = .returned (.agg y.c.toArray) ∧
        Below w.heap.size w w9 ∧ w.heap.size + 3 ≤ w9.heap.size ∧ UIn (Nw (CBs B) (w.heap.size + 3) () w9) w9 .expr y ∧ Mp (sbCm wl) .expr 0 x y ∧ (fl = true ↔ ∃ v, Vs (sbCm wl) .expr 0 x v ∧ sbBadR wl v) ∧ Bk w9 (w.heap.size + 2) [.int .i64 3, .int .i64 0, .int .i64 0, .slice A wl.length cap, .slice none 0 0, .bool fl] 68 ∧ Bk w9 (w.heap.size + 1) zEx 31) := by
    have hst : (MdSb B (w.heap.size + 2) A cap wl hwn).C.St (fun _ => False, false) w3 :=
      ⟨⟨by rw [hz3]; omega, Iff.intro (fun h => by cases h) (fun h => h.choose_spec.1.elim), by omega, k3⟩, hwr.keep (fun k hk => hbw.out.block k (by omega)) fun _ h => h, fun y hy => (hwi y hy).keep (fun k hk => hbw.out.block k (by omega)) fun _ h => h⟩
    refine (rmexpr_any (MdSb B (w.heap.size + 2) A cap wl hwn) x 0 (fun _ => False, false) w3 (Int.le_refl _) (by omega) hst (hx.keep (fun k hk => hbw.out.block k (by omega)) fun _ h => h) (by show 0 + _ ≤ _; omega)).mono ?_
    rintro e w9 ⟨y, s', rfl, hf, hv, hy, hm⟩
    have hs9 := hf.size
    refine ⟨y, s'.2, rfl, ⟨hf.os.trans hbw.out.os, hf.tape.trans hbw.out.tape, hf.output.trans hbw.out.output, by omega, fun k hk => (hf.block k (by omega) fun e => by have := e.2; omega).trans (hbw.out.block k hk)⟩, by omega, hy.keep (fun _ _ => rfl) fun k hk => ?_, hm, ?_, hf.st.1.2.2.2, k2.out.fr hf fun e => by have := e.2; omega⟩
    · obtain ⟨h1, h2, _⟩ := hk
      refine ⟨?_, h2, fun e => e⟩
      rcases h1 with h1 | h1
      · exact .inl h1
      · exact .inr (by omega)
    · rw [show s'.2 = true ↔ ∃ v, s'.1 v ∧ sbBadR wl v from hf.st.1.2.1]
      constructor
      · rintro ⟨v, h1, h2⟩
        exact ⟨v, ((hv.1 v).1 h1).resolve_left fun h => h, h2⟩
      · rintro ⟨v, h1, h2⟩
        exact ⟨v, (hv.1 v).2 (.inr h1), h2⟩
  clear hx k3
  go_enter Tryz.func18, Tryz.ntmps18
  go_upto_if 17 with (first
    | (refine wpList_load_part rfl 31 _ rfl _ Tryz.underlying31 rfl _ _ _ _ x.c rfl k1.out Hi.out (by rw [List.drop_zero, List.take_length]) ?_)
    | (go_at_call 33; refine Hcl.out.mono ?_; rintro e w9 ⟨y, fl, rfl, b9, hz9, hy, hm, hfl, c5, c4⟩; have Hy := Lib.hid hy; have y14 : Hid (y.c.toArray.size = 14) := (by show _ = _; rw [List.size_toArray, hy.len]; rfl); have yi : Hid ((Tryz.prog.info? 31).map (·.size) = some y.c.length) := (by show _ = _; rw [hy.len]; exact uClExpr1); have y1 := Lib.hid (all_one hy.ones); have C5 := Lib.hid c5; have C4 := Lib.hid c4; have Hm := Lib.hid hm; have Hfl := Lib.hid hfl; have B9 := Lib.hid b9; clear hy c5 c4 hm hfl b9)
    | (refine wpList_store_st rfl 31 _ _ rfl _ y.c.toArray (by simpa using yi.out) y14.out.symm y1.out rfl rfl ?_; obtain ⟨wa, hwa⟩ : ∃ wa, w9.alloc (.cells y.c.toArray 31) = wa := ⟨_, rfl⟩; have D5 : Hid (Bk wa (w.heap.size + 2) [.int .i64 3, .int .i64 0, .int .i64 0, .slice A wl.length cap, .slice none 0 0, .bool fl] 68) := (by show Bk _ _ _ _; rw [← hwa]; exact C5.out.alloc _); have D4 : Hid (Bk wa (w.heap.size + 1) zEx 31) := (by show Bk _ _ _ _; rw [← hwa]; exact C4.out.alloc _); have D6 : Hid (Bk wa w9.heap.size y.c 31) := (by show Bk _ _ _ _; rw [← hwa]; exact Bk.new w9 y.c _); have Ha := Lib.hid hwa; rw [hwa])
    | (refine wpList_load_one rfl 4 _ rfl _ Tryz.underlying4 rfl _ 5 _ _ _ rfl D5.out rfl ?_))
  have Hbx : Hid (Below w.heap.size w wa) := by show Below _ _ _; rw [← Ha.out]; exact B9.out.alloc (by omega) _
  have HyA : Hid (UIn (Nw (CBs B) (w.heap.size + 3) () wa) wa .expr y) := by
    show UIn _ _ _ _
    refine Hy.out.keep (fun k hk => ?_) fun k hk => ⟨hk.1, ?_, hk.2.2⟩
    · rw [← Ha.out]; exact Below.heap_alloc w9 _ k hk.2.1
    · rw [← Ha.out]; have := hk.2.1; simp; omega
  cases fl with
  | true =>
    go_wp2_with (refine wpList_store_blk rfl 31 _ _ rfl _ 0 _ _ zEx rfl rfl D4.out Hie.out (by simp [zEx]) rfl ?_; intro wb hwb)
    refine bodyPost_blk2 rfl (w.heap.size + 1) zEx _ (.int .i64 3) rfl rfl _ hwb.bk Tryz.underlying31 rfl Hie.out rfl ?_
    exact ⟨zTr, 3, rfl, Fr.toBelow Hbx.out hwb (by omega), zTr_in _ _, .inl ⟨Hfl.out.1 (by simp), rfl, rfl⟩⟩
  | false =>
    go_wp2_with (first
      | (refine wpList_load_part rfl 31 _ rfl _ Tryz.underlying31 rfl _ _ _ _ y.c rfl D6.out yi.out (by rw [List.drop_zero, List.take_length]) ?_)
      | (refine wpList_store_blk rfl 31 _ _ rfl _ 0 _ _ y.c rfl rfl D4.out yi.out (by simpa [zEx] using Nat.le_of_eq y14.out) (by simpa using y1.out) ?_; intro wb hwb))
    rw [setL_all _ _ (by simpa [zEx] using y14.out)] at hwb
    refine bodyPost_blk2 rfl (w.heap.size + 1) y.c _ (.int .i64 0) rfl rfl _ hwb.bk Tryz.underlying31 rfl yi.out rfl ?_
    refine ⟨y, 0, rfl, Fr.toBelow Hbx.out hwb (by omega), ?_, .inr ⟨fun v hv hb => ?_, rfl, Hm.out⟩⟩
    · exact (HyA.out.wrt hwb (by show B ≤ _; omega) (by omega)).lower (by omega)
    · have := Hfl.out.2 ⟨v, hv, hb⟩
      cases this
end Go.Proofs.YthijagpnpcpcbaaGreat

