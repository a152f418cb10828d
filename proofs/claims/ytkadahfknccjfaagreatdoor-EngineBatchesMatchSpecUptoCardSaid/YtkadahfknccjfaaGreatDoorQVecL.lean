/-
  Vectors, checked, by package engine.
-/
import Derived.Test.YtkadahfknccjfaaGreatDoorQVecK
import Derived.Test.YtkadahfknccjfaaGreatDoorQValJ
namespace Go.Proofs.YtkadahfknccjfaaGreatDoor
open Go.RowKit
/-- The first error of the last f values. -/
def ckFrom (v : VecT) (size : Nat) : Nat → Int
  | 0 => 0
  | f + 1 => if checkS v.t (atV v (size - (f + 1))) ≠ 0 then checkS v.t (atV v (size - (f + 1))) else ckFrom v size f
theorem ckFrom_step (v : VecT) (size j : Nat) (h : j < size) : ckFrom v size (size - j) = if checkS v.t (atV v j) ≠ 0 then checkS v.t (atV v j) else ckFrom v size (size - (j + 1)) := by
  obtain ⟨f, hf⟩ : ∃ f, size - j = f + 1 := ⟨size - j - 1, by omega⟩
  rw [hf, ckFrom, show size - (f + 1) = j by omega, show f = size - (j + 1) by omega]
/-- What is wrong with a vector of so many values. -/
def vecS (v : VecT) (n : Int) : Int :=
  if plainS v.t ≠ 0 then plainS v.t else if n < 0 ∨ 1024 < n then 3 else if formS v n.toNat = false then 1 else ckFrom v n.toNat n.toNat
theorem form_has {v : VecT} {size i : Nat} (h : formS v size = true) (hs : size ≤ 1024) (hi : i < size) : v.Has i := by
  unfold formS at h
  simp only [Bool.and_eq_true, beq_iff_eq] at h
  obtain ⟨h1, h2, h3, h4, _⟩ := h
  refine ⟨by omega, by omega, fun hk => ?_, fun hk => ?_, fun hk => ?_⟩
  · rw [if_pos hk] at h2; omega
  · rw [if_pos hk] at h3; omega
  · rw [if_pos hk] at h1; omega
theorem at_in {B : Nat} {w : World} {v : VecT} {i : Nat} (hv : VecT.In B w v) (hi : v.Has i) : VT.In B w (atV v i) := by
  have z : ∀ (k n sc : Int) (s : ByteArray), I64 k → I64 n → I64 sc → s.size ≤ maxLen → VT.In B w (.node ⟨k, n, sc, s, none, 0⟩ []) := fun k n sc s h1 h2 h3 h4 => .mk k n sc s none 0 [] h1 h2 h3 h4 ⟨Nat.le_refl _, Nat.zero_le _, fun i x hx => by simp at hx⟩ (fun x hx => by simp at hx)
  have i0 : I64 0 := ⟨by omega, by omega⟩
  have hk : I64 v.t.a.k ∧ I64 v.t.a.sc := by
    have ht := hv.t
    generalize v.t = t at ht
    obtain ⟨a, l⟩ := t
    exact ⟨ht.parts.2.2.1, ht.parts.2.2.2.1⟩
  unfold atV atK
  split
  · exact z 0 0 0 ⟨#[]⟩ i0 i0 i0 (Nat.zero_le _)
  split
  · rename_i h4
    obtain ⟨x, ad, hx, _⟩ := hv.ss.get (hi.2.2.1 (by unfold kindS; rw [if_pos h4]))
    rw [getD_of hx]
    exact z 4 0 0 x ⟨by omega, by omega⟩ i0 i0 (hv.sb x (mem_of_get? hx))
  split
  · rename_i h4 h6
    have hl := hi.2.2.2.1 (by unfold kindS; rw [if_neg h4, if_pos h6])
    have hx := List.getElem?_eq_getElem hl
    rw [getD_of hx]
    exact hv.vs.2 _ (mem_of_get? hx)
  · rename_i h4 h6
    obtain ⟨x, ad, hx, _⟩ := hv.is.get (hi.2.2.2.2 (by unfold kindS; rw [if_neg h4, if_neg h6]))
    rw [getD_of hx]
    exact z _ x _ ⟨#[]⟩ hk.1 (hv.ib x (mem_of_get? hx)) hk.2 (Nat.zero_le _)
set_option maxRecDepth 100000 in
set_option maxHeartbeats 4000000 in
theorem eCheckVector_any (v : VecT) (n : Int) (B : Nat) (w : World) (hv : VecT.In B w v) (hT : Tabs B w) (hB : B ≤ w.heap.size) :
    Calls Tryz.prog 46 #[.agg #[.int .i64 v.t.a.k, .int .i64 v.t.a.sc, .slice v.t.a.A v.t.l.length v.t.a.cap, .slice v.NA v.ns.length v.ncap, .slice v.IA v.is.length v.icap, .slice v.SA v.ss.length v.scap, .slice v.VA v.vs.length v.vcap], .int .i64 n] w fun e w' => e = .returned (.int .i64 (vecS v n)) ∧ Below w.heap.size w w' := by
  obtain ⟨R, hR⟩ : ∃ R, vecS v n = R := ⟨_, rfl⟩
  rw [hR]
  unfold vecS at hR
  obtain ⟨W0, hW0⟩ : ∃ W0, w.alloc (.cells #[.int .i64 v.t.a.k, .int .i64 v.t.a.sc, .slice v.t.a.A v.t.l.length v.t.a.cap, .slice v.NA v.ns.length v.ncap, .slice v.IA v.is.length v.icap, .slice v.SA v.ss.length v.scap, .slice v.VA v.vs.length v.vcap] 54) = W0 := ⟨_, rfl⟩
  have hbw : Below w.heap.size w W0 := by rw [← hW0]; exact bel1 _ _
  have hz0 : W0.heap.size = w.heap.size + 1 := by rw [← hW0]; simp
  have P0 : W0.heap[w.heap.size]? = some (.cells #[.int .i64 v.t.a.k, .int .i64 v.t.a.sc, .slice v.t.a.A v.t.l.length v.t.a.cap, .slice v.NA v.ns.length v.ncap, .slice v.IA v.is.length v.icap, .slice v.SA v.ss.length v.scap, .slice v.VA v.vs.length v.vcap] 54 (0, 0)) := by rw [← hW0]; exact heap_alloc_new w _
  have hk : Hid (∀ W, Below W0.heap.size W0 W → Below W0.heap.size W0 W ∧ W.cell? ⟨w.heap.size, 0, none⟩ = some (.int .i64 v.t.a.k) ∧ W.cell? ⟨w.heap.size, 1, none⟩ = some (.int .i64 v.t.a.sc) ∧ W.cell? ⟨w.heap.size, 2, none⟩ = some (.slice v.t.a.A v.t.l.length v.t.a.cap) ∧ W.cell? ⟨w.heap.size, 3, none⟩ = some (.slice v.NA v.ns.length v.ncap) ∧ W.cell? ⟨w.heap.size, 4, none⟩ = some (.slice v.IA v.is.length v.icap) ∧ W.cell? ⟨w.heap.size, 5, none⟩ = some (.slice v.SA v.ss.length v.scap) ∧ W.cell? ⟨w.heap.size, 6, none⟩ = some (.slice v.VA v.vs.length v.vcap)) := fun W h => by
    have Q0 := (h.block w.heap.size (by omega)).trans P0
    exact ⟨h, cell_of_row W w.heap.size 0 _ _ _ Q0, cell_of_row W w.heap.size 1 _ _ _ Q0, cell_of_row W w.heap.size 2 _ _ _ Q0, cell_of_row W w.heap.size 3 _ _ _ Q0, cell_of_row W w.heap.size 4 _ _ _ Q0, cell_of_row W w.heap.size 5 _ _ _ Q0, cell_of_row W w.heap.size 6 _ _ _ Q0⟩
  have hS0 : ∀ W, Below W0.heap.size W0 W → Same B w W ∧ B ≤ W.heap.size := fun W h => by
    have hb := hbw.trans (h.mono (by omega))
    exact ⟨Same.mono (Same.of_below hb) hB, Nat.le_trans hB hb.size⟩
  have HS0 := Lib.hid hS0
  have hpt := Lib.hid (eplainType_any v.t B W0 (hv.t.keep (hS0 W0 (Below.refl _ _)).1) (hS0 W0 (Below.refl _ _)).2)
  have HW0 := Lib.hid hW0
  have Hz0 := Lib.hid hz0
  have Hv := Lib.hid hv
  have HT := Lib.hid hT
  clear hW0 hz0 P0 hS0 hv hT
  by_cases hp : plainS v.t = 0
  rotate_left
  · rw [if_pos hp] at hR
    have n0 : (plainS v.t != 0) = true := by simpa using hp
    have HR := Lib.hid hR
    clear hp hR
    go_enter Tryz.func46, Tryz.ntmps46
    go_wp2_with fail
    rw [HW0.out]
    refine hpt.out.mono ?_
    rintro e w1 ⟨rfl, hb1⟩
    go_wp2
    go_ret
    exact ⟨by rw [← HR.out]; rfl, hbw.trans (hb1.mono (by have := Hz0.out; omega))⟩
  rw [hp, if_neg (by simp)] at hR
  have Hp := Lib.hid hp
  clear hp
  by_cases hn0 : n < 0
  · have HR := Lib.hid (show 3 = R by rw [← hR, if_pos (.inl hn0)])
    clear hR
    go_enter Tryz.func46, Tryz.ntmps46
    go_wp2_with fail
    rw [HW0.out]
    refine hpt.out.mono ?_
    rintro e w1 ⟨rfl, hb1⟩
    rw [Hp.out]
    obtain ⟨_, p0, p1, p2, p3, p4, p5, p6⟩ := hk.out w1 hb1
    have hbF : Below w.heap.size w w1 := hbw.trans (hb1.mono (by have := Hz0.out; omega))
    go_wp2
    go_ret
    exact ⟨by rw [← HR.out]; rfl, hbF⟩
  by_cases hn1 : 1024 < n
  · have HR := Lib.hid (show 3 = R by rw [← hR, if_pos (.inr hn1)])
    clear hR
    go_enter Tryz.func46, Tryz.ntmps46
    go_wp2_with fail
    rw [HW0.out]
    refine hpt.out.mono ?_
    rintro e w1 ⟨rfl, hb1⟩
    rw [Hp.out]
    obtain ⟨_, p0, p1, p2, p3, p4, p5, p6⟩ := hk.out w1 hb1
    have hbF : Below w.heap.size w w1 := hbw.trans (hb1.mono (by have := Hz0.out; omega))
    go_wp2
    go_ret
    exact ⟨by rw [← HR.out]; rfl, hbF⟩
  rw [if_neg (by omega)] at hR
  obtain ⟨size, rfl⟩ : ∃ m : Nat, n = (m : Int) := ⟨n.toNat, by omega⟩
  rw [Int.toNat_natCast] at hR
  have hs : size ≤ 1024 := by omega
  clear hn0 hn1
  have hfo : Hid (∀ W, Below W0.heap.size W0 W → Calls Tryz.prog 66 #[.agg #[.int .i64 v.t.a.k, .int .i64 v.t.a.sc, .slice v.t.a.A v.t.l.length v.t.a.cap, .slice v.NA v.ns.length v.ncap, .slice v.IA v.is.length v.icap, .slice v.SA v.ss.length v.scap, .slice v.VA v.vs.length v.vcap], .int .i64 (size : Int)] W fun e w' => e = .returned (.bool (formS v size)) ∧ Below W0.heap.size W0 w') := fun W h =>
    (eformed_any v size B W (Hv.out.keep (HS0.out W h).1) (HS0.out W h).2 hs).mono fun e w' ⟨he, hb⟩ => ⟨he, h.trans (hb.mono h.size)⟩
  cases hf : formS v size
  · have HR := Lib.hid (show 1 = R by rw [← hR, hf, if_pos rfl])
    have Hf := Lib.hid hf
    clear hR hf
    go_enter Tryz.func46, Tryz.ntmps46
    go_wp2_with fail
    rw [HW0.out]
    refine hpt.out.mono ?_
    rintro e w1 ⟨rfl, hb1⟩
    rw [Hp.out]
    obtain ⟨_, p0, p1, p2, p3, p4, p5, p6⟩ := hk.out w1 hb1
    have hbF : Below w.heap.size w w1 := hbw.trans (hb1.mono (by have := Hz0.out; omega))
    go_wp2_with fail
    refine (hfo.out w1 hb1).mono ?_
    rintro e w2 ⟨rfl, hb2⟩
    rw [Hf.out]
    go_wp2
    go_ret
    exact ⟨by rw [← HR.out]; rfl, hbw.trans (hb2.mono (by have := Hz0.out; omega))⟩
  · rw [hf, if_neg (by simp)] at hR
    have HR := Lib.hid hR
    have Hf := Lib.hid hf
    clear hR hf
    go_enter Tryz.func46, Tryz.ntmps46
    go_wp2_with fail
    rw [HW0.out]
    refine hpt.out.mono ?_
    rintro e w1 ⟨rfl, hb1⟩
    rw [Hp.out]
    obtain ⟨_, p0, p1, p2, p3, p4, p5, p6⟩ := hk.out w1 hb1
    have hbF : Below w.heap.size w w1 := hbw.trans (hb1.mono (by have := Hz0.out; omega))
    go_wp2_with fail
    refine (hfo.out w1 hb1).mono ?_
    rintro e w2 ⟨rfl, hb2⟩
    rw [Hf.out]
    clear p0 p1 p2 p3 p4 p5 p6
    obtain ⟨_, p0, p1, p2, p3, p4, p5, p6⟩ := hk.out w2 hb2
    go_wp2
    go_loopw [25] (fun i wr => ∃ j : Nat, j ≤ size ∧ i = .int .i64 j ∧ Below W0.heap.size W0 wr ∧ Hid (ckFrom v size (size - j) = R)) (fun i _ => size - (intOf i).toNat)
    case atStart => exact ⟨0, Nat.zero_le _, rfl, hb2, by rw [Nat.sub_zero]; exact HR⟩
    case round =>
      obtain ⟨j, hj, rfl, hbr, HRj⟩ := hrel
      clear p0 p1 p2 p3 p4 p5 p6
      obtain ⟨_, p0, p1, p2, p3, p4, p5, p6⟩ := hk.out wr hbr
      have hbwr : Below w.heap.size w wr := hbw.trans (hbr.mono (by have := Hz0.out; omega))
      by_cases hlt : j < size
      · have hhas := form_has Hf.out hs hlt
        have HR2 := HRj.out
        rw [ckFrom_step v size j hlt] at HR2
        have hat : Hid (∀ W, Below W0.heap.size W0 W → Calls Tryz.prog 67 #[.agg #[.int .i64 v.t.a.k, .int .i64 v.t.a.sc, .slice v.t.a.A v.t.l.length v.t.a.cap, .slice v.NA v.ns.length v.ncap, .slice v.IA v.is.length v.icap, .slice v.SA v.ss.length v.scap, .slice v.VA v.vs.length v.vcap], .int .i64 (j : Int)] W fun e w' => e = .returned (.agg #[.int .i64 (atV v j).a.k, .int .i64 (atV v j).a.n, .int .i64 (atV v j).a.sc, .string (atV v j).a.s, .slice (atV v j).a.A (atV v j).l.length (atV v j).a.cap]) ∧ Below W0.heap.size W0 w') := fun W h =>
          (eat_any v j B W (Hv.out.keep (HS0.out W h).1) (HS0.out W h).2 hhas).mono fun e w' ⟨he, hb⟩ => ⟨he, h.trans (hb.mono h.size)⟩
        have hch : Hid (∀ W, Below W0.heap.size W0 W → Calls Tryz.prog 26 #[.agg #[.int .i64 v.t.a.k, .int .i64 v.t.a.sc, .slice v.t.a.A v.t.l.length v.t.a.cap], .agg #[.int .i64 (atV v j).a.k, .int .i64 (atV v j).a.n, .int .i64 (atV v j).a.sc, .string (atV v j).a.s, .slice (atV v j).a.A (atV v j).l.length (atV v j).a.cap]] W fun e w' => e = .returned (.int .i64 (checkS v.t (atV v j))) ∧ Below W0.heap.size W0 w') := fun W h =>
          (vCheck_any v.t (atV v j) B W (Hv.out.t.keep (HS0.out W h).1) ((at_in Hv.out hhas).keep (HS0.out W h).1) (HT.out.keep (HS0.out W h).1) (HS0.out W h).2).mono fun e w' ⟨he, hb⟩ => ⟨he, h.trans (hb.mono h.size)⟩
        clear HRj
        by_cases h0 : checkS v.t (atV v j) = 0
        · have H0 := Lib.hid h0
          have HR3 := Lib.hid (show ckFrom v size (size - (j + 1)) = R by rw [← HR2, if_neg (by simp [h0])])
          clear h0 HR2
          go_wp2_with fail
          go_region_held3 (fun W => Below W0.heap.size W0 W ∧ W.cell? ⟨w.heap.size, 0, none⟩ = some (.int .i64 v.t.a.k) ∧ W.cell? ⟨w.heap.size, 1, none⟩ = some (.int .i64 v.t.a.sc) ∧ W.cell? ⟨w.heap.size, 2, none⟩ = some (.slice v.t.a.A v.t.l.length v.t.a.cap) ∧ W.cell? ⟨w.heap.size, 3, none⟩ = some (.slice v.NA v.ns.length v.ncap) ∧ W.cell? ⟨w.heap.size, 4, none⟩ = some (.slice v.IA v.is.length v.icap) ∧ W.cell? ⟨w.heap.size, 5, none⟩ = some (.slice v.SA v.ss.length v.scap) ∧ W.cell? ⟨w.heap.size, 6, none⟩ = some (.slice v.VA v.vs.length v.vcap))
            (first | exact hk.out _ hbr | exact hk.out _ (Below.drew hbr) | exact hk.out _ (by assumption))
            (first
              | (go_at_call 67; (with_reducible refine (hat.out _ ?_).mono ?_); (first | assumption | (apply And.left; assumption)); rintro e wx ⟨rfl, hbx⟩)
              | (go_at_call 26; (with_reducible refine (hch.out _ ?_).mono ?_); (first | assumption | (apply And.left; assumption)); rintro e wy ⟨rfl, hby⟩))
          all_goals
            rw [H0.out]
            go_wp2
            go_roundw
            case rel => exact ⟨j + 1, by omega, by go_num, hby, HR3⟩
            case measure => simp [intOf]; omega
        · have n0 : (checkS v.t (atV v j) != 0) = true := by simpa using h0
          have HR3 := Lib.hid (show checkS v.t (atV v j) = R by rw [← HR2, if_pos h0])
          clear h0 HR2
          go_wp2_with fail
          go_region_held3 (fun W => Below W0.heap.size W0 W ∧ W.cell? ⟨w.heap.size, 0, none⟩ = some (.int .i64 v.t.a.k) ∧ W.cell? ⟨w.heap.size, 1, none⟩ = some (.int .i64 v.t.a.sc) ∧ W.cell? ⟨w.heap.size, 2, none⟩ = some (.slice v.t.a.A v.t.l.length v.t.a.cap) ∧ W.cell? ⟨w.heap.size, 3, none⟩ = some (.slice v.NA v.ns.length v.ncap) ∧ W.cell? ⟨w.heap.size, 4, none⟩ = some (.slice v.IA v.is.length v.icap) ∧ W.cell? ⟨w.heap.size, 5, none⟩ = some (.slice v.SA v.ss.length v.scap) ∧ W.cell? ⟨w.heap.size, 6, none⟩ = some (.slice v.VA v.vs.length v.vcap))
            (first | exact hk.out _ hbr | exact hk.out _ (Below.drew hbr) | exact hk.out _ (by assumption))
            (first
              | (go_at_call 67; (with_reducible refine (hat.out _ ?_).mono ?_); (first | assumption | (apply And.left; assumption)); rintro e wx ⟨rfl, hbx⟩)
              | (go_at_call 26; (with_reducible refine (hch.out _ ?_).mono ?_); (first | assumption | (apply And.left; assumption)); rintro e wy ⟨rfl, hby⟩))
          all_goals
            go_wp2
            go_ret
            exact ⟨by rw [← HR3.out]; rfl, hbw.trans (hby.mono (by have := Hz0.out; omega))⟩
      · have HR3 : Hid (0 = R) := by
          show 0 = R
          have := HRj.out
          rw [show size - j = 0 by omega] at this
          exact this
        go_wp2
        go_ret
        exact ⟨by rw [← HR3.out]; rfl, hbwr⟩
end Go.Proofs.YtkadahfknccjfaaGreatDoor
