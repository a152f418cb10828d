/-
  Package value: wide numbers compared.
-/
import Derived.Test.YtcdaipkkddgbeaaQSoR
namespace Go.Proofs.Ytcdaipkkddgbeaa
open Go.RowKit
/-- A wide number's value. -/
def sI (ng : Bool) (X : Nat) : Int := if ng then -(X : Int) else X
/-- The sign and the size of a difference. -/
def dS (na nb : Bool) (X Y : Nat) : Bool := if na = nb then (if X < Y then !na else na) else na
def dX (na nb : Bool) (X Y : Nat) : Nat := if na = nb then (if X < Y then Y - X else X - Y) else X + Y
set_option maxRecDepth 100000 in
set_option maxHeartbeats 4000000 in
theorem minus_ne (na : Bool) (X Y : Nat) (w : World) : Calls Try.prog 55 #[wideV na X, wideV (!na) Y] w fun e w' => e = .returned (wideV na (X + Y)) ∧ Below w.heap.size w w' := by
  have hpl := Lib.hid (fun W => plus_same na X Y W)
  have hng := Lib.hid (negated_any (!na) (wd Y 0) (wd Y 1) (wd Y 2) (wd Y 3))
  have hT0 := W52.mk3 w 69 (wcs na X) (wcs (!na) Y) #[.bool false, .int .u64 0, .int .u64 0, .int .u64 0, .int .u64 0]
  have hR0 := heap_alloc_new ((w.alloc (.cells (wcs na X) 69)).alloc (.cells (wcs (!na) Y) 69)) (.cells #[.bool false, .int .u64 0, .int .u64 0, .int .u64 0, .int .u64 0] 69)
  rw [show ((w.alloc (.cells (wcs na X) 69)).alloc (.cells (wcs (!na) Y) 69)).heap.size = w.heap.size + 2 by simp] at hR0
  obtain ⟨W0, hW0⟩ : ∃ W0, ((w.alloc (.cells (wcs na X) 69)).alloc (.cells (wcs (!na) Y) 69)).alloc (.cells #[.bool false, .int .u64 0, .int .u64 0, .int .u64 0, .int .u64 0] 69) = W0 := ⟨_, rfl⟩
  rw [hW0] at hT0 hR0
  have hlt2 : w.heap.size + 2 < W0.heap.size := (Array.getElem?_eq_some_iff.1 hR0).1
  have hk := Lib.hid (fun (W : World) (h : Below W0.heap.size W0 W) => And.intro (blk5 (hT0.keep h).one) (And.intro (blk5 (hT0.keep h).two) (blk5 ((h.block _ hlt2).trans hR0))))
  have HT0 := Lib.hid hT0
  have HW0 := Lib.hid hW0
  clear hT0 hR0 hW0 hlt2
  unfold wcs at HW0
  unfold wideV at hpl ⊢
  go_enter Try.func55, Try.ntmps55
  have hne : (na == !na) = false := by cases na <;> rfl
  have hnn : (!(!na)) = na := by cases na <;> rfl
  rw [hnn] at hng
  go_wp2
  rw [HW0.out]
  obtain ⟨⟨⟨c0, c1, c2, c3, c4⟩, -⟩, ⟨⟨d0, d1, d2, d3, d4⟩, -⟩, -⟩ := hk.out W0 (Below.refl _ _)
  go_region_with (first
    | (go_at_call 61; (with_reducible refine (hng.out _).mono ?_); rintro e w4 ⟨rfl, hb4⟩; have hbk : Below W0.heap.size W0 w4 := (by first | exact hb4 | exact (Below.drew (Below.refl _ _)).trans (hb4.mono (Nat.le_refl _))); clear c0 c1 c2 c3 c4 d0 d1 d2 d3 d4; obtain ⟨⟨⟨c0, c1, c2, c3, c4⟩, -⟩, ⟨⟨d0, d1, d2, d3, d4⟩, -⟩, -⟩ := hk.out w4 hbk)
    | (go_at_call 60; (with_reducible refine (hpl.out _).mono ?_); rintro e w5 ⟨rfl, hb5⟩; have hbk5 : Below W0.heap.size W0 w5 := (by first | exact hbk.trans (hb5.mono hbk.size) | exact (hbk.drew).trans (hb5.mono hbk.size)); clear c0 c1 c2 c3 c4 d0 d1 d2 d3 d4; obtain ⟨⟨⟨c0, c1, c2, c3, c4⟩, f0, f1, f2, f3, f4⟩, ⟨⟨d0, d1, d2, d3, d4⟩, g0, g1, g2, g3, g4⟩, ⟨e0, e1, e2, e3, e4⟩, i0, i1, i2, i3, i4⟩ := hk.out w5 hbk5))
  all_goals
    go_wp2
    refine bodyPost_ret (v := .agg #[.bool na, .int .u64 (wd (X + Y) 0), .int .u64 (wd (X + Y) 1), .int .u64 (wd (X + Y) 2), .int .u64 (wd (X + Y) 3)]) (by simp [results, Try.results55, go_sem, *]) rfl ?_
    exact ⟨rfl, set5_below (HT0.out.below.trans (hbk5.mono HT0.out.below.size)) (by omega) _ _ _ _ _⟩
theorem minus_any (na nb : Bool) (X Y : Nat) (w : World) (hX : X < 18446744073709551616 ^ 4) (hY : Y < 18446744073709551616 ^ 4) : Calls Try.prog 55 #[wideV na X, wideV nb Y] w fun e w' => e = .returned (wideV (dS na nb X Y) (dX na nb X Y)) ∧ Below w.heap.size w w' := by
  unfold dS dX
  by_cases hn : na = nb
  · subst hn
    rw [if_pos rfl, if_pos rfl]
    by_cases hl : X < Y
    · rw [if_pos hl, if_pos hl]; exact minus_lt na X Y w hX hY hl
    · rw [if_neg hl, if_neg hl]; exact minus_ge na X Y w hX hY (by omega)
  · rw [if_neg hn, if_neg hn]
    obtain rfl : nb = !na := by revert hn; cases na <;> cases nb <;> decide
    exact minus_ne na X Y w
theorem dX_le (na nb : Bool) (X Y : Nat) : dX na nb X Y ≤ X + Y := by unfold dX; split <;> (try split) <;> omega
theorem cmp_law (na nb : Bool) (X Y : Nat) : ordI (sI na X) (sI nb Y) = if dX na nb X Y = 0 then 0 else if dS na nb X Y then -1 else 1 := by
  by_cases h0 : dX na nb X Y = 0
  · rw [if_pos h0]
    refine ordI_eq ?_
    revert h0
    unfold dX sI
    cases na <;> cases nb <;> simp <;> (try split) <;> omega
  · rw [if_neg h0]
    by_cases hs : dS na nb X Y = true
    · rw [if_pos hs]
      refine ordI_lt ?_
      revert h0 hs
      unfold dX dS sI
      cases na <;> cases nb <;> simp <;> (try split) <;> omega
    · rw [if_neg hs]
      refine ordI_gt ?_
      revert h0 hs
      unfold dX dS sI
      cases na <;> cases nb <;> simp <;> (try split) <;> omega
theorem word_zero {D : Nat} (h : D < 18446744073709551616 ^ 4) : (wd D 0 == 0 && (wd D 1 == 0 && (wd D 2 == 0 && wd D 3 == 0))) = decide (D = 0) := by
  by_cases hD : D = 0
  · subst hD; decide
  · rw [decide_eq_false hD]
    refine Bool.eq_false_iff.2 fun hc => hD ?_
    simp only [Bool.and_eq_true, beq_iff_eq] at hc
    obtain ⟨h0, h1, h2, h3⟩ := hc
    unfold wd at h0 h1 h2 h3
    have a0 := word_step D 0
    have a1 := word_step D 1
    have a2 := word_step D 2
    have a3 := word_step D 3
    rw [Nat.div_eq_of_lt h] at a3
    rw [Nat.pow_zero, Nat.div_one] at a0 h0
    omega
set_option maxRecDepth 100000 in
set_option maxHeartbeats 4000000 in
theorem compare_any (na nb : Bool) (X Y : Nat) (w : World) (hX : X < 18446744073709551616 ^ 3) (hY : Y < 18446744073709551616 ^ 3) : Calls Try.prog 47 #[wideV na X, wideV nb Y] w fun e w' => e = .returned (.int .i64 (ordI (sI na X) (sI nb Y))) ∧ Below w.heap.size w w' := by
  have hX4 : X < 18446744073709551616 ^ 4 := Nat.lt_trans hX (by decide)
  have hY4 : Y < 18446744073709551616 ^ 4 := Nat.lt_trans hY (by decide)
  have hmi := Lib.hid (fun W => minus_any na nb X Y W hX4 hY4)
  obtain ⟨D, hD⟩ : ∃ D, dX na nb X Y = D := ⟨_, rfl⟩
  obtain ⟨S, hS⟩ : ∃ S, dS na nb X Y = S := ⟨_, rfl⟩
  obtain ⟨R, hR⟩ : ∃ R, ordI (sI na X) (sI nb Y) = R := ⟨_, rfl⟩
  have hze := Lib.hid (fun W => zero_any S (wd D 0) (wd D 1) (wd D 2) (wd D 3) W)
  rw [hD, hS] at hmi
  rw [hR]
  unfold wideV at hmi ⊢
  have HR := Lib.hid hR
  clear hR
  have hD4 : D < 18446744073709551616 ^ 4 := by
    rw [← hD]
    refine Nat.lt_of_le_of_lt (dX_le _ _ _ _) ?_
    have : (18446744073709551616 : Nat) ^ 3 + 18446744073709551616 ^ 3 ≤ 18446744073709551616 ^ 4 := by decide
    omega
  rw [word_zero hD4] at hze
  have Hlaw := Lib.hid (cmp_law na nb X Y)
  rw [HR.out, hD, hS] at Hlaw
  clear hD4 HR hX hY hX4 hY4 hD hS
  go_enter Try.func47, Try.ntmps47
  go_wp2_with (go_at_call 55; refine (hmi.out _).mono ?_; rintro e w' ⟨rfl, hb2⟩)
  have hbw : Below w.heap.size w w' := (((Below.refl _ _).alloc (Nat.le_refl _) _).alloc (by simp) _).trans (hb2.mono (by simp; omega))
  have Hbw := Lib.hid hbw
  clear hb2 hbw
  refine (hze.out _).mono ?_
  rintro e w6 ⟨rfl, hb6⟩
  have hc := heap_alloc_new w' (.cells (wcs S D) 69)
  obtain ⟨⟨c0, c1, c2, c3, c4⟩, -⟩ := blk5 ((hb6.block w'.heap.size (by simp)).trans hc)
  have Hb6 := Lib.hid (Hbw.out.trans ((((Below.refl _ _).alloc (Nat.le_refl _) _).trans (hb6.mono (by simp))).mono Hbw.out.size))
  clear hb6 hc
  by_cases h0 : D = 0
  · rw [if_pos h0] at Hlaw
    have hd : decide (D = 0) = true := decide_eq_true h0
    rw [hd]
    have hR := Hlaw.out
    subst hR
    clear h0 hd
    go_wp2
    go_ret
    exact ⟨rfl, Hb6.out⟩
  · rw [if_neg h0] at Hlaw
    have hd : decide (D = 0) = false := decide_eq_false h0
    rw [hd]
    clear h0 hd
    cases S
    · have hR := Hlaw.out
      subst hR
      go_wp2
      go_ret
      exact ⟨rfl, Hb6.out⟩
    · have hR := Hlaw.out
      subst hR
      go_wp2
      go_ret
      exact ⟨rfl, Hb6.out⟩
set_option maxRecDepth 100000 in
set_option maxHeartbeats 4000000 in
theorem scaled_any (n : Int) (k : Nat) (w : World) (hn : I64 n) (hk : k < 9223372036854775808) : Calls Try.prog 46 #[.int .i64 n, .int .i64 (k : Int)] w fun e w' => e = .returned (wideV (decide (n < 0)) (n.natAbs * 10 ^ k)) ∧ Below w.heap.size w w' := by
  have hwh := Lib.hid (fun W => whole_any n W hn)
  have hsh := Lib.hid (fun W => shifted_any (decide (n < 0)) n.natAbs k W hk)
  unfold wideV at hwh hsh ⊢
  clear hn hk
  obtain ⟨W0, hW0⟩ : ∃ W0, w.alloc (.cells #[.bool false, .int .u64 0, .int .u64 0, .int .u64 0, .int .u64 0] 69) = W0 := ⟨_, rfl⟩
  have HW0 := Lib.hid hW0
  have hR0 := heap_alloc_new w (.cells #[.bool false, .int .u64 0, .int .u64 0, .int .u64 0, .int .u64 0] 69)
  have hz0 : w.heap.size < (w.alloc (.cells #[.bool false, .int .u64 0, .int .u64 0, .int .u64 0, .int .u64 0] 69)).heap.size := by simp
  have hbw : Below w.heap.size w (w.alloc (.cells #[.bool false, .int .u64 0, .int .u64 0, .int .u64 0, .int .u64 0] 69)) := (Below.refl _ _).alloc (Nat.le_refl _) _
  rw [hW0] at hR0 hz0 hbw
  have hk := Lib.hid (fun (W : World) (h : Below W0.heap.size W0 W) => And.intro (blk5 ((h.block _ hz0).trans hR0)) (hbw.trans (h.mono (Nat.le_of_lt hz0))))
  clear hW0 hR0 hz0 hbw
  go_enter Try.func46, Try.ntmps46
  go_wp2_with fail
  rw [HW0.out]
  go_wp2_with (first | (go_at_call 53; refine (hwh.out _).mono ?_; rintro e w' ⟨rfl, hb2⟩) | (go_at_call 54; refine (hsh.out _).mono ?_; rintro e w' ⟨rfl, hb3⟩; obtain ⟨⟨⟨c0, c1, c2, c3, c4⟩, f0, f1, f2, f3, f4⟩, hbb⟩ := hk.out _ (hb2.trans (hb3.mono hb2.size))))
  have Hbb := Lib.hid hbb
  clear hbb
  go_wp2
  refine bodyPost_ret (v := wideV (decide (n < 0)) (n.natAbs * 10 ^ k)) (by simp [results, Try.results46, go_sem, wideV, *]) rfl ?_
  exact ⟨rfl, set5_below Hbb.out (Nat.le_refl _) _ _ _ _ _⟩
end Go.Proofs.Ytcdaipkkddgbeaa
