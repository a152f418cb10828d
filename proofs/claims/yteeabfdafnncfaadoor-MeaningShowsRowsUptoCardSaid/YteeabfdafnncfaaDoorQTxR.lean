/-
  The reference of package value: the calendar's small functions.
-/
import Derived.Test.YteeabfdafnncfaaDoorQTxB
import Derived.Deep.Light
namespace Go.Proofs.YteeabfdafnncfaaDoor
open Go.RowKit

theorem tf (a b : Int) (hb : b = 86400 ∨ b = 146097) : ((a.tmod b != 0) = true → a < 0 → a.tdiv b - 1 = a / b) ∧ ((a.tmod b != 0) = false → a.tdiv b = a / b) ∧ (0 ≤ a → a.tdiv b = a / b) := by
  simp only [bne_iff_ne, bne_eq_false_iff_eq]
  rcases Int.le_total 0 a with h | h
  · rw [Int.tdiv_eq_ediv_of_nonneg h, Int.tmod_eq_emod_of_nonneg h]
    rcases hb with rfl | rfl <;> omega
  · have e1 : a.tdiv b = -((-a) / b) := by rw [← Int.tdiv_eq_ediv_of_nonneg (by omega), Int.neg_tdiv]; omega
    have e2 : a.tmod b = -((-a) % b) := by rw [← Int.tmod_eq_emod_of_nonneg (by omega), Int.neg_tmod]; omega
    rw [e1, e2]
    rcases hb with rfl | rfl <;> omega
set_option maxRecDepth 100000 in
set_option maxHeartbeats 1000000 in
theorem rfloor_any (a b : Int) (w : World) (ha0 : -4611686018427387904 ≤ a) (ha1 : a ≤ 4611686018427387904) (hb : b = 86400 ∨ b = 146097) :
    Calls Tryd.prog 40 #[.int .i64 a, .int .i64 b] w fun e w' => e = .returned (.int .i64 (a / b)) ∧ w' = w := by
  obtain ⟨t1, t2, t3⟩ := tf a b hb
  have t5 : -4611686018427387904 ≤ a.tdiv b ∧ a.tdiv b ≤ 4611686018427387904 := by
    rcases Int.le_total 0 a with h | h
    · rw [t3 h]; rcases hb with rfl | rfl <;> omega
    · by_cases hz : (a.tmod b != 0) = true
      · have := t1 hz
        rcases Int.lt_or_le a 0 with h' | h'
        · have := this h'; rcases hb with rfl | rfl <;> omega
        · rw [t3 h']; rcases hb with rfl | rfl <;> omega
      · have := t2 (by simpa using hz); rcases hb with rfl | rfl <;> omega
  have hb0 : 0 < b := by omega
  have hb1 : b ≤ 146097 := by omega
  have hnb : decide (b < 0) = false := by simp; omega
  clear hb
  obtain ⟨q, hq⟩ : ∃ q, a.tdiv b = q := ⟨_, rfl⟩
  obtain ⟨m, hm⟩ : ∃ m, a.tmod b = m := ⟨_, rfl⟩
  rw [hq, hm] at t1
  rw [hq, hm] at t2
  rw [hq] at t3 t5
  obtain ⟨t5, t6⟩ := t5
  cases hz : (m != 0)
  · have r := t2 hz
    rw [← r]
    clear t1 t2 t3 r
    go_enter Tryd.func40, Tryd.ntmps40
    go_wp2
    go_ret
    exact ⟨rfl, rfl⟩
  · by_cases h : a < 0
    · have r := t1 hz h
      rw [← r]
      clear t1 t2 t3 r
      go_enter Tryd.func40, Tryd.ntmps40
      go_wp2
      go_ret
      exact ⟨rfl, rfl⟩
    · have r := t3 (by omega)
      have r2 : a / b = q := r.symm
      rw [r2]
      clear t1 t2 t3 r
      go_enter Tryd.func40, Tryd.ntmps40
      go_wp2
      go_ret
      exact ⟨rfl, rfl⟩
set_option maxRecDepth 100000 in
set_option maxHeartbeats 1000000 in
theorem rleap_any (y : Int) (w : World) (h0 : 0 ≤ y) (h1 : y ≤ 1000000) :
    Calls Tryd.prog 55 #[.int .i64 y] w fun e w' => e = .returned (.bool (leapI y)) ∧ w' = w := by
  obtain ⟨R, hR⟩ : ∃ R, leapI y = R := ⟨_, rfl⟩
  have HR := Lib.hid hR
  rw [hR]
  clear hR
  cases h4 : (y % 4 == 0) <;> cases h100 : (y % 100 != 0) <;> cases h400 : (y % 400 == 0)
  all_goals
    have hr := HR.out
    unfold leapI at hr
    rw [h4, h100, h400] at hr
    subst hr
    go_enter Tryd.func55, Tryd.ntmps55
    go_wp2
    go_ret
    exact ⟨rfl, rfl⟩
set_option maxRecDepth 100000 in
set_option maxHeartbeats 1000000 in
theorem rMonthDays_any (y m : Int) (w : World) (h0 : 0 ≤ y) (h1 : y ≤ 1000000) (_hm : I64 m) :
    Calls Tryd.prog 42 #[.int .i64 y, .int .i64 m] w fun e w' => e = .returned (.int .i64 (mdI y m)) ∧ w' = w := by
  have hl := Lib.hid (rleap_any y w h0 h1)
  obtain ⟨R, hR⟩ : ∃ R, mdI y m = R := ⟨_, rfl⟩
  obtain ⟨L, hL⟩ : ∃ L, leapI y = L := ⟨_, rfl⟩
  rw [hL] at hl
  unfold mdI at hR
  rw [hL] at hR
  rw [show mdI y m = R by unfold mdI; rw [hL]; exact hR]
  have HR := Lib.hid hR
  clear hR hL
  cases L
  all_goals
    go_enter Tryd.func42, Tryd.ntmps42
    go_wp2_with (go_at_call 55; refine (hl.out).mono ?_; rintro e w' ⟨rfl, rfl⟩)
    all_goals
      go_ret
      refine ⟨?_, rfl⟩
      rw [← HR.out]
      go_light
      simp_all
set_option maxRecDepth 100000 in
set_option maxHeartbeats 1000000 in
theorem ryearStart_any (y : Int) (w : World) (h0 : 0 ≤ y) (h1 : y ≤ 1000000) :
    Calls Tryd.prog 41 #[.int .i64 y] w fun e w' => e = .returned (.int .i64 (ysI y)) ∧ w' = w := by
  obtain ⟨R, hR⟩ : ∃ R, ysI y = R := ⟨_, rfl⟩
  have HR := Lib.hid hR
  rw [hR]
  clear hR
  by_cases h : 0 < y
  · have hr := HR.out
    unfold ysI at hr
    rw [if_pos h] at hr
    subst hr
    clear HR
    go_enter Tryd.func41, Tryd.ntmps41
    go_wp2
    go_ret
    exact ⟨rfl, rfl⟩
  · have hr := HR.out
    unfold ysI at hr
    rw [if_neg h] at hr
    subst hr
    clear HR
    go_enter Tryd.func41, Tryd.ntmps41
    go_wp2
    go_ret
    exact ⟨by congr 2 <;> omega, rfl⟩
end Go.Proofs.YteeabfdafnncfaaDoor
