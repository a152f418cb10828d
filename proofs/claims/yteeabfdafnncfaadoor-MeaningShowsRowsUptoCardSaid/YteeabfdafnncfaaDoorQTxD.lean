/-
  Package value: the civil time of a moment.
-/
import Derived.Test.YteeabfdafnncfaaDoorQTxB
namespace Go.Proofs.YteeabfdafnncfaaDoor
open Go.RowKit

theorem tq (a b : Int) (hb : b = 86400 ∨ b = 146097) : (a.tmod b < 0 → a.tdiv b - 1 = a / b ∧ a.tmod b + b = a % b) ∧ (¬ a.tmod b < 0 → a.tdiv b = a / b ∧ a.tmod b = a % b) ∧ -b < a.tmod b ∧ a.tmod b < b := by
  rcases Int.le_total 0 a with h | h
  · rw [Int.tdiv_eq_ediv_of_nonneg h, Int.tmod_eq_emod_of_nonneg h]
    rcases hb with rfl | rfl <;> omega
  · have e1 : a.tdiv b = -((-a) / b) := by rw [← Int.tdiv_eq_ediv_of_nonneg (by omega), Int.neg_tdiv]; omega
    have e2 : a.tmod b = -((-a) % b) := by rw [← Int.tmod_eq_emod_of_nonneg (by omega), Int.neg_tmod]; omega
    rw [e1, e2]
    rcases hb with rfl | rfl <;> omega
set_option maxRecDepth 100000 in
set_option maxHeartbeats 1000000 in
theorem vfloor_any (a b : Int) (w : World) (ha0 : -4611686018427387904 ≤ a) (ha1 : a ≤ 4611686018427387904) (hb : b = 86400 ∨ b = 146097) :
    Calls Tryd.prog 51 #[.int .i64 a, .int .i64 b] w fun e w' => e = .returned (.tuple #[.int .i64 (a / b), .int .i64 (a % b)]) ∧ Below w.heap.size w w' := by
  obtain ⟨t1, t2, t3, t4⟩ := tq a b hb
  have t5 : -4611686018427387904 ≤ a.tdiv b ∧ a.tdiv b ≤ 4611686018427387904 := by
    have := t1; have := t2
    rcases hb with rfl | rfl <;> omega
  have hb0 : 0 < b := by omega
  have hb1 : b ≤ 146097 := by omega
  clear hb
  obtain ⟨q, hq⟩ : ∃ q, a.tdiv b = q := ⟨_, rfl⟩
  obtain ⟨m, hm⟩ : ∃ m, a.tmod b = m := ⟨_, rfl⟩
  rw [hq, hm] at t1 t2
  rw [hm] at t3 t4
  rw [hq] at t5
  obtain ⟨t5, t6⟩ := t5
  by_cases h : m < 0
  · obtain ⟨r1, r2⟩ := t1 h
    rw [← r1, ← r2]
    clear t1 t2 r1 r2
    go_enter Tryd.func51, Tryd.ntmps51
    go_wp2_with fail
    go_quiet (fail)
    go_wp2
    go_ret2
    exact ⟨rfl, below_drewNb _ _⟩
  · obtain ⟨r1, r2⟩ := t2 h
    rw [← r1, ← r2]
    clear t1 t2 r1 r2
    go_enter Tryd.func51, Tryd.ntmps51
    go_wp2_with fail
    go_quiet (fail)
    go_wp2
    go_ret2
    exact ⟨rfl, below_drewNb _ _⟩
set_option maxRecDepth 100000 in
set_option maxHeartbeats 1000000 in
theorem vdate_any (n : Int) (w : World) (h0 : -719468 ≤ n) (h1 : n ≤ 2932896) :
    Calls Tryd.prog 52 #[.int .i64 n] w fun e w' => e = .returned (.tuple #[.int .i64 (yI n), .int .i64 (moI n), .int .i64 (dI n)]) ∧ Below w.heap.size w w' := by
  have hF := Lib.hid (vfloor_any (n + 719468) 146097 w (by omega) (by omega) (.inr rfl))
  have f1 : (n + 719468) / 146097 = eraI n := rfl
  have f2 : (n + 719468) % 146097 = doeI n := rfl
  rw [f1, f2] at hF
  obtain ⟨z, hz, e1, e2, e3, e4, e5, e6⟩ := ymd_nat n h0
  obtain ⟨y1, y2, y3⟩ := yoe_ok z hz
  have hE0 : 0 ≤ eraI n ∧ eraI n ≤ 24 := ⟨e5, by omega⟩
  have hD0 : 0 ≤ doeI n ∧ doeI n < 146097 := by omega
  have hY0 : 0 ≤ yoI n ∧ yoI n ≤ 399 := by omega
  have hd0 : 0 ≤ doyI n ∧ doyI n ≤ 366 := by
    rw [e3]
    have hk : ∀ k : Nat, (LyN k : Int) = 365 * (k : Int) + (k : Int) / 4 - (k : Int) / 100 := by intro k; unfold LyN; omega
    have k1 := hk (yoeN z)
    have k2 := hk (yoeN z + 1)
    push_cast at k2
    omega
  have hm0 : 0 ≤ mpI n ∧ mpI n ≤ 12 := by unfold mpI; omega
  have g1 : (doeI n - doeI n / 1460 + doeI n / 36524 - doeI n / 146096) / 365 = yoI n := rfl
  have g2 : doeI n - (yoI n * 365 + yoI n / 4 - yoI n / 100) = doyI n := rfl
  have g3 : (5 * doyI n + 2) / 153 = mpI n := rfl
  have g4 : doyI n - (153 * mpI n + 2) / 5 + 1 = dI n := rfl
  have g5 : yI n = if 12 < mpI n + 3 then eraI n * 400 + yoI n + 1 else eraI n * 400 + yoI n := rfl
  have g6 : moI n = if 12 < mpI n + 3 then mpI n + 3 - 12 else mpI n + 3 := rfl
  clear e1 e2 e3 e4 e5 e6 y1 y2 y3 hz f1 f2
  generalize eraI n = E at *
  generalize doeI n = D at *
  generalize yoI n = Y at *
  generalize doyI n = T at *
  generalize mpI n = M at *
  generalize dI n = G at *
  obtain ⟨hE0, hE1⟩ := hE0
  obtain ⟨hD0, hD1⟩ := hD0
  obtain ⟨hY0, hY1⟩ := hY0
  obtain ⟨hd0, hd1⟩ := hd0
  obtain ⟨hm0, hm1⟩ := hm0
  by_cases h : 12 < M + 3
  · rw [if_pos h] at g5 g6
    rw [g5, g6]
    clear g5 g6
    go_enter Tryd.func52, Tryd.ntmps52
    go_wp2_with (go_at_call 51; refine (hF.out).mono ?_; rintro e w' ⟨rfl, hb⟩)
    refine bodyPost_ret (v := .tuple #[.int .i64 (E * 400 + Y + 1), .int .i64 (M + 3 - 12), .int .i64 G]) (by simp [results, Tryd.results52, go_sem, *]) rfl ?_
    exact ⟨rfl, hb⟩
  · rw [if_neg h] at g5 g6
    rw [g5, g6]
    clear g5 g6
    go_enter Tryd.func52, Tryd.ntmps52
    go_wp2_with (go_at_call 51; refine (hF.out).mono ?_; rintro e w' ⟨rfl, hb⟩)
    refine bodyPost_ret (v := .tuple #[.int .i64 (E * 400 + Y), .int .i64 (M + 3), .int .i64 G]) (by simp [results, Tryd.results52, go_sem, *]) rfl ?_
    exact ⟨rfl, hb⟩
end Go.Proofs.YteeabfdafnncfaaDoor
