/-
  The calendar: the day, month and year of a number of days, by eras of 400 years; and that a search by years and months finds the same. No program stands here.
-/
import Derived.WalkKit
namespace Go.Proofs.YteeabfdafnncfaaDoor
def allB : Nat → (Nat → Bool) → Bool
  | 0, _ => true
  | k + 1, f => f k && allB k f
theorem allB_of {f : Nat → Bool} : ∀ {k : Nat}, allB k f = true → ∀ i, i < k → f i = true
  | 0, _, i, hi => absurd hi (Nat.not_lt_zero _)
  | k + 1, h, i, hi => by
    simp only [allB, Bool.and_eq_true] at h
    rcases Nat.lt_or_ge i k with hlt | hge
    · exact allB_of h.2 i hlt
    · have : i = k := by omega
      subst this; exact h.1
def leapI (y : Int) : Bool := y % 4 == 0 && (y % 100 != 0 || y % 400 == 0)
def mdI (y m : Int) : Int := if m = 2 then (if leapI y = true then 29 else 28) else if m = 4 ∨ m = 6 ∨ m = 9 ∨ m = 11 then 30 else 31
def ysI (y : Int) : Int := 365 * y + (if 0 < y then (y - 1) / 4 - (y - 1) / 100 + (y - 1) / 400 + 1 else 0) - 719528
/-- The days of a year ahead of a month. -/
def cumI (y m : Int) : Int := if m = 1 then 0 else if m = 2 then 31 else (if leapI y = true then 1 else 0) + (if m = 3 then 59 else if m = 4 then 90 else if m = 5 then 120 else if m = 6 then 151 else if m = 7 then 181 else if m = 8 then 212 else if m = 9 then 243 else if m = 10 then 273 else if m = 11 then 304 else if m = 12 then 334 else 365)
/-- The year of an era that begins in March, and the day of that year. -/
def yoeN (n : Nat) : Nat := (n - n / 1460 + n / 36524 - n / 146096) / 365
def LyN (y : Nat) : Nat := 365 * y + y / 4 - y / 100
def mpN (d : Nat) : Nat := (5 * d + 2) / 153
theorem yoe_mono1 (n : Nat) : yoeN n ≤ yoeN (n + 1) := by
  unfold yoeN
  apply Nat.div_le_div_right
  omega
theorem yoe_mono {a b : Nat} (h : a ≤ b) : yoeN a ≤ yoeN b := by
  induction h with
  | refl => exact Nat.le_refl _
  | step _ ih => exact Nat.le_trans ih (yoe_mono1 _)
theorem yoe_ends : allB 400 (fun y => decide (yoeN (LyN y) = y) && decide (yoeN (LyN (y + 1) - (if y = 399 then 0 else 1)) = y)) = true := by decide +kernel
theorem Ly_ex : ∀ (k n : Nat), n < LyN k → ∃ y, y < k ∧ LyN y ≤ n ∧ n < LyN (y + 1)
  | 0, n, h => by simp [LyN] at h
  | k + 1, n, h => by
    rcases Nat.lt_or_ge n (LyN k) with h1 | h1
    · obtain ⟨y, a, b⟩ := Ly_ex k n h1
      exact ⟨y, by omega, b⟩
    · exact ⟨k, by omega, h1, h⟩
theorem yoe_ok (n : Nat) (h : n < 146097) : yoeN n ≤ 399 ∧ LyN (yoeN n) ≤ n ∧ (n < LyN (yoeN n + 1) ∨ (yoeN n = 399 ∧ n = 146096)) := by
  have hE := allB_of yoe_ends
  have hl : LyN 400 = 146096 := by decide
  rcases Nat.lt_or_ge n 146096 with h1 | h1
  · obtain ⟨y, hy, a, b⟩ := Ly_ex 400 n (by omega)
    have := hE y hy
    simp only [Bool.and_eq_true, decide_eq_true_eq] at this
    obtain ⟨e1, e2⟩ := this
    have m1 := yoe_mono a
    have m2 := yoe_mono (show n ≤ LyN (y + 1) - (if y = 399 then 0 else 1) by split <;> omega)
    have : yoeN n = y := by omega
    rw [this]
    exact ⟨by omega, a, .inl b⟩
  · have : n = 146096 := by omega
    subst this
    exact ⟨by decide, by decide, .inr ⟨by decide, rfl⟩⟩
def okD (d : Nat) : Bool :=
  Nat.ble ((153 * mpN d + 2) / 5) d && Nat.ble (mpN d) 11 &&
  (if mpN d < 10 then decide (cumI 1 (mpN d + 3 : Nat) + ((d : Int) - (153 * mpN d + 2 : Nat) / 5) = d + 59 ∧ (d : Int) - (153 * mpN d + 2 : Nat) / 5 + 1 ≤ mdI 1 (mpN d + 3 : Nat))
   else decide (cumI 1 (mpN d - 9 : Nat) + ((d : Int) - (153 * mpN d + 2 : Nat) / 5) = d - 306 ∧ ((d : Int) - (153 * mpN d + 2 : Nat) / 5 + 1 ≤ mdI 1 (mpN d - 9 : Nat) ∨ (d = 365 ∧ mpN d = 11))))
theorem day_all : allB 366 okD = true := by decide +kernel

/-- The year, the month and the day of a number of days from 1970 on. -/
def eraI (n : Int) : Int := (n + 719468) / 146097
def doeI (n : Int) : Int := (n + 719468) % 146097
def yoI (n : Int) : Int := (doeI n - doeI n / 1460 + doeI n / 36524 - doeI n / 146096) / 365
def doyI (n : Int) : Int := doeI n - (yoI n * 365 + yoI n / 4 - yoI n / 100)
def mpI (n : Int) : Int := (5 * doyI n + 2) / 153
def dI (n : Int) : Int := doyI n - (153 * mpI n + 2) / 5 + 1
def moI (n : Int) : Int := if 12 < mpI n + 3 then mpI n + 3 - 12 else mpI n + 3
def yI (n : Int) : Int := if 12 < mpI n + 3 then eraI n * 400 + yoI n + 1 else eraI n * 400 + yoI n
theorem leap_era (e y : Int) : leapI (e * 400 + y) = leapI y := by
  have h1 : (e * 400 + y) % 4 = y % 4 := by omega
  have h2 : (e * 400 + y) % 100 = y % 100 := by omega
  have h3 : (e * 400 + y) % 400 = y % 400 := by omega
  unfold leapI
  rw [h1, h2, h3]
theorem ys_step (y : Int) (h : 0 ≤ y) : ysI (y + 1) = ysI y + 365 + (if leapI y = true then 1 else 0) := by
  unfold ysI
  rw [if_pos (by omega)]
  by_cases h0 : 0 < y
  · rw [if_pos h0]
    by_cases h4 : y % 4 = 0 <;> by_cases h1 : y % 100 = 0 <;> by_cases h2 : y % 400 = 0 <;> simp [leapI, h4, h1, h2] <;> omega
  · have : y = 0 := by omega
    subst this
    decide
theorem ymd_nat (n : Int) (h0 : -719468 ≤ n) : ∃ z : Nat, z < 146097 ∧ doeI n = z ∧ yoI n = yoeN z ∧ doyI n = (z - LyN (yoeN z) : Nat) ∧ mpI n = mpN (z - LyN (yoeN z)) ∧ 0 ≤ eraI n ∧ n + 719468 = eraI n * 146097 + z := by
  have hz : ∃ z : Nat, doeI n = z := ⟨(doeI n).toNat, by unfold doeI; omega⟩
  obtain ⟨z, hz⟩ := hz
  have hlt : z < 146097 := by unfold doeI at hz; omega
  have hy := yoe_ok z hlt
  have e1 : yoI n = yoeN z := by
    unfold yoI yoeN
    rw [hz]
    omega
  have e2 : doyI n = (z - LyN (yoeN z) : Nat) := by
    unfold doyI
    rw [hz, e1]
    have := hy.2.1
    unfold LyN at this ⊢
    omega
  refine ⟨z, hlt, hz, e1, e2, ?_, by unfold eraI; omega, by unfold doeI at hz; unfold eraI; omega⟩
  unfold mpI mpN
  rw [e2]
  omega
theorem ys_era (e y : Int) (he : 0 ≤ e) (hy : 0 ≤ y) (hy' : y ≤ 399) : ysI (e * 400 + y + 1) = e * 146097 + (365 * y + y / 4 - y / 100) - 719162 := by
  unfold ysI
  rw [if_pos (by omega)]
  have h1 : (e * 400 + y + 1 - 1) / 4 = 100 * e + y / 4 := by omega
  have h2 : (e * 400 + y + 1 - 1) / 100 = 4 * e + y / 100 := by omega
  have h3 : (e * 400 + y + 1 - 1) / 400 = e := by omega
  rw [h1, h2, h3]
  omega
theorem cum_leap (y m : Int) (h : 3 ≤ m) : cumI y m = (if leapI y = true then 1 else 0) + cumI 1 m := by
  have h1 : ¬ m = 1 := by omega
  have h2 : ¬ m = 2 := by omega
  have : leapI 1 = false := by decide
  simp [cumI, h1, h2, this]
theorem cum_low (y m : Int) (h : m = 1 ∨ m = 2) : cumI y m = cumI 1 m := by
  rcases h with h | h <;> subst h <;> rfl
theorem md_other (y m : Int) (h : m ≠ 2) : mdI y m = mdI 1 m := by unfold mdI; rw [if_neg h, if_neg h]
theorem leap_last (y z a b p q r s : Nat) (hp : p = y / 4) (hq : q = y / 100) (hr : r = (y + 1) / 4) (hs : s = (y + 1) / 100) (ha : a = 365 * y + p - q) (hb : b = 365 * (y + 1) + r - s) (h : z = a + 365) (h' : z < b) : (y + 1) % 4 = 0 ∧ (y + 1) % 100 ≠ 0 := by
  have h1 : (r = p ∧ (y + 1) % 4 ≠ 0) ∨ (r = p + 1 ∧ (y + 1) % 4 = 0) := by omega
  have h2 : (s = q ∧ (y + 1) % 100 ≠ 0) ∨ (s = q + 1 ∧ (y + 1) % 100 = 0) := by omega
  have h3 : q ≤ p := by omega
  clear hp hq hr hs
  omega
theorem ymd_ok (n : Int) (h0 : -719468 ≤ n) :
    n = ysI (yI n) + cumI (yI n) (moI n) + dI n - 1 ∧ 1 ≤ moI n ∧ moI n ≤ 12 ∧ 1 ≤ dI n ∧ dI n ≤ mdI (yI n) (moI n) ∧ 0 ≤ yI n ∧ (n ≤ 2932896 → yI n ≤ 10000) := by
  obtain ⟨z, hz, e1, e2, e3, e4, e5, e6⟩ := ymd_nat n h0
  obtain ⟨y1, y2, y3⟩ := yoe_ok z hz
  obtain ⟨y, hy⟩ : ∃ y, yoeN z = y := ⟨_, rfl⟩
  obtain ⟨E, hE⟩ : ∃ E, eraI n = E := ⟨_, rfl⟩
  rw [hy] at e2 e3 e4 y1 y2 y3
  rw [hE] at e5 e6
  obtain ⟨d, hd⟩ : ∃ d, z - LyN y = d := ⟨_, rfl⟩
  rw [hd] at e3 e4
  have hL : (LyN y : Int) = 365 * (y : Int) + (y : Int) / 4 - (y : Int) / 100 := by unfold LyN; omega
  have hL1 : (LyN (y + 1) : Int) = 365 * ((y : Int) + 1) + ((y : Int) + 1) / 4 - ((y : Int) + 1) / 100 := by
    have : ∀ k : Nat, (LyN k : Int) = 365 * (k : Int) + (k : Int) / 4 - (k : Int) / 100 := by intro k; unfold LyN; omega
    have := this (y + 1)
    push_cast at this
    exact this
  have hys := ys_era E y e5 (by omega) (by omega)
  have hst := ys_step (E * 400 + y) (by omega)
  have hle : leapI (E * 400 + y) = leapI y := leap_era E y
  have hle1 : leapI (E * 400 + y + 1) = leapI (y + 1) := by rw [show E * 400 + (y : Int) + 1 = E * 400 + (y + 1) by omega]; exact leap_era E (y + 1)
  have hd366 : d < 366 := by omega
  have hleap : d = 365 → leapI ((y : Int) + 1) = true := by
    intro h
    unfold leapI
    simp only [Bool.and_eq_true, Bool.or_eq_true, beq_iff_eq, bne_iff_ne]
    rcases y3 with y3 | ⟨y3, y3'⟩
    · have := leap_last y z _ _ _ _ _ _ rfl rfl rfl rfl rfl rfl (show z = 365 * y + y / 4 - y / 100 + 365 by unfold LyN at hd y2; omega) (by unfold LyN at y3; exact y3)
      omega
    · omega
  have hk := allB_of day_all d hd366
  simp only [okD, Bool.and_eq_true] at hk
  obtain ⟨⟨k1, k2⟩, k3⟩ := hk
  have k1 := Nat.le_of_ble_eq_true k1
  have k2 := Nat.le_of_ble_eq_true k2
  have hdI : dI n = (d : Int) - ((153 * mpN d + 2 : Nat) : Int) / 5 + 1 := by unfold dI; rw [e3, e4]; push_cast; rfl
  by_cases hm : mpN d < 10
  · rw [if_pos hm] at k3
    simp only [decide_eq_true_eq] at k3
    have hmo : moI n = ((mpN d + 3 : Nat) : Int) := by unfold moI; rw [e4, if_neg (by omega)]; push_cast; rfl
    have hyI : yI n = E * 400 + y := by unfold yI; rw [e4, e2, hE, if_neg (by omega)]
    rw [hmo, hyI, hdI, cum_leap _ _ (by omega), md_other _ _ (by omega), hle]
    rw [hle] at hst
    refine ⟨?_, by omega, by omega, ?_, ?_, by omega, ?_⟩
    · omega
    · omega
    · omega
    · omega
  · rw [if_neg hm] at k3
    simp only [decide_eq_true_eq] at k3
    have hmo : moI n = ((mpN d - 9 : Nat) : Int) := by unfold moI; rw [e4, if_pos (by omega)]; omega
    have hyI : yI n = E * 400 + y + 1 := by unfold yI; rw [e4, e2, hE, if_pos (by omega)]
    rw [hmo, hyI, hdI, cum_low _ _ (by omega)]
    refine ⟨?_, by omega, by omega, ?_, ?_, by omega, ?_⟩
    · omega
    · omega
    · rcases k3.2 with k | ⟨ka, kb⟩
      · by_cases hm2 : ((mpN d - 9 : Nat) : Int) = 2
        · have : (28 : Int) ≤ mdI (E * 400 + y + 1) 2 := by unfold mdI; rw [if_pos rfl]; split <;> omega
          have h28 : mdI 1 2 = 28 := by decide
          rw [hm2] at k ⊢
          omega
        · rw [md_other _ _ hm2]; exact k
      · have := hleap ka
        subst ka
        have hm2 : mpN 365 = 11 := by decide
        simp only [mdI, hle1, this]
        decide
    · omega
theorem ys_mono {a b : Int} (h0 : 0 ≤ a) (h : a ≤ b) : ysI a ≤ ysI b := by
  obtain ⟨k, rfl⟩ : ∃ k : Nat, b = a + k := ⟨(b - a).toNat, by omega⟩
  clear h
  induction k with
  | zero => simp
  | succ k ih =>
    have := ys_step (a + k) (by omega)
    have e : a + ((k + 1 : Nat) : Int) = a + k + 1 := by omega
    rw [e, this]
    split <;> omega
theorem ys_unique {a b n : Int} (ha : 0 ≤ a) (hb : 0 ≤ b) (h1 : ysI a ≤ n) (h2 : n < ysI (a + 1)) (h3 : ysI b ≤ n) (h4 : n < ysI (b + 1)) : a = b := by
  rcases Int.lt_trichotomy a b with h | h | h
  · have := ys_mono (a := a + 1) (b := b) (by omega) (by omega); omega
  · exact h
  · have := ys_mono (a := b + 1) (b := a) (by omega) (by omega); omega
/-- The days ahead of the next month. -/
theorem cum_next (y m : Int) (h1 : 1 ≤ m) (h2 : m ≤ 12) : cumI y (m + 1) = cumI y m + mdI y m := by
  have : m = 1 ∨ m = 2 ∨ m = 3 ∨ m = 4 ∨ m = 5 ∨ m = 6 ∨ m = 7 ∨ m = 8 ∨ m = 9 ∨ m = 10 ∨ m = 11 ∨ m = 12 := by omega
  rcases this with h | h | h | h | h | h | h | h | h | h | h | h <;> subst h <;> simp [cumI, mdI] <;> split <;> rfl
theorem md_bd (y m : Int) : 28 ≤ mdI y m ∧ mdI y m ≤ 31 := by unfold mdI; split <;> split <;> omega
theorem cum_mono (y m : Int) (h1 : 1 ≤ m) : ∀ (k : Nat), m + k ≤ 13 → cumI y m ≤ cumI y (m + k)
  | 0, _ => by simp
  | k + 1, h => by
    have := cum_mono y m h1 k (by omega)
    have e : m + ((k + 1 : Nat) : Int) = m + k + 1 := by omega
    rw [e, cum_next y (m + k) (by omega) (by omega)]
    have := md_bd y (m + k)
    omega
theorem cum_year (y : Int) : cumI y 13 = 365 + (if leapI y = true then 1 else 0) := by simp [cumI]; omega
theorem y_unique {n a : Int} (h0 : -719468 ≤ n) (ha : 0 ≤ a) (h1 : ysI a ≤ n) (h2 : n < ysI (a + 1)) : a = yI n := by
  obtain ⟨e, m1, m2, d1, d2, y0, _⟩ := ymd_ok n h0
  refine ys_unique ha y0 h1 h2 ?_ ?_
  · have : cumI (yI n) 1 ≤ cumI (yI n) (moI n) := by
      have := cum_mono (yI n) 1 (by omega) (moI n - 1).toNat (by omega)
      rwa [show (1 : Int) + ((moI n - 1).toNat : Int) = moI n by omega] at this
    have h1 : cumI (yI n) 1 = 0 := by simp [cumI]
    omega
  · rw [ys_step _ y0]
    have h3 : cumI (yI n) (moI n + 1) ≤ cumI (yI n) 13 := by
      have := cum_mono (yI n) (moI n + 1) (by omega) (12 - moI n).toNat (by omega)
      rwa [show moI n + 1 + ((12 - moI n).toNat : Int) = 13 by omega] at this
    rw [cum_year, cum_next _ _ m1 m2] at h3
    omega
/-- Is a month ahead of the day's one, or is it the day's one? -/
theorem mo_test {n m : Int} (h0 : -719468 ≤ n) (h1 : 1 ≤ m) (h2 : m ≤ moI n) : (mdI (yI n) m ≤ n - ysI (yI n) - cumI (yI n) m ↔ m < moI n) := by
  obtain ⟨e, m1, m2, d1, d2, y0, _⟩ := ymd_ok n h0
  rcases Int.lt_or_le m (moI n) with h | h
  · refine ⟨fun _ => h, fun _ => ?_⟩
    have := cum_mono (yI n) (m + 1) (by omega) (moI n - m - 1).toNat (by omega)
    rw [show m + 1 + ((moI n - m - 1).toNat : Int) = moI n by omega, cum_next _ _ h1 (by omega)] at this
    omega
  · have : m = moI n := by omega
    subst this
    refine ⟨fun h => by omega, fun h => by omega⟩
end Go.Proofs.YteeabfdafnncfaaDoor
