/-
  Runes and bytes: plain facts on the decoder.
-/
import Derived.Test.YteeabfdafnncfaaDoorQSpec
import Derived.Shelf.GgClosure.StringsIndexFunc
import Derived.Shelf.Unicode.DecodeSlow
namespace Go.Proofs.YteeabfdafnncfaaDoor
open Go.RowKit
theorem get!_eq (s : ByteArray) (i : Nat) (h : i < s.size) : s.get! i = s[i] := Utf8W.get!_of_lt s i h
theorem dec_lo (s : ByteArray) (i : Nat) (h : (s.get! i).toNat < 128) : Utf8.decode s i = ((s.get! i).toNat, 1) := by
  unfold Utf8.decode
  simp [h]
theorem dec_hi (s : ByteArray) (i : Nat) (h : 128 ≤ (s.get! i).toNat) :
    128 ≤ (Utf8.decode s i).1 ∧ 1 ≤ (Utf8.decode s i).2 ∧ ∀ k, k < (Utf8.decode s i).2 → k = 0 ∨ (i + k < s.size ∧ 128 ≤ (s.get! (i + k)).toNat) := by
  have h0 : ¬ (s.get! (i + 0)).toNat < 128 := by simpa using h
  unfold Utf8.decode
  simp only [h0, if_false]
  split
  · rename_i hc
    simp only [Bool.and_eq_true, decide_eq_true_eq, beq_iff_eq] at hc
    split
    · rename_i hge
      refine ⟨hge, by simp, fun k hk => ?_⟩
      have : k = 0 ∨ k = 1 := by simp at hk; omega
      rcases this with rfl | rfl
      · exact .inl rfl
      · exact .inr ⟨hc.2.1, by omega⟩
    · exact ⟨by decide, by simp, fun k hk => by simp at hk; exact .inl hk⟩
  · split
    · rename_i hc
      simp only [Bool.and_eq_true, decide_eq_true_eq, beq_iff_eq] at hc
      split
      · rename_i hge
        simp only [Bool.and_eq_true, decide_eq_true_eq] at hge
        refine ⟨by omega, by simp, fun k hk => ?_⟩
        have : k = 0 ∨ k = 1 ∨ k = 2 := by simp at hk; omega
        rcases this with rfl | rfl | rfl
        · exact .inl rfl
        · exact .inr ⟨hc.1.2.1, by omega⟩
        · exact .inr ⟨hc.2.1, by omega⟩
      · exact ⟨by decide, by simp, fun k hk => by simp at hk; exact .inl hk⟩
    · split
      · rename_i hc
        simp only [Bool.and_eq_true, decide_eq_true_eq, beq_iff_eq] at hc
        split
        · rename_i hge
          simp only [Bool.and_eq_true, decide_eq_true_eq] at hge
          refine ⟨by omega, by simp, fun k hk => ?_⟩
          have : k = 0 ∨ k = 1 ∨ k = 2 ∨ k = 3 := by simp at hk; omega
          rcases this with rfl | rfl | rfl | rfl
          · exact .inl rfl
          · exact .inr ⟨hc.1.1.2.1, by omega⟩
          · exact .inr ⟨hc.1.2.1, by omega⟩
          · exact .inr ⟨hc.2.1, by omega⟩
        · exact ⟨by decide, by simp, fun k hk => by simp at hk; exact .inl hk⟩
      · exact ⟨by decide, by simp, fun k hk => by simp at hk; exact .inl hk⟩
theorem idxFrom_bad (p : Nat → Bool) (hp : ∀ r, 128 ≤ r → p r = true) (s : ByteArray) : ∀ (f pos : Nat), s.size ≤ pos + f →
    (Lib.idxFuncFrom p true s f pos = -1 ∧ ∀ i, pos ≤ i → (h : i < s.size) → p s[i].toNat = false) ∨ (0 ≤ Lib.idxFuncFrom p true s f pos ∧ ∃ i, pos ≤ i ∧ ∃ h : i < s.size, p s[i].toNat = true)
  | 0, pos, hf => .inl ⟨rfl, fun i hi h => absurd h (by omega)⟩
  | f + 1, pos, hf => by
    unfold Lib.idxFuncFrom
    by_cases hps : pos < s.size
    · rw [if_pos hps]
      have hg := get!_eq s pos hps
      by_cases hlo : (s.get! pos).toNat < 128
      · rw [dec_lo s pos hlo]
        simp only []
        cases hpp : p (s.get! pos).toNat
        · rw [if_neg (by simp)]
          rcases idxFrom_bad p hp s f (pos + 1) (by omega) with ⟨h1, h2⟩ | ⟨h1, i, hi, h, hb⟩
          · refine .inl ⟨h1, fun i hi h => ?_⟩
            by_cases e : i = pos
            · subst e; rw [← hg]; exact hpp
            · exact h2 i (by omega) h
          · exact .inr ⟨h1, i, by omega, h, hb⟩
        · rw [if_pos rfl]
          exact .inr ⟨by omega, pos, Nat.le_refl _, hps, by rw [← hg]; exact hpp⟩
      · have hd := dec_hi s pos (by omega)
        rw [if_pos (hp _ hd.1)]
        exact .inr ⟨by omega, pos, Nat.le_refl _, hps, by rw [← hg]; exact hp _ (by omega)⟩
    · rw [if_neg hps]
      exact .inl ⟨rfl, fun i hi h => absurd h (by omega)⟩
theorem idx_bad (p : Nat → Bool) (hp : ∀ r, 128 ≤ r → p r = true) (s : ByteArray) : decide (0 ≤ Lib.idxFunc p true s) = !decide (∀ i (h : i < s.size), p s[i].toNat = false) := by
  unfold Lib.idxFunc
  rcases idxFrom_bad p hp s s.size 0 (by omega) with ⟨h1, h2⟩ | ⟨h1, i, _, h, hb⟩
  · rw [h1, decide_eq_true (show ∀ i (h : i < s.size), p s[i].toNat = false from fun i h => h2 i (by omega) h)]
    rfl
  · rw [decide_eq_true h1, decide_eq_false (fun hall => by rw [hall i h] at hb; cases hb)]
    rfl
/-- What value.Name looks for. -/
def wrongB (r : Nat) : Bool := (decide (r < 97) || decide (122 < r)) && (decide (r < 48) || decide (57 < r)) && (r != 95)
theorem name_by_runes (s : ByteArray) (h1 : 1 ≤ s.size) (h24 : s.size ≤ 24) (ha : 97 ≤ s[0].toNat) (hz : s[0].toNat ≤ 122) : (!decide (0 ≤ Lib.idxFunc wrongB true s)) = nameB s := by
  rw [idx_bad wrongB (fun r hr => by simp [wrongB]; omega), Bool.not_not]
  unfold nameB
  rw [decide_eq_true h1, decide_eq_true h24, Bool.true_and, Bool.true_and]
  congr 1
  rw [eq_iff_iff]
  constructor
  · intro h i hi
    have := h i hi
    simp only [wrongB] at this
    by_cases e : i = 0
    · subst e; simp [nmB]; omega
    · simp [nmB, e]
      simp at this
      omega
  · intro h i hi
    have := h i hi
    simp only [nmB] at this
    simp at this
    simp [wrongB]
    omega
end Go.Proofs.YteeabfdafnncfaaDoor
