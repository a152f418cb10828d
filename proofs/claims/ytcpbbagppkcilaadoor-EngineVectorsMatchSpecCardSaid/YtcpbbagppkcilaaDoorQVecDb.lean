/-
  Vectors: a bit of a word.
-/
import Derived.Test.YtcpbbagppkcilaaDoorQVecDa
import Derived.Deep.DeepCutAuto
import Derived.WalkSmall
namespace Go.Proofs.YtcpbbagppkcilaaDoor
open Go.RowKit
theorem bit_zero (y : Int) (h0 : 0 ≤ y) (h1 : y ≤ 18446744073709551615) : (bits BinOp.and IntKind.u64 y 1 == 0) = !(bits BinOp.and IntKind.u64 y 1 == 1) := by
  rw [and_one_u64 y h0 h1]
  have : y % 2 = 0 ∨ y % 2 = 1 := by omega
  rcases this with h | h <;> rw [h] <;> rfl
theorem bit_zero' (x : Int) (q : Nat) (h0 : 0 ≤ x) (h1 : x ≤ 18446744073709551615) : (bits BinOp.and IntKind.u64 (x / 2 ^ q) 1 == 0) = !(bits BinOp.and IntKind.u64 (x / 2 ^ q) 1 == 1) := by
  have hp : (0 : Int) < 2 ^ q := Int.pow_pos (by omega)
  have h2 : 0 ≤ x / 2 ^ q := Int.ediv_nonneg h0 (by omega)
  have h3 : x / 2 ^ q ≤ x := Int.ediv_le_self _ h0
  exact bit_zero _ h2 (by omega)
theorem kind2 {k : Int} (h : kindS k = 2) : (k == 4) = false ∧ (k == 6) = false ∧ (k == 7) = false := by
  unfold kindS at h
  by_cases h4 : k = 4
  · rw [if_pos h4] at h; omega
  · rw [if_neg h4] at h
    by_cases h6 : k = 6 ∨ k = 7
    · rw [if_pos h6] at h; omega
    · exact ⟨by simpa using h4, by simp; omega, by simp; omega⟩
end Go.Proofs.YtcpbbagppkcilaaDoor
