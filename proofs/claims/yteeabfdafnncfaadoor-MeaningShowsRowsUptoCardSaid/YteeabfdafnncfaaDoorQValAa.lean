/-
  Package value: numbers within bounds.
-/
import Derived.Test.YteeabfdafnncfaaDoorQShelf
import Derived.Test.YteeabfdafnncfaaDoorQRefA0
import Derived.Test.YteeabfdafnncfaaDoorQLibV
import Derived.Test.YteeabfdafnncfaaDoorQUtf
import Derived.Deep.Light
namespace Go.Proofs.YteeabfdafnncfaaDoor
open Go.RowKit
theorem toList_empty {s : ByteArray} (h : s.size = 0) : s.toList = [] := by rw [ByteArray.toList_eq]; exact List.eq_nil_of_length_eq_zero h
theorem toList_isEmpty {s : ByteArray} (h : s.size ≠ 0) : s.toList.isEmpty = false := by
  rw [ByteArray.toList_eq]
  cases e : s.data.toList with
  | nil => exact absurd (show s.data.toList.length = 0 by rw [e]; rfl) h
  | cons _ _ => rfl
theorem vwithin_any (n a b : Int) (w : World) :
    Calls Tryd.prog 43 #[.int .i64 n, .int .i64 a, .int .i64 b] w fun e w' => e = .returned (.bool (withinB n a b)) ∧ w = w' := by
  by_cases h1 : a ≤ n <;> by_cases h2 : n ≤ b
  all_goals
    go_enter Tryd.func43, Tryd.ntmps43
    go_wp2
    go_ret
    exact ⟨by simp [withinB, h1, h2], rfl⟩
end Go.Proofs.YteeabfdafnncfaaDoor
