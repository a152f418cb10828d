/-
  The reference of package value: numbers within bounds.
-/
import Derived.Test.YteeabfdafnncfaaDoorQSpec
import Derived.Test.YteeabfdafnncfaaDoorProg
import Derived.WalkLawsBesides
import Derived.WalkSpells
import Derived.Outline
import Derived.Deep.QuietTactic
import Derived.BigQuiet
import Derived.Lib.Hide
namespace Go.Proofs.YteeabfdafnncfaaDoor
open Go.RowKit
theorem rwithin_any (n a b : Int) (w : World) :
    Calls Tryd.prog 53 #[.int .i64 n, .int .i64 a, .int .i64 b] w fun e w' => e = .returned (.bool (withinB n a b)) ∧ w = w' := by
  by_cases h1 : a ≤ n <;> by_cases h2 : n ≤ b
  all_goals
    go_enter Tryd.func53, Tryd.ntmps53
    go_wp2
    go_ret
    exact ⟨by simp [withinB, h1, h2], rfl⟩
end Go.Proofs.YteeabfdafnncfaaDoor
