/-
  The reference of package value: numbers within bounds.
-/
import Derived.Test.YtcdaipkkddgbeaaQSpec
import Derived.Test.YtcdaipkkddgbeaaProg
import Derived.WalkLawsBesides
import Derived.WalkSpells
import Derived.Outline
import Derived.Deep.QuietTactic
import Derived.BigQuiet
import Derived.Lib.Hide
namespace Go.Proofs.Ytcdaipkkddgbeaa
open Go.RowKit
theorem rwithin_any (n a b : Int) (w : World) :
    Calls Try.prog 31 #[.int .i64 n, .int .i64 a, .int .i64 b] w fun e w' => e = .returned (.bool (withinB n a b)) ∧ w = w' := by
  by_cases h1 : a ≤ n <;> by_cases h2 : n ≤ b
  all_goals
    go_enter Try.func31, Try.ntmps31
    go_wp2
    go_ret
    exact ⟨by simp [withinB, h1, h2], rfl⟩
end Go.Proofs.Ytcdaipkkddgbeaa
