/-
  The reference of package value: the text of a sound value that has no items, but for decimals, texts and moments.
-/
import Derived.Test.YteeabfdafnncfaaDoorQTxS
import Derived.Test.YteeabfdafnncfaaDoorQTxRa
import Derived.Test.YteeabfdafnncfaaDoorQTxRb
namespace Go.Proofs.YteeabfdafnncfaaDoor
open Go.RowKit
set_option maxRecDepth 100000 in
set_option maxHeartbeats 4000000 in
theorem rtext_plain (k n sc : Int) (s : ByteArray) (A : Option Addr) (len cap B : Nat) (w : World) (hk : k = 0 ∨ (k = 1 ∧ (n = 0 ∨ n = 1)) ∨ (k = 2 ∧ -999999999999999999 ≤ n ∧ n ≤ 999999999999999999)) (hT : PowTab B w) (hB : B ≤ w.heap.size) :
    Calls Tryd.prog 17 #[.agg #[.int .i64 k, .int .i64 n, .int .i64 sc, .string s, .slice A len cap]] w fun e w' => e = .returned (.string (bs (leafL k n sc s))) ∧ Below w.heap.size w w' := by
  have hS : ∀ o, PowTab B (w.alloc o) := fun o => hT.keep ((Same.refl B w).alloc hB o)
  have hbw : ∀ o, Below w.heap.size w (w.alloc o) := fun o => (Below.refl _ _).alloc (Nat.le_refl _) _
  rcases hk with rfl | ⟨rfl, rfl | rfl⟩ | ⟨rfl, n0, n1⟩
  · clear hT hS
    go_enter Tryd.func17, Tryd.ntmps17
    go_wp2
    go_ret
    exact ⟨rfl, hbw _⟩
  · clear hT hS
    go_enter Tryd.func17, Tryd.ntmps17
    go_wp2
    go_ret
    exact ⟨rfl, hbw _⟩
  · clear hT hS
    go_enter Tryd.func17, Tryd.ntmps17
    go_wp2
    go_ret
    exact ⟨rfl, hbw _⟩
  · have hF := Lib.hid fun o => itoa_any n B (w.alloc o) ⟨by omega, by omega⟩ (hS o)
    clear hT hS
    go_enter Tryd.func17, Tryd.ntmps17
    go_wp2_with (go_at_call 20; refine (hF.out _).mono ?_; rintro e w' ⟨rfl, hb⟩)
    go_ret
    exact ⟨rfl, (hbw _).trans (hb.mono (by simp))⟩
end Go.Proofs.YteeabfdafnncfaaDoor
