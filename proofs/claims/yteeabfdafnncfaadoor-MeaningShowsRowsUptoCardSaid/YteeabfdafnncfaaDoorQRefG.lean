/-
  The reference of package value: a value without its items.
-/
import Derived.Test.YteeabfdafnncfaaDoorQRefF
import Derived.Deep.Light
namespace Go.Proofs.YteeabfdafnncfaaDoor
open Go.RowKit
set_option maxRecDepth 100000 in
set_option maxHeartbeats 4000000 in
theorem ralone_any (k n sc : Int) (s : ByteArray) (A : Option Addr) (len cap B : Nat) (w : World) (hl : len ≤ maxLen) (hs : s.size ≤ maxLen) (hB : B ≤ w.heap.size) (hT : Tabs B w) :
    Calls Tryd.prog 39 #[.agg #[.int .i64 k, .int .i64 n, .int .i64 sc, .string s, .slice A len cap]] w fun e w' => e = .returned (.bool (aloneS k n sc s len)) ∧ Below w.heap.size w w' := by
  have hC := Lib.hid fun o => rcharacters_any s B (w.alloc o) hs (hT.keep ((Same.refl B w).alloc hB o))
  unfold maxLen at hl
  clear hs hT
  have hbw : ∀ o, Below w.heap.size w (w.alloc o) := fun o => (Below.refl _ _).alloc (Nat.le_refl _) _
  obtain ⟨R, hR⟩ : ∃ R, aloneS k n sc s len = R := ⟨_, rfl⟩
  rw [hR]
  have HR := Lib.hid hR
  clear hR
  go_enter Tryd.func39, Tryd.ntmps39
  go_wp2_with (first | (go_at_call 53; refine (rwithin_any _ _ _ _).mono ?_; rintro e w' ⟨rfl, rfl⟩) | (go_at_call 54; refine (hC.out _).mono ?_; rintro e w' ⟨rfl, hb⟩))
  all_goals
    go_ret
    refine ⟨?_, by first | exact hbw _ | exact (hbw _).trans (hb.mono (by simp))⟩
    rw [← HR.out]
    go_light
    simp_all [aloneS] <;> omega
end Go.Proofs.YteeabfdafnncfaaDoor
