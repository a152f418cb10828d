/-
  A value in a block of its own, behind a call that leaves it alone.
-/
import Derived.Test.YteeabfdafnncfaaDoorQTxB
namespace Go.Proofs.YteeabfdafnncfaaDoor
open Go.RowKit
theorem box5 {w w2 : World} {k n sc : Int} {s : ByteArray} {A : Option Addr} {len cap : Nat} {t : TypeId} (hb : Below (w.alloc (.cells #[.int .i64 k, .int .i64 n, .int .i64 sc, .string s, .slice A len cap] t)).heap.size (w.alloc (.cells #[.int .i64 k, .int .i64 n, .int .i64 sc, .string s, .slice A len cap] t)) w2) :
    w2.cell? ⟨w.heap.size, 0, none⟩ = some (.int .i64 k) ∧ w2.cell? ⟨w.heap.size, 1, none⟩ = some (.int .i64 n) ∧ w2.cell? ⟨w.heap.size, 2, none⟩ = some (.int .i64 sc) ∧ w2.cell? ⟨w.heap.size, 3, none⟩ = some (.string s) ∧ w2.cell? ⟨w.heap.size, 4, none⟩ = some (.slice A len cap) ∧ Below w.heap.size w w2 := by
  have h : w2.heap[w.heap.size]? = some (.cells #[.int .i64 k, .int .i64 n, .int .i64 sc, .string s, .slice A len cap] t (0, 0)) := (hb.block _ (by simp)).trans (heap_alloc_new w _)
  refine ⟨?_, ?_, ?_, ?_, ?_, ((Below.refl _ w).alloc (Nat.le_refl _) _).trans (hb.mono (by simp))⟩ <;> simp [World.cell?, h]
end Go.Proofs.YteeabfdafnncfaaDoor
