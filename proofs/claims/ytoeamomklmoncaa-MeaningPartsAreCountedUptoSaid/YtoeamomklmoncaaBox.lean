/-
  Small facts on cells of new blocks.
-/
import Derived.Test.YtoeamomklmoncaaData
import Derived.Laws.Rows
namespace Go.Proofs.Ytoeamomklmoncaa
open Go.RowKit
theorem cell_new (w : World) (cs : Array Value) (t : TypeId) (i : Nat) : (w.alloc (.cells cs t)).cell? ⟨w.heap.size, i, none⟩ = cs[i]? := by
  have h : (w.alloc (.cells cs t)).heap[w.heap.size]? = some (.cells cs t (0, 0)) := heap_alloc_new w _
  exact cell_of_row _ _ _ _ _ _ h
theorem size_setCell (w : World) (a : Addr) (v : Value) : (w.setCell a v).heap.size = w.heap.size := by simp [World.setCell]
theorem cell_new_set (w : World) (a : Addr) (v : Value) (cs : Array Value) (t : TypeId) (i : Nat) : ((w.setCell a v).alloc (.cells cs t)).cell? ⟨w.heap.size, i, none⟩ = cs[i]? := by
  have := cell_new (w.setCell a v) cs t i
  rwa [size_setCell] at this
end Go.Proofs.Ytoeamomklmoncaa
