/-
  What lies in memory, taken apart.
-/
import Derived.Test.YtoeamomklmoncaaBox
namespace Go.Proofs.Ytoeamomklmoncaa
open Go.RowKit
theorem VT.In.parts {B : Nat} {w : World} {a : VP} {l : List VT} (h : VT.In B w (.node a l)) : I64 a.k ∧ I64 a.n ∧ I64 a.sc ∧ a.s.size ≤ maxLen ∧ VT.Row B w a.A a.cap l ∧ ∀ x, x ∈ l → VT.In B w x := by
  cases h
  exact ⟨by assumption, by assumption, by assumption, by assumption, by assumption, by assumption⟩
theorem FT.In.parts {B : Nat} {w : World} {a : FP} {l : List FT} (h : FT.In B w (.node a l)) : I64 a.id ∧ a.nm.size ≤ maxLen ∧ I64 a.k ∧ I64 a.sc ∧ FT.Row B w a.A a.cap l ∧ ∀ x, x ∈ l → FT.In B w x := by
  cases h
  exact ⟨by assumption, by assumption, by assumption, by assumption, by assumption, by assumption⟩
theorem bel1 (w : World) (o : Obj) : Below w.heap.size w (w.alloc o) := (Below.refl _ _).alloc (Nat.le_refl _) _
theorem bel2 (w : World) (o o2 : Obj) : Below w.heap.size w ((w.alloc o).alloc o2) := (bel1 w o).alloc (by simp) _
theorem bel3 (w : World) (o o2 o3 : Obj) : Below w.heap.size w (((w.alloc o).alloc o2).alloc o3) := (bel2 w o o2).alloc (by simp; omega) _
theorem cell_lt {w : World} {p : Addr} {v : Value} (h : w.cell? p = some v) : p.block < w.heap.size := by
  rcases Nat.lt_or_ge p.block w.heap.size with h' | h'
  · exact h'
  · simp [World.cell?, Array.getElem?_eq_none h'] at h
theorem cell_old {w : World} {p : Addr} {v : Value} (h : w.cell? p = some v) (o : Obj) : (w.alloc o).cell? p = some v := (World.cell?_alloc_lt w o p (cell_lt h)).trans h
end Go.Proofs.Ytoeamomklmoncaa
