/-
  Operations on structs of which only the list of cells is known: a load, the store into a new variable, a slice of one struct.
-/
import Derived.Test.YtoeamomklmoncaaDtA
import Derived.Deep.WholeRow
import Derived.Deep.MidRow
namespace Go.Proofs.Ytoeamomklmoncaa
open Go.RowKit
section
variable {P : Program}
theorem run_loadAt_st (w : World) (t : TypeId) (d : TypeDesc) (ad : Addr) (cs : List Value) (hc : ∀ j u, cs[j]? = some u → w.cell? (ad.add j) = some u) (hu : P.underlying t = some d) (hd : d.isRow = true) (hi : (P.info? t).map (·.size) = some cs.length) :
    (Instr.loadAt t (.pointer (some ad))).run P w = .ok (.agg cs.toArray) w := by
  have hl := run_loadCells_list (P := P) w ad cs hc
  cases hq : P.info? t with
  | none => simp [hq] at hi
  | some i =>
    have hs : i.size = cs.length := by simpa [hq] using hi
    have hagg : (isAgg t).run P w = .ok true w := by
      unfold isAgg
      rw [Sem.run_bind, run_underlying hu w]
      cases d <;> simp_all [TypeDesc.isRow]
    simp only [Instr.loadAt, Instr.sureAddr, Sem.run_bind, Sem.run_pure, Result.andThen_ok]
    simp [loadVar, Sem.run_bind, hagg, sizeOf, typeInfo, hq, hs, hl]
/-- A struct is loaded. -/
theorem wpList_load_st {ops : Array Oper} {rest : List Oper} {o : Oper} {a : Act} {w : World} {Q : Exit → Act → World → Prop} (hgd : o.guard = none) (t : TypeId) (x : Operand) (ho : o.op = .load t x) (d : TypeDesc)
    (hu : P.underlying t = some d) (hd : d.isRow = true) (ad : Addr) (cs : List Value) (hi : (P.info? t).map (·.size) = some cs.length) (hx : a.eval x = .pointer (some ad)) (hc : ∀ j u, cs[j]? = some u → w.cell? (ad.add j) = some u)
    (h : wpList P ops Q rest (a.put o.dst (.agg cs.toArray)) w) : wpList P ops Q (o :: rest) a w :=
  wpList_plain hgd fun _ hK => by
    unfold Oper.wp execOp
    simp only [ho, hx, Sem.run_bind, run_loadAt_st w t d ad cs hc hu hd hi, Result.andThen_ok]
    exact hK _ _ h
/-- A struct is stored into the variable that was made last. -/
theorem wpList_store_st {ops : Array Oper} {rest : List Oper} {o : Oper} {a : Act} {w : World} {Q : Exit → Act → World → Prop} (hgd : o.guard = none) (t : TypeId) (x y : Operand) (ho : o.op = .store t x y)
    (c cs : Array Value) (hi : (P.info? t).map (·.size) = some cs.size) (hz : c.size = cs.size) (h1 : cs.all (·.oneCell') = true) (hx : a.eval x = .pointer (some ⟨w.heap.size, 0, none⟩)) (hy : a.eval y = .agg cs)
    (h : wpList P ops Q rest (a.put o.dst undef) (w.alloc (.cells cs t))) : wpList P ops Q (o :: rest) a (w.alloc (.cells c t)) :=
  wpList_plain hgd fun _ hK => by
    unfold Oper.wp execOp
    simp only [ho, hx, hy, Sem.run_bind, run_storeAt_new w t c cs hi hz h1, Result.andThen_ok]
    exact hK _ _ h
theorem fold_set (cs : List Value) : ∀ (k : Nat) (z : Array Value), z.size = k + cs.length → (cs.zipIdx k).foldl (fun z (c, j) => z.setIfInBounds j c) z = (z.toList.take k ++ cs).toArray := by
  induction cs with
  | nil =>
    intro k z hz
    have hz' : z.toList.length = k := by simpa using hz
    simp only [List.zipIdx_nil, List.foldl_nil, List.append_nil]
    rw [← hz', List.take_length]
  | cons c cs ih =>
    intro k z hz
    simp only [List.zipIdx_cons, List.foldl_cons]
    rw [ih (k + 1) _ (by simp at hz ⊢; omega)]
    congr 1
    have hk : k < z.toList.length := by simp at hz ⊢; omega
    rw [Array.toList_setIfInBounds, List.take_add_one, List.take_set_of_le (Nat.le_refl _), List.getElem?_set_self hk]
    simp
/-- A slice of one struct is made. -/
theorem wpList_one_st {ops : Array Oper} {rest : List Oper} {o : Oper} {a : Act} {w : World} {Q : Exit → Act → World → Prop} (hgd : o.guard = none) (t e : TypeId) (x : Operand) (ho : o.op = .buildSlice t 1 #[(0, x)])
    (i : TypeInfo) (ht : P.underlying t = some (.slice e)) (hi : P.info? e = some i) (z : Value) (hz : i.zero = some z) (cs : Array Value) (hs : i.size = cs.size) (hzs : z.cells.size = cs.size) (h0 : 0 < cs.size) (hb : cs.size ≤ 16777216) (hx : a.eval x = .agg cs)
    (h : wpList P ops Q rest (a.put o.dst (.slice (some ⟨w.heap.size, 0, none⟩) 1 1)) (w.alloc (.cells cs e))) : wpList P ops Q (o :: rest) a w :=
  wpList_plain hgd fun _ hK => by
    have hne : ¬ cs.size = 0 := by omega
    have hnb : ¬ (2 ^ 24 < cs.size) := by omega
    have hf : (cs.toList.zipIdx 0).foldl (fun z (c, j) => z.setIfInBounds j c) ((Array.range cs.size).map (z.cells[· % z.cells.size]!)) = cs := by
      rw [fold_set cs.toList 0 _ (by simp)]
      simp
    have hf2 : cs.zipIdx.foldl (fun cs' (c, j) => cs'.setIfInBounds (0 + j) c) ((Array.range cs.size).map (z.cells[· % z.cells.size]!)) = cs := by
      rw [← Array.foldl_toList, Array.toList_zipIdx]
      simpa using hf
    have hcells : (Value.agg cs).cells = cs := rfl
    have hr : (Instr.buildSlice t 1 #[(0, .agg cs)]).run P w = .ok (.slice (some ⟨w.heap.size, 0, none⟩) 1 1) (w.alloc (.cells cs e)) := by
      simp [Instr.buildSlice, Sem.run_bind, run_underlying ht, sizeOf, typeInfo, hi, hs, hne, hnb, zeroValue, hz, Instr.fill, hcells, newRow, Result.andThen]
      simp at hf2
      rw [hf2]
    unfold Oper.wp execOp
    simp only [ho, Sem.run_bind]
    simp [hx, hr, Result.andThen]
    exact hK _ _ h
end
/-- The cells of a new block. -/
theorem new_cells (w : World) (cs : List Value) (t : TypeId) : ∀ j u, cs[j]? = some u → (w.alloc (.cells cs.toArray t)).cell? ((⟨w.heap.size, 0, none⟩ : Addr).add j) = some u := fun j u hu => by
  have hadd : (⟨w.heap.size, 0, none⟩ : Addr).add j = ⟨w.heap.size, j, none⟩ := by unfold Addr.add; split <;> simp_all
  rw [hadd, cell_of_row _ _ j _ t (0, 0) (heap_alloc_new w _)]
  simpa using hu
theorem all_one {cs : List Value} (h : ∀ u, u ∈ cs → u.oneCell' = true) : cs.toArray.all (·.oneCell') = true := by
  rw [Array.all_eq_true_iff_forall_mem]
  intro u hu
  exact h u (by simpa using hu)
end Go.Proofs.Ytoeamomklmoncaa
