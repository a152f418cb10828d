/-
  What Parts and Tables come to, as plain functions.
-/
import Derived.Test.YtoeamomklmoncaaPtA
import Derived.Test.YtoeamomklmoncaaPtC
import Derived.Test.YtoeamomklmoncaaShelf
import Derived.Sort.OwnSorted
namespace Go.Proofs.Ytoeamomklmoncaa
open Go.RowKit Go.Sort
mutual
def partsR : Nat → DT → Nat
  | 0, _ => 0
  | f + 1, d => 1 + ((d.kid 0).map (partsR f)).sum + ((relE d).map (partsE f)).sum
def partsE : Nat → DT → Nat
  | 0, _ => 0
  | f + 1, e => 1 + ((e.kid 0).map (partsE f)).sum + ((e.kid 1).map (partsR f)).sum
end
mutual
def tabsR : Nat → DT → List DT
  | 0, _ => []
  | f + 1, d => (if dInt d 0 = 1 then [d] else []) ++ (d.kid 0).flatMap (tabsR f) ++ (relE d).flatMap (tabsE f)
def tabsE : Nat → DT → List DT
  | 0, _ => []
  | f + 1, e => (e.kid 0).flatMap (tabsE f) ++ (e.kid 1).flatMap (tabsR f)
end
theorem sum_le {F : DT → Nat} {l : List DT} (h : ∀ x, F x ≤ x.n) : (l.map F).sum ≤ nL l := by
  induction l with
  | nil => exact Nat.le_refl _
  | cons y l ih =>
    rw [List.map_cons, List.sum_cons, nL_cons]
    have := h y
    omega
theorem parts_le : ∀ f, (∀ d, partsR f d ≤ d.n) ∧ ∀ e, partsE f e ≤ e.n
  | 0 => ⟨fun d => by simp [partsR], fun e => by simp [partsE]⟩
  | f + 1 => by
    obtain ⟨ihR, ihE⟩ := parts_le f
    refine ⟨fun d => ?_, fun e => ?_⟩
    · have h1 := nL_relE d
      have h2 := sum_le (F := partsR f) (l := d.kid 0) ihR
      have h3 := sum_le (F := partsE f) (l := relE d) ihE
      rw [partsR]
      omega
    · have h1 := kids5 e
      have h2 := sum_le (F := partsE f) (l := e.kid 0) ihE
      have h3 := sum_le (F := partsR f) (l := e.kid 1) ihR
      rw [partsE]
      omega
theorem tabs_len : ∀ f, (∀ d, (tabsR f d).length ≤ d.n) ∧ ∀ e, (tabsE f e).length ≤ e.n
  | 0 => ⟨fun d => by simp [tabsR], fun e => by simp [tabsE]⟩
  | f + 1 => by
    obtain ⟨ihR, ihE⟩ := tabs_len f
    refine ⟨fun d => ?_, fun e => ?_⟩
    · have h1 := nL_relE d
      have h2 := len_flat_n (f := tabsR f) (l := d.kid 0) ihR
      have h3 := len_flat_n (f := tabsE f) (l := relE d) ihE
      rw [tabsR, List.length_append, List.length_append]
      have h4 : (if dInt d 0 = 1 then [d] else []).length ≤ 1 := by split <;> simp
      omega
    · have h1 := kids5 e
      have h2 := len_flat_n (f := tabsE f) (l := e.kid 0) ihE
      have h3 := len_flat_n (f := tabsR f) (l := e.kid 1) ihR
      rw [tabsE, List.length_append]
      omega
theorem tabs_in {S : Nat → Prop} {w : World} : ∀ f, (∀ d, DT.In S w .rel d → ∀ x, x ∈ tabsR f d → DT.In S w .rel x) ∧ ∀ e, DT.In S w .expr e → ∀ x, x ∈ tabsE f e → DT.In S w .rel x
  | 0 => ⟨fun d _ x hx => by simp [tabsR] at hx, fun e _ x hx => by simp [tabsE] at hx⟩
  | f + 1 => by
    obtain ⟨ihR, ihE⟩ := tabs_in (S := S) (w := w) f
    refine ⟨fun d hd x hx => ?_, fun e he x hx => ?_⟩
    · rw [tabsR] at hx
      rcases List.mem_append.1 hx with hx | hx
      · rcases List.mem_append.1 hx with hx | hx
        · split at hx
          · rw [List.mem_singleton] at hx
            subst hx
            exact hd
          · cases hx
        · obtain ⟨y, hy, hxy⟩ := List.mem_flatMap.1 hx
          exact ihR y (hd.relCells.2.2.2.2.2.1 y hy) x hxy
      · obtain ⟨y, hy, hxy⟩ := List.mem_flatMap.1 hx
        exact ihE y (hd.relE y hy) x hxy
    · rw [tabsE] at hx
      rcases List.mem_append.1 hx with hx | hx
      · obtain ⟨y, hy, hxy⟩ := List.mem_flatMap.1 hx
        exact ihE y (he.exprKids.2.2.1 y hy) x hxy
      · obtain ⟨y, hy, hxy⟩ := List.mem_flatMap.1 hx
        exact ihR y (he.exprKids.2.2.2 y hy) x hxy
def dName (d : DT) : ByteArray := match (d.c[2]? : Option Value) with
  | some (Value.string s) => s
  | _ => ⟨#[]⟩
theorem DT.In.relName {S : Nat → Prop} {w : World} {d : DT} (h : DT.In S w .rel d) : d.c[2]? = some (.string (dName d)) := by
  obtain ⟨a, IA, icap, is, EA, ecap, es, GA, gcap, gs, WA, wcap, ws, KA, kcap, ks, hd⟩ := h.rel
  rw [hd.e]
  rfl
/-- The names, as lists of bytes. -/
def nmS (l : List DT) : List (List UInt8) := l.map fun d => (dName d).data.toList
theorem enc_name (d : DT) : encStr (dName d).data.toList = .string (dName d) := rfl
/-- A sum, a place on. -/
theorem sum_take {F : DT → Nat} {l : List DT} {j : Nat} {x : DT} (hx : l[j]? = some x) : ((l.take (j + 1)).map F).sum = ((l.take j).map F).sum + F x := by
  rw [List.take_add_one, hx]
  simp
theorem sum_take_le {F : DT → Nat} (l : List DT) (j : Nat) {x : DT} (hx : l[j]? = some x) : ((l.take j).map F).sum + F x ≤ (l.map F).sum := by
  have e : l = l.take j ++ (x :: l.drop (j + 1)) := by rw [← drop_of_get? hx, List.take_append_drop]
  have h2 : (l.map F).sum = ((l.take j ++ (x :: l.drop (j + 1))).map F).sum := by rw [← e]
  rw [h2]
  simp only [List.map_append, List.map_cons, List.sum_append, List.sum_cons]
  omega
end Go.Proofs.Ytoeamomklmoncaa
