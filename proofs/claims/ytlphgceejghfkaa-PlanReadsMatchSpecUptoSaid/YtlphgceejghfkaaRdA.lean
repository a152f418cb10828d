/-
  What Reads comes to, as a plain function; slices of numbers, and slices of these, in memory.
-/
import Derived.Test.YtlphgceejghfkaaDtH
import Derived.Test.YtlphgceejghfkaaShelf
import Derived.Sort.OwnSortedInts
namespace Go.Proofs.Ytlphgceejghfkaa
open Go.RowKit Go.Sort
def upTo (n : Nat) : List Int := (List.range n).map fun (i : Nat) => (i : Int)
theorem nums_eq (n : Nat) : nums n = (upTo n).map (Value.int .i64) := by
  unfold nums upTo
  rw [List.map_map]
  rfl
theorem upTo_len (n : Nat) : (upTo n).length = n := by simp [upTo]
/-- Numbers in order, each once. -/
def mergeI (l : List Int) : List Int := Lib.compact (l.mergeSort fun x y => decide (x ≤ y))
/-- A column of the row at hand. -/
def colE (e : DT) : Bool := dInt e 0 == 2 && dInt e 2 == 0
/-- The columns of x, an input of r, that are read. -/
def readOf (r x : DT) : List Int := if dInt r 0 = 4 ∧ dInt x 0 = 1 ∧ (r.kid 1).all colE = true then mergeI ((r.kid 1).map fun e => dInt e 3) else upTo (dLen x 4)
mutual
def readsR : Nat → DT → List Int → List (List Int)
  | 0, _, _ => []
  | f + 1, d, own => (if dInt d 0 = 1 then [own] else []) ++ (d.kid 0).flatMap (fun x => readsR f x (readOf d x)) ++ (relE d).flatMap (readsE f)
def readsE : Nat → DT → List (List Int)
  | 0, _ => []
  | f + 1, e => (e.kid 0).flatMap (readsE f) ++ (e.kid 1).flatMap (fun r => readsR f r (upTo (dLen r 4)))
end
theorem kids5 (d : DT) : nL (d.kid 0) + nL (d.kid 1) + nL (d.kid 2) + nL (d.kid 3) + nL (d.kid 4) + 1 ≤ d.n := by
  obtain ⟨c, k⟩ := d
  rw [DT.n_node]
  unfold DT.kid DT.k
  match k with
  | [] => simp [nL]
  | [a] => simp [nL_nil]; omega
  | [a, b] => simp [nL_nil]; omega
  | [a, b, e] => simp [nL_nil]; omega
  | [a, b, e, g] => simp [nL_nil]; omega
  | a :: b :: e :: g :: h :: r => simp; omega
theorem nL_flat {f : DT → List DT} {l : List DT} (h : ∀ x, nL (f x) ≤ x.n) : nL (l.flatMap f) ≤ nL l := by
  induction l with
  | nil => exact Nat.le_refl _
  | cons y l ih =>
    rw [List.flatMap_cons, nL_append, nL_cons]
    have := h y
    omega
theorem keyE_n (d : DT) : (keyE d).n = d.n := by
  obtain ⟨c, k⟩ := d
  unfold keyE
  rw [DT.n_node, DT.n_node]
  rfl
theorem nL_key (l : List DT) : nL (l.map keyE) = nL l := by
  unfold nL
  rw [List.map_map]
  congr 1
  apply List.map_congr_left
  intro x _
  exact keyE_n x
theorem nL_aggE (d : DT) : nL (aggE d) + 1 ≤ d.n := by
  have := kids5 d
  unfold aggE
  rw [nL_append]
  omega
theorem nL_winE (d : DT) : nL (winE d) + 1 ≤ d.n := by
  have := kids5 d
  have := nL_flat (f := aggE) (l := d.kid 1) fun x => by have := nL_aggE x; omega
  unfold winE
  simp only [nL_append, nL_key]
  omega
theorem nL_relE (d : DT) : nL (d.kid 0) + nL (relE d) + 1 ≤ d.n := by
  have := kids5 d
  have := nL_flat (f := aggE) (l := d.kid 2) fun x => by have := nL_aggE x; omega
  have := nL_flat (f := winE) (l := d.kid 3) fun x => by have := nL_winE x; omega
  unfold relE
  simp only [nL_append, nL_key]
  omega
theorem len_flat_n {α : Type} {f : DT → List α} {l : List DT} (h : ∀ x, (f x).length ≤ x.n) : (l.flatMap f).length ≤ nL l := by
  induction l with
  | nil => exact Nat.le_refl _
  | cons y l ih =>
    rw [List.flatMap_cons, List.length_append, nL_cons]
    have := h y
    omega
theorem reads_len : ∀ f, (∀ d own, (readsR f d own).length ≤ d.n) ∧ ∀ e, (readsE f e).length ≤ e.n
  | 0 => ⟨fun d own => by simp [readsR], fun e => by simp [readsE]⟩
  | f + 1 => by
    obtain ⟨ihR, ihE⟩ := reads_len f
    refine ⟨fun d own => ?_, fun e => ?_⟩
    · have h1 := nL_relE d
      have h2 := len_flat_n (f := fun x => readsR f x (readOf d x)) (l := d.kid 0) fun x => ihR x _
      have h3 := len_flat_n (f := readsE f) (l := relE d) fun x => ihE x
      rw [readsR, List.length_append, List.length_append]
      have h4 : (if dInt d 0 = 1 then [own] else []).length ≤ 1 := by split <;> simp
      omega
    · have h1 := kids5 e
      have h2 := len_flat_n (f := readsE f) (l := e.kid 0) fun x => ihE x
      have h3 := len_flat_n (f := fun r => readsR f r (upTo (dLen r 4))) (l := e.kid 1) fun x => ihR x _
      rw [readsE, List.length_append]
      omega
/-! ## In memory -/
/-- Numbers can be read there. -/
def IRow (w : World) (A : Option Addr) (cap : Nat) (l : List Int) : Prop :=
  l.length ≤ cap ∧ cap ≤ maxLen ∧ ∀ (i : Nat) (k : Int), l[i]? = some k → ∃ (g : Nat) (cs : Array Value) (fr : Nat × Nat), A = some ⟨g, 0, none⟩ ∧ w.heap[g]? = some (.cells cs 3 fr) ∧ w.cell? ⟨g, i, none⟩ = some (.int .i64 k)
/-- A slice of numbers that the call owns. -/
def IOwn (B : Nat) (w : World) (A : Option Addr) (cap : Nat) (l : List Int) : Prop :=
  l.length ≤ cap ∧ cap ≤ maxLen ∧ (l = [] ∨ ∃ (g : Nat) (cur : Array Value), A = some ⟨g, 0, none⟩ ∧ B ≤ g ∧ w.heap[g]? = some (.cells cur 3 (0, 0)) ∧ l.length ≤ cur.size ∧ cur.toList.take l.length = l.map (Value.int .i64))
theorem IOwn.row {B : Nat} {w : World} {A : Option Addr} {cap : Nat} {l : List Int} (h : IOwn B w A cap l) : IRow w A cap l := by
  refine ⟨h.1, h.2.1, fun i k hi => ?_⟩
  rcases h.2.2 with rfl | ⟨g, cur, rfl, _, hg, hs, ht⟩
  · simp at hi
  · refine ⟨g, cur, (0, 0), rfl, hg, ?_⟩
    have hl := (List.getElem?_eq_some_iff.1 hi).1
    rw [cell_of_row _ _ _ _ _ _ hg, ← Array.getElem?_toList, ← List.getElem?_take_of_lt hl, ht, List.getElem?_map, hi]
    rfl
theorem IOwn.of_own {B : Nat} {w : World} {A : Option Addr} {n cap : Nat} {l : List Int} (h : w.ownsRow B 3 1 (.slice A n cap) n (l.map (Value.int .i64))) : IOwn B w A cap l := by
  have hl : l.length = n := by simpa using h.1
  subst hl
  rcases h.2 with ⟨e, h0⟩ | ⟨g, cap', cur, e, hb, hg, h1, h2, h3, h4⟩
  · have e2 : cap = 0 := by injection e
    exact ⟨by omega, by omega, .inl (List.length_eq_zero_iff.1 h0)⟩
  · cases e
    rw [Nat.mul_one] at h3 h4
    exact ⟨h1, h2, .inr ⟨g, cur, rfl, hb, hg, by omega, h4⟩⟩
theorem IOwn.clip {B : Nat} {w : World} {A : Option Addr} {cap : Nat} {l : List Int} (h : IOwn B w A cap l) : IOwn B w A l.length l := ⟨Nat.le_refl _, Nat.le_trans h.1 h.2.1, h.2.2⟩
/-- All blocks of numbers stay. -/
def KeepI (w w' : World) : Prop := ∀ (k : Nat) (cs : Array Value) (fr : Nat × Nat), w.heap[k]? = some (.cells cs 3 fr) → w'.heap[k]? = w.heap[k]?
theorem KeepI.refl (w : World) : KeepI w w := fun _ _ _ _ => rfl
theorem KeepI.trans {a b c : World} (h : KeepI a b) (h' : KeepI b c) : KeepI a c := fun k cs fr hk => (h' k cs fr ((h k cs fr hk).trans hk)).trans (h k cs fr hk)
theorem KeepI.below {w w' : World} (h : Below w.heap.size w w') : KeepI w w' := fun k _ _ hk => h.block k (Array.getElem?_eq_some_iff.1 hk).1
theorem KeepI.grown {w w' : World} {B e n : Nat} {v : Value} {xs : List Value} (hown : w.ownsRow B e 1 v n xs) (he : e ≠ 3) (hg : w.grownBy w' v.ownBlock) : KeepI w w' := fun k cs fr hk => by
  refine hg.block k (Array.getElem?_eq_some_iff.1 hk).1 fun e1 => ?_
  rcases hown.2 with ⟨rfl, _⟩ | ⟨g, cap, cur, rfl, _, hg2, _⟩
  · cases e1
  · cases e1
    rw [hg2] at hk
    cases hk
    exact he rfl
theorem IRow.keep {w w' : World} {A : Option Addr} {cap : Nat} {l : List Int} (h : IRow w A cap l) (hk : KeepI w w') : IRow w' A cap l := by
  refine ⟨h.1, h.2.1, fun i k hi => ?_⟩
  obtain ⟨g, cs, fr, e, hg, hc⟩ := h.2.2 i k hi
  have := hk g cs fr hg
  exact ⟨g, cs, fr, e, this.trans hg, (World.cell?_of_block (a := ⟨g, i, none⟩) this).trans hc⟩
/-- Slices of numbers, as values. -/
def RR (w : World) (xs : List Value) (L : List (List Int)) : Prop := xs.length = L.length ∧ ∀ (i : Nat) (l : List Int), L[i]? = some l → ∃ (A : Option Addr) (cap : Nat), xs[i]? = some (.slice A l.length cap) ∧ IRow w A cap l
theorem RR.nil (w : World) : RR w [] [] := ⟨rfl, fun i l h => by simp at h⟩
theorem RR.keep {w w' : World} {xs : List Value} {L : List (List Int)} (h : RR w xs L) (hk : KeepI w w') : RR w' xs L :=
  ⟨h.1, fun i l hi => by obtain ⟨A, cap, e, hr⟩ := h.2 i l hi; exact ⟨A, cap, e, hr.keep hk⟩⟩
theorem RR.one {w : World} {A : Option Addr} {cap : Nat} {l : List Int} (h : IRow w A cap l) : RR w [.slice A l.length cap] [l] := by
  refine ⟨rfl, fun i l' hi => ?_⟩
  cases i with
  | zero => simp at hi; subst hi; exact ⟨A, cap, rfl, h⟩
  | succ i => simp at hi
theorem RR.append {w : World} {xs ys : List Value} {L M : List (List Int)} (h : RR w xs L) (h' : RR w ys M) : RR w (xs ++ ys) (L ++ M) := by
  refine ⟨by rw [List.length_append, List.length_append, h.1, h'.1], fun i l hi => ?_⟩
  by_cases hlt : i < L.length
  · rw [List.getElem?_append_left hlt] at hi
    obtain ⟨A, cap, e, hr⟩ := h.2 i l hi
    exact ⟨A, cap, by rw [List.getElem?_append_left (by rw [h.1]; exact hlt)]; exact e, hr⟩
  · rw [List.getElem?_append_right (by omega)] at hi
    obtain ⟨A, cap, e, hr⟩ := h'.2 _ l hi
    exact ⟨A, cap, by rw [List.getElem?_append_right (by rw [h.1]; omega), h.1]; exact e, hr⟩
theorem RR.ones {w : World} {xs : List Value} {L : List (List Int)} (h : RR w xs L) : ∀ u, u ∈ xs → u.oneCell' = true := fun u hu => by
  obtain ⟨i, hi⟩ := List.getElem?_of_mem hu
  have hlt : i < L.length := by rw [← h.1]; exact (List.getElem?_eq_some_iff.1 hi).1
  obtain ⟨A, cap, e, _⟩ := h.2 i _ (List.getElem?_eq_getElem hlt)
  rw [hi] at e
  cases e
  rfl
/-- A row that the call owns, as a source. -/
theorem own_src {w : World} {B e n : Nat} {v : Value} {xs : List Value} (h : w.ownsRow B e 1 v n xs) : ∃ (A : Option Addr) (cap : Nat), v = .slice A n cap ∧ SrcAt w A xs ∧ n ≤ cap ∧ cap ≤ maxLen ∧ xs.length = n := by
  have hx : xs.length = n := by have := h.1; omega
  rcases h.2 with ⟨rfl, h0⟩ | ⟨g, cap, cur, rfl, hb, hg, h1, h2, h3, h4⟩
  · exact ⟨none, 0, by rw [h0], .inl (List.length_eq_zero_iff.1 (by omega)), by omega, Nat.zero_le _, hx⟩
  · exact ⟨some ⟨g, 0, none⟩, cap, rfl, .inr ⟨_, rfl, h.cells (g := g) rfl⟩, h1, h2, hx⟩
end Go.Proofs.Ytlphgceejghfkaa
