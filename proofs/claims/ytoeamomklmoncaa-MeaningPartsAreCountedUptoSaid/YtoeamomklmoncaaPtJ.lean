/-
  Slices of strings sorted, each once; asked for one.
-/
import Derived.Test.YtoeamomklmoncaaPtB
namespace Go.Proofs.Ytoeamomklmoncaa
open Go.RowKit Go.Sort
/-- A slice of strings that the call owns. -/
def SOwn (B : Nat) (w : World) (A : Option Addr) (cap : Nat) (l : List (List UInt8)) : Prop :=
  l.length ≤ cap ∧ cap ≤ maxLen ∧ (l = [] ∨ ∃ (g : Nat) (cur : Array Value), A = some ⟨g, 0, none⟩ ∧ B ≤ g ∧ w.heap[g]? = some (.cells cur 9 (0, 0)) ∧ l.length ≤ cur.size ∧ cur.toList.take l.length = l.map encStr)
theorem SOwn.of_own {B : Nat} {w : World} {A : Option Addr} {n cap : Nat} {l : List (List UInt8)} (h : w.ownsRow B 9 1 (.slice A n cap) n (l.map encStr)) : SOwn B w A cap l := by
  have hl : l.length = n := by simpa using h.1
  subst hl
  rcases h.2 with ⟨e, h0⟩ | ⟨g, cap', cur, e, hb, hg, h1, h2, h3, h4⟩
  · have e2 : cap = 0 := by injection e
    exact ⟨by omega, by omega, .inl (List.length_eq_zero_iff.1 h0)⟩
  · cases e
    rw [Nat.mul_one] at h3 h4
    exact ⟨h1, h2, .inr ⟨g, cur, rfl, hb, hg, by omega, h4⟩⟩
theorem SOwn.clip {B : Nat} {w : World} {A : Option Addr} {cap : Nat} {l : List (List UInt8)} (h : SOwn B w A cap l) : SOwn B w A l.length l := ⟨Nat.le_refl _, Nat.le_trans h.1 h.2.1, h.2.2⟩
theorem SOwn.below {B : Nat} {w w' : World} {A : Option Addr} {cap : Nat} {l : List (List UInt8)} (h : SOwn B w A cap l) (hb : Below w.heap.size w w') : SOwn B w' A cap l := by
  refine ⟨h.1, h.2.1, ?_⟩
  rcases h.2.2 with h | ⟨g, cur, e, hB, hg, h1, h2⟩
  · exact .inl h
  · exact .inr ⟨g, cur, e, hB, (hb.block g (Array.getElem?_eq_some_iff.1 hg).1).trans hg, h1, h2⟩
theorem SOwn.sorted {B : Nat} {w : World} {g cap n : Nat} {os : Array Obj} {l ts : List (List UInt8)} (h : SOwn B w (some ⟨g, 0, none⟩) cap l) (hne : l ≠ []) (hl : ts.length = l.length) :
    SOwn B (grow (putRow encStr (Sort.ahead w n) g 0 ts.toArray) os) (some ⟨g, 0, none⟩) cap ts ∧ w.grownBy (grow (putRow encStr (Sort.ahead w n) g 0 ts.toArray) os) (some g) := by
  refine ⟨⟨by rw [hl]; exact h.1, h.2.1, .inr ?_⟩, grownBy_sorted _⟩
  rcases h.2.2 with rfl | ⟨g', cur, e, hb, hg, hs, ht⟩
  · exact absurd rfl hne
  · cases e
    refine ⟨g, _, rfl, hb, heap_sorted _ hg, by simp [putCells]; omega, ?_⟩
    exact take_putCells cur ts (by omega)
theorem SOwn.holds {B : Nat} {w : World} {g cap : Nat} {l : List (List UInt8)} (h : SOwn B w (some ⟨g, 0, none⟩) cap l) (hne : l ≠ []) : Holds encStr w g 0 l.toArray ∧ g < w.heap.size ∧ B ≤ g := by
  rcases h.2.2 with rfl | ⟨g', cur, e, hb, hg, hs, ht⟩
  · exact absurd rfl hne
  · cases e
    exact ⟨holds_of_block hg ht, (Array.getElem?_eq_some_iff.1 hg).1, hb⟩
theorem SOwn.prefix {B : Nat} {w : World} {A : Option Addr} {cap : Nat} {l m : List (List UInt8)} (h : SOwn B w A cap (l ++ m)) : SOwn B w A cap l := by
  refine ⟨by have := h.1; rw [List.length_append] at this; omega, h.2.1, ?_⟩
  rcases h.2.2 with e | ⟨g, cur, e, hb, hg, hs, ht⟩
  · exact .inl (List.append_eq_nil_iff.1 e).1
  · refine .inr ⟨g, cur, e, hb, hg, by rw [List.length_append] at hs; omega, ?_⟩
    have := congrArg (List.take l.length) ht
    rw [List.take_take, List.map_append, List.length_append, Nat.min_eq_left (by omega)] at this
    rw [this, List.take_left' (by simp)]
/-- Its cells. -/
theorem SOwn.cells {B : Nat} {w : World} {g cap : Nat} {l : List (List UInt8)} (h : SOwn B w (some ⟨g, 0, none⟩) cap l) : ∀ j, j < (l.map fun s => (⟨s.toArray⟩ : ByteArray)).length → w.cell? ⟨g, 0 + j, none⟩ = some (.string ((l.map fun s => (⟨s.toArray⟩ : ByteArray)).getD j ByteArray.empty)) := fun j hj => by
  rw [List.length_map] at hj
  rcases h.2.2 with rfl | ⟨g', cur, e, hb, hg, hs, ht⟩
  · simp at hj
  · cases e
    rw [cell_of_row _ _ _ _ _ _ hg, Nat.zero_add, ← Array.getElem?_toList, ← List.getElem?_take_of_lt hj, ht, List.getElem?_map, List.getElem?_eq_getElem hj]
    simp [List.getD, List.getElem?_eq_getElem hj, encStr]
theorem compactS_le (l : List (List UInt8)) : (Lib.compact l).length ≤ l.length := by
  unfold Lib.compact Lib.compactUpTo
  rw [List.length_map]
  refine Nat.le_trans (List.length_filter_le _ _) ?_
  simp
theorem below_row {B g : Nat} {w w' : World} (hg : w.grownBy w' (some g)) (hb : B ≤ g) (hl : g < w.heap.size) : Below B w w' :=
  (Below.refl B w).grown hg (by omega) (fun k hk => by cases hk; exact hb)
def sortS (l : List (List UInt8)) : List (List UInt8) := l.mergeSort leB
theorem sortS_len (l : List (List UInt8)) : (sortS l).length = l.length := List.length_mergeSort l
theorem SOwn.base {B : Nat} {w : World} {A : Option Addr} {cap : Nat} {l : List (List UInt8)} (h : SOwn B w A cap l) (hne : l ≠ []) : ∃ g, A = some ⟨g, 0, none⟩ := by
  rcases h.2.2 with e | ⟨g, cur, e, _⟩
  · exact absurd e hne
  · exact ⟨g, e⟩
theorem sortS_any (l : List (List UInt8)) (A : Option Addr) (cap B : Nat) (w : World) (h : SOwn B w A cap l) (hn : l.length ≤ 1048576) :
    Calls Try.prog 12 #[.slice A l.length cap] w fun e w' => e = .returned (.tuple #[]) ∧ SOwn B w' A cap (sortS l) ∧ Below B w w' := by
  by_cases hne : l = []
  · subst hne
    refine (Try.slices_Sort_string_none A cap w).mono ?_
    rintro e w' ⟨rfl, rfl⟩
    exact ⟨rfl, by simpa [sortS] using h, Below.refl _ _⟩
  · obtain ⟨g, rfl⟩ := h.base hne
    obtain ⟨hH, hg, hb⟩ := h.holds hne
    refine (Try.slices_Sort_string g 0 cap l w hH hg (by omega)).mono ?_
    rintro e w' ⟨rfl, n, os, rfl⟩
    obtain ⟨h1, h2⟩ := h.sorted (n := n) (os := os) (ts := sortS l) hne (sortS_len l)
    exact ⟨rfl, h1, below_row h2 hb hg⟩
theorem compactS_any (l : List (List UInt8)) (A : Option Addr) (cap B : Nat) (w : World) (h : SOwn B w A cap l) (hn : l.length ≤ 1048576) :
    Calls Try.prog 14 #[.slice A l.length cap] w fun e w' => e = .returned (.slice A (Lib.compact l).length cap) ∧ SOwn B w' A cap (Lib.compact l) ∧ Below B w w' := by
  by_cases hne : l = []
  · subst hne
    refine (Try.slices_Compact_string_empty A cap w).mono ?_
    rintro e w' ⟨rfl, rfl⟩
    exact ⟨rfl, h, Below.refl _ _⟩
  · obtain ⟨g, rfl⟩ := h.base hne
    obtain ⟨hH, hg, hb⟩ := h.holds hne
    refine (Try.slices_Compact_string g 0 cap l w hH (by omega) h.1).mono ?_
    rintro e w' ⟨rfl, q, rfl⟩
    have hle := compactS_le l
    obtain ⟨h1, h2⟩ := h.sorted (n := q) (os := #[]) (ts := Lib.compact l ++ List.replicate (l.length - (Lib.compact l).length) []) hne (by rw [List.length_append, List.length_replicate]; omega)
    rw [grow_empty] at h1 h2
    exact ⟨rfl, h1.prefix, below_row h2 hb hg⟩
set_option maxRecDepth 100000 in
set_option maxHeartbeats 1000000 in
theorem clipS_any (A : Option Addr) (n cap : Nat) (w : World) (h : n ≤ cap) (hc : cap ≤ 9223372036854775807) : Calls Try.prog 13 #[.slice A n cap] w fun e w' => e = .returned (.slice A n n) ∧ w' = w := by
  go_enter Try.func13, Try.ntmps13
  go_wp2
  go_ret
  exact ⟨rfl, rfl⟩
theorem bytes_eq {a b : ByteArray} (h : a.data.toList = b.data.toList) : a = b := by
  cases a
  cases b
  simp only at h
  congr
  exact Array.ext' h
/-- slices.Contains at a slice of the call's own. -/
theorem containsS_any (l : List (List UInt8)) (A : Option Addr) (cap B : Nat) (x : ByteArray) (w : World) (h : SOwn B w A cap l) (hn : l.length ≤ 1048576) :
    Calls Try.prog 16 #[.slice A l.length cap, .string x] w fun e w' => e = .returned (.bool (decide (x.data.toList ∈ l))) ∧ w' = w := by
  by_cases hne : l = []
  · subst hne
    refine (Try.slices_Contains_string_empty A cap x w).mono ?_
    rintro e w' ⟨rfl, rfl⟩
    exact ⟨by simp, rfl⟩
  · obtain ⟨g, rfl⟩ := h.base hne
    refine (Try.slices_Contains_string g 0 l.length cap (l.map fun s => (⟨s.toArray⟩ : ByteArray)) x w (by simp) (by omega) h.cells).mono ?_
    rintro e w' ⟨rfl, rfl⟩
    refine ⟨?_, rfl⟩
    congr 2
    rw [List.take_of_length_le (by simp), Bool.eq_iff_iff, Lib.containsS_iff, decide_eq_true_iff, List.mem_map]
    constructor
    · rintro ⟨s, hs, rfl⟩
      exact hs
    · intro hx
      exact ⟨_, hx, bytes_eq rfl⟩
/-- slices.Equal of the same strings. -/
theorem equalS_any (l : List (List UInt8)) (A1 A2 : Option Addr) (n1 n2 B1 B2 : Nat) (w : World) (h1 : SOwn B1 w A1 n1 l) (h2 : SOwn B2 w A2 n2 l) (hn : l.length ≤ 1048576) :
    Calls Try.prog 6 #[.slice A1 l.length n1, .slice A2 l.length n2] w fun e w' => e = .returned (.bool true) ∧ Below w.heap.size w w' := by
  by_cases hne : l = []
  · subst hne
    refine (Try.slices_Equal_string_empty A1 A2 n1 0 n2 w (by omega)).mono ?_
    rintro e w' ⟨rfl, rfl⟩
    exact ⟨by simp, Below.refl _ _⟩
  · obtain ⟨g1, rfl⟩ := h1.base hne
    obtain ⟨g2, rfl⟩ := h2.base hne
    refine (Try.slices_Equal_string g1 0 l.length n1 g2 0 l.length n2 _ _ w (by simp) (by simp) (by omega) (by omega) h1.cells h2.cells).mono ?_
    rintro e w' ⟨rfl, q, rfl⟩
    exact ⟨by simp, below_drewN (Below.refl w.heap.size w) q⟩
theorem ddS_len (l : List (List UInt8)) : ∀ acc, (ddS acc l).length ≤ acc.length + l.length := by
  induction l with
  | nil => intro acc; exact Nat.le_refl _
  | cons y l ih =>
    intro acc
    show (ddS (if y ∈ acc then acc else acc ++ [y]) l).length ≤ _
    have := ih (if y ∈ acc then acc else acc ++ [y])
    have h2 : (if y ∈ acc then acc else acc ++ [y]).length ≤ acc.length + 1 := by split <;> simp
    rw [List.length_cons]
    omega
theorem ddS_snoc (acc l : List (List UInt8)) (y : List UInt8) : ddS acc (l ++ [y]) = if y ∈ ddS acc l then ddS acc l else ddS acc l ++ [y] := by
  unfold ddS
  rw [List.foldl_append]
  rfl
theorem nmS_take (l : List DT) (j : Nat) {x : DT} (hx : l[j]? = some x) : nmS (l.take (j + 1)) = nmS (l.take j) ++ [(dName x).data.toList] := by
  unfold nmS
  rw [List.take_add_one, hx]
  simp
/-- What comes back. -/
def SPost (l : List (List UInt8)) (w : World) (e : Ending) (w' : World) : Prop := ∃ (A : Option Addr) (cap : Nat), e = .returned (.slice A l.length cap) ∧ SOwn w.heap.size w' A cap l ∧ Below w.heap.size w w'
end Go.Proofs.Ytoeamomklmoncaa
