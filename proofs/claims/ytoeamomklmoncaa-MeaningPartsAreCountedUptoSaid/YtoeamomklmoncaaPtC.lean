/-
  Names sorted, each once: whether the doubles go before or behind the sort. No program in sight.
-/
import Derived.Lib.SlicesCompact
namespace Go.Proofs.Ytoeamomklmoncaa
open Go Go.Lib
abbrev B8 := List UInt8
def leB (x y : B8) : Bool := decide (x ≤ y)
theorem leB_trans (a b c : B8) (h : leB a b = true) (k : leB b c = true) : leB a c = true := by
  simp only [leB, decide_eq_true_eq] at *
  exact List.le_trans h k
theorem leB_total (a b : B8) : (leB a b || leB b a) = true := by
  simp only [leB, Bool.or_eq_true, decide_eq_true_eq]
  exact List.le_total a b
theorem leB_anti {a b : B8} (h : leB a b = true) (k : leB b a = true) : a = b := by
  simp only [leB, decide_eq_true_eq] at *
  exact List.le_antisymm h k
/-- Each once, in the order in which they come. -/
def ddS (acc : List B8) (l : List B8) : List B8 := l.foldl (fun acc x => if x ∈ acc then acc else acc ++ [x]) acc
theorem ddS_mem (l : List B8) : ∀ acc x, x ∈ ddS acc l ↔ x ∈ acc ∨ x ∈ l := by
  induction l with
  | nil => intro acc x; simp [ddS]
  | cons y l ih =>
    intro acc x
    show x ∈ ddS (if y ∈ acc then acc else acc ++ [y]) l ↔ _
    rw [ih]
    by_cases h : y ∈ acc
    · rw [if_pos h, List.mem_cons]
      constructor
      · rintro (h1 | h1)
        · exact .inl h1
        · exact .inr (.inr h1)
      · rintro (h1 | rfl | h1)
        · exact .inl h1
        · exact .inl h
        · exact .inr h1
    · rw [if_neg h, List.mem_cons, List.mem_append, List.mem_singleton, or_assoc]
theorem ddS_nodup (l : List B8) : ∀ acc, acc.Nodup → (ddS acc l).Nodup := by
  induction l with
  | nil => intro acc h; exact h
  | cons y l ih =>
    intro acc h
    show (ddS (if y ∈ acc then acc else acc ++ [y]) l).Nodup
    refine ih _ ?_
    by_cases hy : y ∈ acc
    · rw [if_pos hy]; exact h
    · rw [if_neg hy]
      rw [List.nodup_append]
      refine ⟨h, by simp, fun a ha b hb => ?_⟩
      rw [List.mem_singleton] at hb
      subst hb
      intro e
      exact hy (e ▸ ha)
theorem cut_succ (d : Array B8) (m : Nat) : compactUpTo d (m + 1) = compactUpTo d m ++ if keeps d m then [d[m]!] else [] := by
  unfold compactUpTo
  rw [List.range_succ, List.filter_append, List.map_append]
  congr 1
  by_cases h : keeps d m = true <;> simp [h]
theorem cut_facts (d : Array B8) (hs : ∀ i j, i < j → j < d.size → leB d[i]! d[j]! = true) : ∀ m, m ≤ d.size →
    (compactUpTo d m).Pairwise (fun a b => leB a b = true ∧ a ≠ b) ∧ (∀ x, x ∈ compactUpTo d m ↔ ∃ i, i < m ∧ d[i]! = x) := by
  intro m
  induction m with
  | zero => intro _; simp [compactUpTo]
  | succ m ih =>
    intro hm
    obtain ⟨h1, h2⟩ := ih (by omega)
    rw [cut_succ]
    by_cases hk : keeps d m = true
    · rw [if_pos hk]
      have hnew : ∀ i, i < m → d[i]! ≠ d[m]! := by
        intro i hi e
        have hk2 : d[m]! ≠ d[m - 1]! := by
          simp [keeps] at hk
          rcases hk with hk | hk
          · omega
          · simpa [bne_iff_ne] using hk
        by_cases him : i = m - 1
        · exact hk2 (by rw [← e, him])
        · have a1 := hs i (m - 1) (by omega) (by omega)
          have a2 := hs (m - 1) m (by omega) (by omega)
          rw [e] at a1
          exact hk2 (leB_anti a1 a2)
      refine ⟨?_, fun x => ?_⟩
      · rw [List.pairwise_append]
        refine ⟨h1, by simp, fun a ha b hb => ?_⟩
        rw [List.mem_singleton] at hb
        subst hb
        obtain ⟨i, hi, rfl⟩ := (h2 a).1 ha
        exact ⟨hs i m hi (by omega), hnew i hi⟩
      · rw [List.mem_append, h2, List.mem_singleton]
        constructor
        · rintro (⟨i, hi, e⟩ | rfl)
          · exact ⟨i, by omega, e⟩
          · exact ⟨m, by omega, rfl⟩
        · rintro ⟨i, hi, e⟩
          by_cases him : i = m
          · exact .inr (by rw [← e, him])
          · exact .inl ⟨i, by omega, e⟩
    · rw [if_neg hk, List.append_nil]
      refine ⟨h1, fun x => ?_⟩
      rw [h2]
      constructor
      · rintro ⟨i, hi, e⟩
        exact ⟨i, by omega, e⟩
      · rintro ⟨i, hi, e⟩
        by_cases him : i = m
        · subst him
          simp [keeps] at hk
          obtain ⟨hk1, hk2⟩ := hk
          exact ⟨i - 1, by omega, by rw [← e, ← hk2]⟩
        · exact ⟨i, by omega, e⟩
/-- Sorted and each once: whether the doubles go before or behind the sort. -/
theorem sort_dd (l : List B8) : Lib.compact (l.mergeSort leB) = (ddS [] l).mergeSort leB := by
  have hp := List.mergeSort_perm l leB
  have hsorted := List.pairwise_mergeSort (le := leB) leB_trans leB_total l
  obtain ⟨s, hs⟩ : ∃ s, l.mergeSort leB = s := ⟨_, rfl⟩
  rw [hs] at hp hsorted ⊢
  have hs2 : ∀ i j, i < j → j < s.toArray.size → leB s.toArray[i]! s.toArray[j]! = true := by
    intro i j hij hj
    have hj' : j < s.length := by simpa using hj
    have := List.pairwise_iff_getElem.1 hsorted i j (by omega) hj' hij
    simpa [getElem!_pos, show i < s.length by omega, hj'] using this
  obtain ⟨f1, f2⟩ := cut_facts s.toArray hs2 s.length (by simp)
  have g1 := List.mergeSort_perm (ddS [] l) leB
  have g2 := List.pairwise_mergeSort (le := leB) leB_trans leB_total (ddS [] l)
  have hn1 : (Lib.compact s).Nodup := f1.imp (fun h => h.2)
  have hn2 : ((ddS [] l).mergeSort leB).Nodup := g1.nodup_iff.2 (ddS_nodup l [] (by simp))
  have hperm : (Lib.compact s).Perm ((ddS [] l).mergeSort leB) := by
    rw [List.perm_ext_iff_of_nodup hn1 hn2]
    intro x
    rw [g1.mem_iff, ddS_mem]
    show x ∈ compactUpTo s.toArray s.length ↔ _
    rw [f2, ← hp.mem_iff]
    simp only [List.not_mem_nil, false_or]
    constructor
    · rintro ⟨i, hi, e⟩
      rw [← e]
      have : s.toArray[i]! = s[i] := by simp [getElem!_pos, hi]
      rw [this]
      exact List.getElem_mem hi
    · intro hx
      obtain ⟨i, hi, e⟩ := List.getElem_of_mem hx
      exact ⟨i, hi, by rw [← e]; simp [getElem!_pos, hi]⟩
  exact hperm.eq_of_pairwise (le := fun a b => leB a b = true) (fun a b _ _ h k => leB_anti h k) (f1.imp (fun h => h.1)) g2
end Go.Proofs.Ytoeamomklmoncaa
