/-
  What is checked is small. No program stands here.
  The values of a vector that is right: the plain part.
-/
import Derived.Test.YtkadahfknccjfaaGreatDoorQCopyD
import Derived.Test.YtkadahfknccjfaaGreatDoorQVecL
namespace Go.Proofs.YtkadahfknccjfaaGreatDoor
open Go.RowKit
theorem ckTs_cnt {l : List FT} {lv : Int} (ih : ∀ x, x ∈ l → ∀ c, (ckT lv c x).1 = 0 → c ≤ 40 → c < (ckT lv c x).2 ∧ (ckT lv c x).2 ≤ 40) : ∀ c, (ckTs lv c l).1 = 0 → c ≤ 40 → c + l.length ≤ (ckTs lv c l).2 ∧ (ckTs lv c l).2 ≤ 40 := by
  induction l with
  | nil => intro c _ hc; rw [ckTs]; simp; exact hc
  | cons x l ihl =>
    intro c h hc
    rw [ckTs] at h ⊢
    by_cases hx : (ckT lv c x).1 ≠ 0
    · rw [if_pos hx] at h; exact absurd h hx
    · rw [if_neg hx] at h ⊢
      obtain ⟨h1, h2⟩ := ih x (by simp) c (Classical.not_not.1 hx) hc
      obtain ⟨h3, h4⟩ := ihl (fun y hy => ih y (by simp [hy])) _ h h2
      exact ⟨by simp; omega, h4⟩
theorem shape_len {k sc : Int} {l : List FT} (h : shapeS k sc l = 0) : (leafB k = true → l = []) ∧ (leafB k = false → 0 < l.length) := by
  obtain ⟨h1, h7, h6, _⟩ := shapeS_ok h
  unfold shapeS at h
  by_cases a1 : withinB k 1 7 = false
  · rw [if_pos a1] at h; omega
  rw [if_neg a1] at h
  by_cases a2 : scaleB k sc = false
  · rw [if_pos a2] at h; omega
  rw [if_neg a2] at h
  by_cases k6 : k = 6
  · have hl := h6 k6
    exact ⟨fun hl' => by simp [leafB, k6] at hl', fun _ => by omega⟩
  rw [if_neg k6] at h
  by_cases k7 : k = 7
  · rw [if_neg (by simp [k7])] at h
    by_cases hl : l.length = 0
    · rw [if_pos hl] at h; omega
    · exact ⟨fun hl' => by simp [leafB, k7] at hl', fun _ => by omega⟩
  · rw [if_pos k7] at h
    by_cases hl : l.length = 0
    · exact ⟨fun _ => List.eq_nil_of_length_eq_zero hl, fun h' => by simp [leafB, k6, k7] at h'⟩
    · rw [if_neg hl] at h; omega
theorem ckT_cnt : ∀ (t : FT) (lv c : Int), (ckT lv c t).1 = 0 → c ≤ 40 → c < (ckT lv c t).2 ∧ (ckT lv c t).2 ≤ 40 := by
  refine FT.ind fun a l ih lv c h hc => ?_
  rw [ckT] at h ⊢
  by_cases h4 : lv > 4
  · rw [if_pos h4] at h; simp at h
  rw [if_neg h4] at h ⊢
  by_cases h40 : leafB a.k = true ∧ c = 40
  · rw [if_pos h40] at h; simp at h
  rw [if_neg h40] at h ⊢
  by_cases hsh : shapeS a.k a.sc l ≠ 0
  · rw [if_pos hsh] at h; exact absurd h hsh
  rw [if_neg hsh] at h ⊢
  obtain ⟨s1, s2⟩ := shape_len (Classical.not_not.1 hsh)
  cases hl : leafB a.k
  · rw [hl] at h
    rw [if_neg (by simp)] at h ⊢
    obtain ⟨h1, h2⟩ := ckTs_cnt (fun x hx c => ih x hx (lv + 1) c) c h hc
    have := s2 hl
    exact ⟨by omega, h2⟩
  · rw [hl] at h h40
    rw [if_pos rfl] at h ⊢
    have hc' : c + 1 ≤ 40 := by
      by_cases e : c = 40
      · exact absurd ⟨rfl, e⟩ h40
      · omega
    obtain ⟨h1, h2⟩ := ckTs_cnt (fun x hx c => ih x hx (lv + 1) c) (c + 1) h hc'
    exact ⟨by omega, h2⟩
/-- Types that are right are small: the number of their fields. -/
theorem ckT_len {a : FP} {l : List FT} {lv c : Int} (h : (ckT lv c (.node a l)).1 = 0) (h0 : 0 ≤ c) (hc : c ≤ 40) : l.length ≤ 40 ∧ ∀ x, x ∈ l → ∃ c', 0 ≤ c' ∧ c' ≤ 40 ∧ (ckT (lv + 1) c' x).1 = 0 := by
  rw [ckT] at h
  by_cases h4 : lv > 4
  · rw [if_pos h4] at h; simp at h
  rw [if_neg h4] at h
  by_cases h40 : leafB a.k = true ∧ c = 40
  · rw [if_pos h40] at h; simp at h
  rw [if_neg h40] at h
  by_cases hsh : shapeS a.k a.sc l ≠ 0
  · rw [if_pos hsh] at h; exact absurd h hsh
  rw [if_neg hsh] at h
  have hc2 : (if leafB a.k = true then c + 1 else c) ≤ 40 ∧ 0 ≤ (if leafB a.k = true then c + 1 else c) := by
    by_cases hl : leafB a.k = true
    · rw [if_pos hl]
      by_cases e : c = 40
      · exact absurd ⟨hl, e⟩ h40
      · omega
    · rw [if_neg hl]; omega
  obtain ⟨h1, h2⟩ := ckTs_cnt (fun x _ c => ckT_cnt x (lv + 1) c) _ h hc2.1
  refine ⟨by omega, ?_⟩
  generalize (if leafB a.k = true then c + 1 else c) = c2 at h hc2
  clear h1 h2 hsh
  induction l generalizing c2 with
  | nil => intro x hx; cases hx
  | cons y l ihl =>
    intro x hx
    rw [ckTs] at h
    by_cases hy : (ckT (lv + 1) c2 y).1 ≠ 0
    · rw [if_pos hy] at h; exact absurd h hy
    · rw [if_neg hy] at h
      have hy0 := Classical.not_not.1 hy
      rcases List.mem_cons.1 hx with rfl | hx
      · exact ⟨c2, hc2.2, hc2.1, hy0⟩
      · obtain ⟨g1, g2⟩ := ckT_cnt y (lv + 1) c2 hy0 hc2.1
        exact ihl _ h ⟨g2, by omega⟩ x hx
theorem ckT_sml : ∀ (t : FT) (lv c : Int), (ckT lv c t).1 = 0 → 0 ≤ c → c ≤ 40 → FT.Sml t := by
  refine FT.ind fun a l ih lv c h h0 hc => ?_
  obtain ⟨h1, h2⟩ := ckT_len h h0 hc
  refine .mk a l (by omega) fun x hx => ?_
  obtain ⟨c', g0, g1, g2⟩ := h2 x hx
  exact ih x hx (lv + 1) c' g2 g0 g1
theorem alone_len {k n sc : Int} {s : ByteArray} {len : Nat} (h : aloneS k n sc s len = true) : k = 6 → len ≤ 64 := by
  intro hk
  subst hk
  unfold aloneS at h
  simp at h
  exact h.2
theorem sdVs_mem {l : List VT} {lv : Int} : ∀ c, (sdVs lv c l).1 = true → ∀ x, x ∈ l → ∃ c', (sdV lv c' x).1 = true := by
  induction l with
  | nil => intro c _ x hx; cases hx
  | cons y l ihl =>
    intro c h x hx
    rw [sdVs] at h
    by_cases hy : (sdV lv c y).1 = true
    · rw [if_pos hy] at h
      rcases List.mem_cons.1 hx with rfl | hx
      · exact ⟨c, hy⟩
      · exact ihl _ h x hx
    · rw [if_neg hy] at h; exact absurd h hy
theorem val_sml : ∀ (x : VT) (t : FT) (lv c lv' c' : Int), (ckT lv c t).1 = 0 → 0 ≤ c → c ≤ 40 → (sdV lv' c' x).1 = true → ofT t x = true → VT.Sml x := by
  refine VT.ind fun a l ih t lv c lv' c' ht h0 hc hs ho => ?_
  obtain ⟨f, fl⟩ := t
  obtain ⟨hfl, hfm⟩ := ckT_len ht h0 hc
  have hvo := (sdV_ok _ _ _ hs).inv
  rw [sdV] at hs
  by_cases hn : lv' > 4 ∨ (if a.k = 0 then c' else c' + 1) > 256 ∨ aloneS a.k a.n a.sc a.s l.length = false
  · rw [if_pos hn] at hs; cases hs
  rw [if_neg hn] at hs
  have hal : aloneS a.k a.n a.sc a.s l.length = true := by
    cases e : aloneS a.k a.n a.sc a.s l.length
    · exact absurd (.inr (.inr e)) hn
    · rfl
  by_cases hnil : l = []
  · subst hnil
    exact .mk a [] (by simp) fun x hx => by cases hx
  have hk67 : a.k = 6 ∨ a.k = 7 := by
    by_cases h6 : a.k = 6
    · exact .inl h6
    · by_cases h7 : a.k = 7
      · exact .inr h7
      · exact absurd (hvo.1 h6 h7) hnil
  rw [ofT] at ho
  rw [if_neg (by omega)] at ho
  by_cases e1 : a.k ≠ f.k
  · rw [if_pos e1] at ho; cases ho
  rw [if_neg e1] at ho
  by_cases e2 : a.sc ≠ f.sc
  · rw [if_pos e2] at ho; cases ho
  rw [if_neg e2] at ho
  by_cases e3 : f.k = 7 ∧ l.length ≠ fl.length
  · rw [if_pos e3] at ho; cases ho
  rw [if_neg e3] at ho
  have hk := Classical.not_not.1 e1
  refine .mk a l ?_ fun x hx => ?_
  · rcases hk67 with h6 | h7
    · have := alone_len hal h6; omega
    · have : l.length = fl.length := Classical.not_not.1 (fun h => e3 ⟨by omega, h⟩)
      omega
  · obtain ⟨i, hi⟩ := List.getElem?_of_mem hx
    obtain ⟨t', ht', ho'⟩ := ofI_items l 0 ho i x hi
    have hmem : t' ∈ fl := by
      unfold fldAt at ht'
      split at ht'
      · exact mem_of_get? ht'
      · exact mem_of_get? ht'
    obtain ⟨c2, g0, g1, g2⟩ := hfm t' hmem
    obtain ⟨c3, g3⟩ := sdVs_mem _ hs x hx
    exact ih x hx t' (lv + 1) c2 (lv' + 1) c3 g2 g0 g1 g3 ho'
/-- A value that is right for a type is small. -/
theorem check_sml {t : FT} {x : VT} (h : checkS t x = 0) : VT.Sml x := by
  unfold checkS at h
  by_cases h1 : ctS t ≠ 0
  · rw [if_pos h1] at h; exact absurd h h1
  rw [if_neg h1] at h
  by_cases h2 : (sdV 1 0 x).1 = false
  · rw [if_pos h2] at h; omega
  rw [if_neg h2] at h
  by_cases h3 : ofT t x = false
  · rw [if_pos h3] at h; omega
  exact val_sml x t 1 0 1 0 (Classical.not_not.1 h1) (by omega) (by omega) (by simpa using h2) (by simpa using h3)
theorem plain_sml {t : FT} (h : plainS t = 0) : FT.Sml t := by
  unfold plainS at h
  by_cases h1 : ctS t ≠ 0
  · rw [if_pos h1] at h; exact absurd h h1
  exact ckT_sml t 1 0 (Classical.not_not.1 h1) (by omega) (by omega)
end Go.Proofs.YtkadahfknccjfaaGreatDoor
namespace Go.Proofs.YtkadahfknccjfaaGreatDoor
open Go.RowKit
/-- The values of a vector that is right. -/
def valsL (v : VecT) (n : Int) : List VT := if vecS v n = 0 then (List.range n.toNat).map (atV v) else []
theorem ckFrom_ok {v : VecT} {size : Nat} : ∀ f, f ≤ size → ckFrom v size f = 0 → ∀ i, size - f ≤ i → i < size → checkS v.t (atV v i) = 0
  | 0, _, _, i, h1, h2 => absurd h1 (by omega)
  | f + 1, hf, h, i, h1, h2 => by
    rw [ckFrom] at h
    by_cases hc : checkS v.t (atV v (size - (f + 1))) ≠ 0
    · rw [if_pos hc] at h; exact absurd h hc
    · rw [if_neg hc] at h
      by_cases e : i = size - (f + 1)
      · rw [e]; exact Classical.not_not.1 hc
      · exact ckFrom_ok f (by omega) h i (by omega) h2
theorem vecS_ok {v : VecT} {n : Int} (h : vecS v n = 0) : plainS v.t = 0 ∧ ∃ size : Nat, n = (size : Int) ∧ size ≤ 1024 ∧ formS v size = true ∧ ∀ i, i < size → checkS v.t (atV v i) = 0 := by
  unfold vecS at h
  by_cases h1 : plainS v.t ≠ 0
  · rw [if_pos h1] at h; exact absurd h h1
  rw [if_neg h1] at h
  by_cases h2 : n < 0 ∨ 1024 < n
  · rw [if_pos h2] at h; omega
  rw [if_neg h2] at h
  by_cases h3 : formS v n.toNat = false
  · rw [if_pos h3] at h; omega
  rw [if_neg h3] at h
  exact ⟨Classical.not_not.1 h1, n.toNat, by omega, by omega, by simpa using h3, fun i hi => ckFrom_ok n.toNat (Nat.le_refl _) h i (by omega) hi⟩
end Go.Proofs.YtkadahfknccjfaaGreatDoor
