/-
  How often rows occur in two lists in order. No program stands here.
-/
import Derived.Test.YtcdaipkkddgbeaaQSpB
namespace Go.Proofs.Ytcdaipkkddgbeaa
open Go.RowKit
/-- How many rows at the head are the same as one. -/
def cutN (r : VT) : List VT → Nat
  | [] => 0
  | x :: l => if cmpR x r = 0 then cutN r l + 1 else 0
/-- What stands behind them. -/
def cutR (r : VT) : List VT → List VT
  | [] => []
  | x :: l => if cmpR x r = 0 then cutR r l else x :: l
structure TT where
  row : VT
  a : Nat
  b : Nat
def TT.c (t : TT) : List Value := [rwV t.row, .int .i64 t.a, .int .i64 t.b]
def pickR : List VT → List VT → Option VT
  | [], [] => none
  | x :: _, [] => some x
  | [], y :: _ => some y
  | x :: _, y :: _ => some (if cmpR x y ≤ 0 then x else y)
def talF : Nat → List VT → List VT → List TT
  | 0, _, _ => []
  | f + 1, a, b => match pickR a b with
    | none => []
    | some r => ⟨r, cutN r a, cutN r b⟩ :: talF f (cutR r a) (cutR r b)
theorem cut_len (r : VT) : ∀ l, cutN r l + (cutR r l).length = l.length
  | [] => rfl
  | x :: l => by
    unfold cutN cutR
    have := cut_len r l
    split
    · simp only [List.length_cons]; omega
    · simp
theorem cmpR_self (x : VT) : cmpR x x = 0 := by
  have := cmpR_neg x x
  omega
theorem pick_none {a b : List VT} (h : pickR a b = none) : a = [] ∧ b = [] := by
  cases a <;> cases b <;> simp [pickR] at h ⊢
theorem pick_cut {a b : List VT} {r : VT} (h : pickR a b = some r) : 1 ≤ cutN r a + cutN r b := by
  cases a with
  | nil =>
    cases b with
    | nil => simp [pickR] at h
    | cons y b =>
      simp only [pickR, Option.some.injEq] at h
      subst h
      simp only [cutN, cmpR_self, if_pos]
      omega
  | cons x a =>
    cases b with
    | nil =>
      simp only [pickR, Option.some.injEq] at h
      subst h
      simp only [cutN, cmpR_self, if_pos]
      omega
    | cons y b =>
      simp only [pickR, Option.some.injEq] at h
      by_cases hc : cmpR x y ≤ 0
      · rw [if_pos hc] at h; subst h
        simp only [cutN, cmpR_self, if_pos]
        omega
      · rw [if_neg hc] at h; subst h
        simp only [cutN, cmpR_self, if_pos]
        omega
theorem cutR_sub (r : VT) : ∀ l, ∃ p, l = p ++ cutR r l ∧ p.length = cutN r l ∧ ∀ x, x ∈ p → cmpR x r = 0
  | [] => ⟨[], rfl, rfl, fun x h => by cases h⟩
  | x :: l => by
    obtain ⟨p, h1, h2, h3⟩ := cutR_sub r l
    unfold cutN cutR
    by_cases h : cmpR x r = 0
    · rw [if_pos h, if_pos h]
      refine ⟨x :: p, by rw [List.cons_append, ← h1], by rw [List.length_cons, h2], fun z hz => ?_⟩
      rcases List.mem_cons.1 hz with rfl | hz
      · exact h
      · exact h3 z hz
    · rw [if_neg h, if_neg h]
      exact ⟨[], rfl, rfl, fun z hz => by cases hz⟩
theorem SortL.tail {x : VT} {l : List VT} (h : SortL (x :: l)) : SortL l := fun i j a b hij ha hb => h (i + 1) (j + 1) a b (by omega) (by simpa using ha) (by simpa using hb)
theorem SortL.app {p l : List VT} (h : SortL (p ++ l)) : SortL l := by
  induction p with
  | nil => exact h
  | cons x p ih => exact ih h.tail
theorem SortL.head {x y : VT} {l : List VT} (h : SortL (x :: l)) (hy : y ∈ l) : 0 ≤ cmpR y x := by
  obtain ⟨i, hi⟩ := List.getElem?_of_mem hy
  exact h 0 (i + 1) x y (Nat.zero_le _) rfl (by simpa using hi)
/-- What stands behind is greater than what was taken out, if none is smaller. -/
theorem cutR_gt {r : VT} : ∀ {l : List VT}, SortL l → (∀ x, x ∈ l → 0 ≤ cmpR x r) → ∀ x, x ∈ cutR r l → 0 < cmpR x r
  | [], _, _, x, hx => by cases hx
  | y :: l, hs, hg, x, hx => by
    unfold cutR at hx
    by_cases h : cmpR y r = 0
    · rw [if_pos h] at hx
      exact cutR_gt hs.tail (fun z hz => hg z (by simp [hz])) x hx
    · rw [if_neg h] at hx
      have hy := hg y (by simp)
      rcases List.mem_cons.1 hx with rfl | hx
      · omega
      · have h1 := hs.head hx
        have t := (cmpR_tr r y x).2.1
        have e1 := cmpR_neg r y
        have e2 := cmpR_neg y x
        have e3 := cmpR_neg r x
        have := t (by omega) (by omega)
        omega
theorem pick_le {a b : List VT} {r : VT} (ha : SortL a) (hb : SortL b) (h : pickR a b = some r) : (∀ x, x ∈ a → 0 ≤ cmpR x r) ∧ ∀ x, x ∈ b → 0 ≤ cmpR x r := by
  have self : ∀ (z : VT) (l : List VT), SortL (z :: l) → ∀ x, x ∈ z :: l → 0 ≤ cmpR x z := fun z l hs x hx => by
    rcases List.mem_cons.1 hx with rfl | hx
    · rw [cmpR_self]; exact Int.le_refl _
    · exact hs.head hx
  have via : ∀ (z u : VT), 0 ≤ cmpR z u → ∀ x, 0 ≤ cmpR x z → 0 ≤ cmpR x u := fun z u h1 x h2 => by
    have t := (cmpR_tr u z x).1
    have e1 := cmpR_neg u z
    have e2 := cmpR_neg z x
    have e3 := cmpR_neg u x
    have := t (by omega) (by omega)
    omega
  cases a with
  | nil =>
    cases b with
    | nil => simp [pickR] at h
    | cons y b =>
      simp only [pickR, Option.some.injEq] at h
      subst h
      exact ⟨(fun x h => by cases h), self y b hb⟩
  | cons x a =>
    cases b with
    | nil =>
      simp only [pickR, Option.some.injEq] at h
      subst h
      exact ⟨self x a ha, (fun x h => by cases h)⟩
    | cons y b =>
      simp only [pickR, Option.some.injEq] at h
      by_cases hc : cmpR x y ≤ 0
      · rw [if_pos hc] at h; subst h
        refine ⟨self x a ha, fun z hz => via y x ?_ z (self y b hb z hz)⟩
        have := cmpR_neg x y
        omega
      · rw [if_neg hc] at h; subst h
        exact ⟨fun z hz => via x y (by omega) z (self x a ha z hz), self y b hb⟩
/-- Rows that are the same as one. -/
def eqR (r x : VT) : Bool := decide (cmpR x r = 0)
theorem countP_zero {p : VT → Bool} : ∀ {l : List VT}, (∀ x, x ∈ l → p x = false) → l.countP p = 0
  | [], _ => rfl
  | x :: l, h => by rw [List.countP_cons, countP_zero (fun z hz => h z (by simp [hz])), h x (by simp)]; rfl
theorem countP_all {p : VT → Bool} : ∀ {l : List VT}, (∀ x, x ∈ l → p x = true) → l.countP p = l.length
  | [], _ => rfl
  | x :: l, h => by rw [List.countP_cons, countP_all (fun z hz => h z (by simp [hz])), h x (by simp)]; rfl
theorem cut_count {r : VT} {l : List VT} (hs : SortL l) (hg : ∀ x, x ∈ l → 0 ≤ cmpR x r) : cutN r l = l.countP (eqR r) := by
  obtain ⟨p, h1, h2, h3⟩ := cutR_sub r l
  have h4 := cutR_gt hs hg
  have e : l.countP (eqR r) = (p ++ cutR r l).countP (eqR r) := by rw [← h1]
  rw [e, List.countP_append, countP_all (fun x hx => by unfold eqR; simp [h3 x hx]), countP_zero (fun x hx => by unfold eqR; have := h4 x hx; simp; omega), ← h2]
  rfl
/-- The rows of two lists: in order, each once, with how often each occurs. -/
structure TalOk (a b : List VT) (T : List TT) : Prop where
  inc : ∀ (i j : Nat) s t, i < j → T[i]? = some s → T[j]? = some t → 0 < cmpR t.row s.row
  cnt : ∀ t, t ∈ T → t.a = a.countP (eqR t.row) ∧ t.b = b.countP (eqR t.row)
  all : ∀ x, x ∈ a ∨ x ∈ b → ∃ t, t ∈ T ∧ cmpR x t.row = 0
theorem count_drop {r s : VT} {l : List VT} (_hs : SortL l) (_hg : ∀ x, x ∈ l → 0 ≤ cmpR x r) (h : 0 < cmpR s r) : (cutR r l).countP (eqR s) = l.countP (eqR s) := by
  obtain ⟨p, h1, h2, h3⟩ := cutR_sub r l
  have e : l.countP (eqR s) = (p ++ cutR r l).countP (eqR s) := by rw [← h1]
  rw [e, List.countP_append, countP_zero (l := p), Nat.zero_add]
  intro x hx
  unfold eqR
  have hx0 := h3 x hx
  have t := (cmpR_tr r x s).2.2.2
  have e1 := cmpR_neg r x
  have e2 := cmpR_neg r s
  have e3 := cmpR_neg x s
  refine decide_eq_false fun hc => ?_
  have := t (by omega) hc
  omega
theorem tal_ok : ∀ (f : Nat) (a b : List VT), a.length + b.length ≤ f → SortL a → SortL b → TalOk a b (talF f a b) ∧ ∀ t, t ∈ talF f a b → t.row ∈ a ∨ t.row ∈ b
  | 0, a, b, h, _, _ => by
    have ha : a = [] := List.length_eq_zero_iff.1 (by omega)
    have hb : b = [] := List.length_eq_zero_iff.1 (by omega)
    subst ha hb
    exact ⟨⟨fun i j s t _ h => by simp [talF] at h, fun t h => by simp [talF] at h, fun x h => by simp at h⟩, fun t h => by simp [talF] at h⟩
  | f + 1, a, b, h, ha, hb => by
    unfold talF
    cases hp : pickR a b with
    | none =>
      obtain ⟨rfl, rfl⟩ := pick_none hp
      exact ⟨⟨fun i j s t _ h => by simp at h, fun t h => by simp at h, fun x h => by simp at h⟩, fun t h => by simp at h⟩
    | some r =>
      obtain ⟨g1, g2⟩ := pick_le ha hb hp
      have n1 := cut_len r a
      have n2 := cut_len r b
      have n3 := pick_cut hp
      have s1 := cutR_gt ha g1
      have s2 := cutR_gt hb g2
      obtain ⟨p, p1, p2, p3⟩ := cutR_sub r a
      obtain ⟨q, q1, q2, q3⟩ := cutR_sub r b
      obtain ⟨ih, ihm⟩ := tal_ok f (cutR r a) (cutR r b) (by omega) (by rw [p1] at ha; exact ha.app) (by rw [q1] at hb; exact hb.app)
      have hgt : ∀ t, t ∈ talF f (cutR r a) (cutR r b) → 0 < cmpR t.row r := fun t ht => by
        rcases ihm t ht with hm | hm
        · exact s1 _ hm
        · exact s2 _ hm
      refine ⟨⟨fun i j s t hij hs ht => ?_, fun t ht => ?_, fun x hx => ?_⟩, fun t ht => ?_⟩
      · cases j with
        | zero => omega
        | succ j =>
          simp only [List.getElem?_cons_succ] at ht
          cases i with
          | zero =>
            simp at hs
            subst hs
            exact hgt t (List.mem_of_getElem? ht)
          | succ i =>
            simp only [List.getElem?_cons_succ] at hs
            exact ih.inc i j s t (by omega) hs ht
      · rcases List.mem_cons.1 ht with rfl | ht
        · exact ⟨cut_count ha g1, cut_count hb g2⟩
        · have hg := hgt t ht
          obtain ⟨c1, c2⟩ := ih.cnt t ht
          exact ⟨c1.trans (count_drop ha g1 hg), c2.trans (count_drop hb g2 hg)⟩
      · have hcase : cmpR x r = 0 ∨ (x ∈ cutR r a ∨ x ∈ cutR r b) := by
          rcases hx with hx | hx
          · rw [p1] at hx
            rcases List.mem_append.1 hx with hx | hx
            · exact .inl (p3 x hx)
            · exact .inr (.inl hx)
          · rw [q1] at hx
            rcases List.mem_append.1 hx with hx | hx
            · exact .inl (q3 x hx)
            · exact .inr (.inr hx)
        rcases hcase with h0 | h0
        · exact ⟨_, List.mem_cons_self, h0⟩
        · obtain ⟨t, ht, he⟩ := ih.all x h0
          exact ⟨t, by simp [ht], he⟩
      · rcases List.mem_cons.1 ht with rfl | ht
        · show r ∈ a ∨ r ∈ b
          cases a with
          | nil =>
            cases b with
            | nil => simp [pickR] at hp
            | cons y b =>
              simp only [pickR, Option.some.injEq] at hp
              subst hp
              simp
          | cons x a =>
            cases b with
            | nil =>
              simp only [pickR, Option.some.injEq] at hp
              subst hp
              simp
            | cons y b =>
              simp only [pickR, Option.some.injEq] at hp
              split at hp <;> subst hp <;> simp
        · rcases ihm t ht with hm | hm
          · exact .inl (by rw [p1]; exact List.mem_append_right _ hm)
          · exact .inr (by rw [q1]; exact List.mem_append_right _ hm)
end Go.Proofs.Ytcdaipkkddgbeaa
