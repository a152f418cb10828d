/-
  Sorting in place, as plain functions: exchanges, insertion, ranges that change places, rotation, the merge by symmetric comparisons. No program stands here.
-/
import Derived.WalkKit
namespace Go.Proofs.Ytcdaipkkddgbeaa
/-- Two places are exchanged. -/
def swp {α : Type} (f : Nat → α) (i j : Nat) : Nat → α := fun k => if k = i then f j else if k = j then f i else f k
/-- Places from a to b have been exchanged, again and again. -/
inductive Sw {α : Type} (a b : Nat) (f : Nat → α) : (Nat → α) → Prop
  | refl : Sw a b f f
  | step {g : Nat → α} {i j : Nat} (h : Sw a b f g) (h1 : a ≤ i) (h2 : i < b) (h3 : a ≤ j) (h4 : j < b) : Sw a b f (swp g i j)
section
variable {α : Type} {f g k : Nat → α} {a b : Nat}
theorem Sw.trans (h : Sw a b f g) (h' : Sw a b g k) : Sw a b f k := by
  induction h' with
  | refl => exact h
  | step _ h1 h2 h3 h4 ih => exact ih.step h1 h2 h3 h4
theorem Sw.mono {a' b' : Nat} (h : Sw a b f g) (ha : a' ≤ a) (hb : b ≤ b') : Sw a' b' f g := by
  induction h with
  | refl => exact .refl
  | step _ h1 h2 h3 h4 ih => exact ih.step (by omega) (by omega) (by omega) (by omega)
theorem Sw.out (h : Sw a b f g) {i : Nat} (hi : i < a ∨ b ≤ i) : g i = f i := by
  induction h with
  | refl => rfl
  | step _ h1 h2 h3 h4 ih =>
    unfold swp
    rw [if_neg (by omega), if_neg (by omega)]
    exact ih
theorem Sw.all (h : Sw a b f g) (P : α → Prop) (hp : ∀ i, a ≤ i → i < b → P (f i)) : ∀ i, a ≤ i → i < b → P (g i) := by
  induction h with
  | refl => exact hp
  | step _ h1 h2 h3 h4 ih =>
    intro i hi hi'
    unfold swp
    split
    · exact ih _ h3 h4
    · split
      · exact ih _ h1 h2
      · exact ih i hi hi'
/-- How often something holds below a place. -/
def cnt (p : α → Bool) (f : Nat → α) : Nat → Nat
  | 0 => 0
  | n + 1 => cnt p f n + (p (f n)).toNat
theorem cnt_congr (p : α → Bool) : ∀ (n : Nat), (∀ i, i < n → f i = g i) → cnt p f n = cnt p g n
  | 0, _ => rfl
  | n + 1, h => by simp only [cnt]; rw [cnt_congr p n fun i hi => h i (by omega), h n (by omega)]
def setAt (f : Nat → α) (i : Nat) (x : α) : Nat → α := fun k => if k = i then x else f k
theorem cnt_set (p : α → Bool) (f : Nat → α) (i : Nat) (x : α) : ∀ (n : Nat), i < n → cnt p (setAt f i x) n + (p (f i)).toNat = cnt p f n + (p x).toNat
  | 0, h => by omega
  | n + 1, h => by
    simp only [cnt]
    by_cases hi : i = n
    · subst hi
      have e : setAt f i x i = x := if_pos rfl
      rw [e, cnt_congr p i (fun k hk => show setAt f i x k = f k from if_neg (by omega))]
      omega
    · have e : setAt f i x n = f n := if_neg (fun e => hi e.symm)
      rw [e]
      have := cnt_set p f i x n (by omega)
      omega
theorem cnt_swp (p : α → Bool) (f : Nat → α) (i j n : Nat) (hi : i < n) (hj : j < n) : cnt p (swp f i j) n = cnt p f n := by
  by_cases e : i = j
  · subst e
    refine cnt_congr p n fun k _ => ?_
    unfold swp
    split
    · rename_i h; rw [h]
    · rfl
  · have h1 := cnt_set p f j (f i) n hj
    have h2 := cnt_set p (setAt f j (f i)) i (f j) n hi
    have h3 : swp f i j = setAt (setAt f j (f i)) i (f j) := rfl
    have h4 : setAt f j (f i) i = f i := if_neg e
    rw [h3]
    rw [h4] at h2
    omega
theorem Sw.cnt (h : Sw a b f g) (p : α → Bool) {n : Nat} (hb : b ≤ n) : cnt p g n = cnt p f n := by
  induction h with
  | refl => rfl
  | step _ h1 h2 h3 h4 ih => rw [cnt_swp p _ _ _ n (by omega) (by omega)]; exact ih
end
/-- A strict weak order. -/
structure SWeak {α : Type} (lt : α → α → Bool) : Prop where
  asymm : ∀ x y, lt x y = true → lt y x = false
  trans : ∀ x y z, lt y x = false → lt z y = false → lt z x = false
def SortedOn {α : Type} (lt : α → α → Bool) (f : Nat → α) (a b : Nat) : Prop := ∀ i j, a ≤ i → i ≤ j → j < b → lt (f j) (f i) = false
section
variable {α : Type} {lt : α → α → Bool} {f g : Nat → α}
theorem SWeak.irrefl (h : SWeak lt) (x : α) : lt x x = false := by
  cases e : lt x x
  · rfl
  · exact h.asymm x x e ▸ e ▸ rfl
theorem SortedOn.sub {a b a' b' : Nat} (h : SortedOn lt f a b) (ha : a ≤ a') (hb : b' ≤ b) : SortedOn lt f a' b' := fun i j h1 h2 h3 => h i j (by omega) h2 (by omega)
theorem SortedOn.one (W : SWeak lt) {a b : Nat} (h : b ≤ a + 1) : SortedOn lt f a b := fun i j h1 h2 h3 => by
  have : i = j := by omega
  subst this
  exact W.irrefl _
/-! ## Insertion -/
/-- All from a to i but place j is in order, and what stands at j is not greater than what stands behind it. -/
def InsAt (lt : α → α → Bool) (f : Nat → α) (a i j : Nat) : Prop :=
  (∀ p q, a ≤ p → p ≤ q → q ≤ i → p ≠ j → q ≠ j → lt (f q) (f p) = false) ∧ ∀ q, j < q → q ≤ i → lt (f q) (f j) = false
theorem InsAt.start {a i : Nat} (h : SortedOn lt f a i) : InsAt lt f a i i := ⟨fun p q h1 h2 h3 h4 h5 => h p q h1 h2 (by omega), fun q h1 h2 => by omega⟩
theorem InsAt.step (W : SWeak lt) {a i j : Nat} (h : InsAt lt f a i j) (hj : a < j) (hji : j ≤ i) (hlt : lt (f j) (f (j - 1)) = true) : InsAt lt (swp f j (j - 1)) a i (j - 1) := by
  obtain ⟨h1, h2⟩ := h
  have hv : ∀ p, p ≠ j → p ≠ j - 1 → swp f j (j - 1) p = f p := fun p a b => by unfold swp; rw [if_neg a, if_neg b]
  have hvj : swp f j (j - 1) j = f (j - 1) := by unfold swp; rw [if_pos rfl]
  have hvj1 : swp f j (j - 1) (j - 1) = f j := by unfold swp; rw [if_neg (by omega), if_pos rfl]
  refine ⟨fun p q a1 a2 a3 a4 a5 => ?_, fun q a1 a2 => ?_⟩
  · by_cases ep : p = j
    · subst ep
      rw [hvj]
      by_cases eq : q = p
      · subst eq; rw [hvj]; exact W.irrefl _
      · rw [hv q eq a5]; exact h1 (p - 1) q (by omega) (by omega) a3 (by omega) eq
    · rw [hv p ep a4]
      by_cases eq : q = j
      · subst eq; rw [hvj]; exact h1 p (q - 1) a1 (by omega) (by omega) ep (by omega)
      · rw [hv q eq a5]; exact h1 p q a1 a2 a3 ep eq
  · rw [hvj1]
    by_cases eq : q = j
    · subst eq; rw [hvj]; exact W.asymm _ _ hlt
    · rw [hv q eq (by omega)]; exact h2 q (by omega) a2
theorem InsAt.stop (W : SWeak lt) {a i j : Nat} (h : InsAt lt f a i j) (hji : j ≤ i) (haj : a ≤ j) (hs : j = a ∨ lt (f j) (f (j - 1)) = false) : SortedOn lt f a (i + 1) := by
  obtain ⟨h1, h2⟩ := h
  intro p q a1 a2 a3
  by_cases ep : p = j
  · subst ep
    by_cases eq : q = p
    · subst eq; exact W.irrefl _
    · exact h2 q (by omega) (by omega)
  · by_cases eq : q = j
    · subst eq
      rcases hs with hs | hs
      · omega
      · by_cases e1 : p = q - 1
        · rw [e1]; exact hs
        · exact W.trans _ _ _ (h1 p (q - 1) a1 (by omega) (by omega) ep (by omega)) hs
    · exact h1 p q a1 a2 (by omega) ep eq
/-! ## Ranges exchanged, and rotated -/
def swr (f : Nat → α) (a b n : Nat) : Nat → α := fun k => if a ≤ k ∧ k < a + n then f (b + (k - a)) else if b ≤ k ∧ k < b + n then f (a + (k - b)) else f k
theorem swr_zero (f : Nat → α) (a b : Nat) : swr f a b 0 = f := by
  funext k
  unfold swr
  rw [if_neg (by omega), if_neg (by omega)]
theorem swr_step (f : Nat → α) (a b n : Nat) (h : a + n < b) : swp (swr f a b n) (a + n) (b + n) = swr f a b (n + 1) := by
  funext k
  unfold swp swr
  by_cases e1 : k = a + n
  · subst e1
    rw [if_pos rfl, if_neg (by omega), if_neg (by omega), if_pos (by omega)]
    congr 1; omega
  · rw [if_neg e1]
    by_cases e2 : k = b + n
    · subst e2
      rw [if_pos rfl, if_neg (by omega), if_neg (by omega), if_neg (by omega), if_pos (by omega)]
      congr 1; omega
    · rw [if_neg e2]
      by_cases c1 : a ≤ k ∧ k < a + n
      · rw [if_pos c1, if_pos (by omega)]
      · rw [if_neg c1, if_neg (show ¬ (a ≤ k ∧ k < a + (n + 1)) by omega)]
        by_cases c2 : b ≤ k ∧ k < b + n
        · rw [if_pos c2, if_pos (by omega)]
        · rw [if_neg c2, if_neg (by omega)]
theorem swr_sw (f : Nat → α) (lo hi a b : Nat) (h1 : lo ≤ a) : ∀ n, a + n ≤ b → b + n ≤ hi → Sw lo hi f (swr f a b n)
  | 0, _, _ => by rw [swr_zero]; exact .refl
  | n + 1, h, h' => by
    rw [← swr_step f a b n (by omega)]
    exact (swr_sw f lo hi a b h1 n (by omega) (by omega)).step (by omega) (by omega) (by omega) (by omega)
def rot (f : Nat → α) (a m b : Nat) : Nat → α := fun k => if a ≤ k ∧ k < a + (b - m) then f (m + (k - a)) else if a + (b - m) ≤ k ∧ k < b then f (a + (k - (a + (b - m)))) else f k
theorem rot_gt (f : Nat → α) (m i j : Nat) (hi : i ≤ m) (hij : j < i) : rot (swr f (m - i) m j) (m - i + j) m (m + j) = rot f (m - i) m (m + j) := by
  funext k
  have e : m + j - m = j := by omega
  unfold rot
  rw [e]
  by_cases c1 : m - i ≤ k ∧ k < m - i + j
  · rw [if_pos c1]
    rw [if_neg (by omega), if_neg (by omega)]
    unfold swr
    rw [if_pos c1]
  · rw [if_neg c1]
    by_cases c2 : m - i + j ≤ k ∧ k < m + j
    · rw [if_pos c2]
      by_cases c3 : k < m - i + j + j
      · rw [if_pos (by omega)]
        unfold swr
        rw [if_neg (by omega), if_pos (by omega)]
        congr 1; omega
      · rw [if_neg (by omega), if_pos (by omega)]
        unfold swr
        rw [if_neg (by omega), if_neg (by omega)]
        congr 1; omega
    · rw [if_neg c2, if_neg (by omega), if_neg (by omega)]
      unfold swr
      rw [if_neg (by omega), if_neg (by omega)]
theorem rot_lt (f : Nat → α) (m i j : Nat) (hi : i ≤ m) (hij : i < j) : rot (swr f (m - i) (m + j - i) i) (m - i) m (m + (j - i)) = rot f (m - i) m (m + j) := by
  funext k
  have e : m + j - m = j := by omega
  have e' : m + (j - i) - m = j - i := by omega
  unfold rot
  rw [e, e']
  by_cases c1 : m - i ≤ k ∧ k < m - i + (j - i)
  · rw [if_pos c1, if_pos (by omega)]
    unfold swr
    rw [if_neg (by omega), if_neg (by omega)]
  · rw [if_neg c1]
    by_cases c2 : m - i + (j - i) ≤ k ∧ k < m + (j - i)
    · rw [if_pos c2, if_pos (by omega)]
      unfold swr
      rw [if_pos (by omega)]
      congr 1; omega
    · rw [if_neg c2]
      by_cases c3 : m + j - i ≤ k ∧ k < m + j
      · rw [if_neg (by omega), if_pos (by omega)]
        unfold swr
        rw [if_neg (by omega), if_pos (by omega)]
        congr 1; omega
      · rw [if_neg (by omega), if_neg (by omega)]
        unfold swr
        rw [if_neg (by omega), if_neg (by omega)]
theorem rot_eq (f : Nat → α) (m i : Nat) (hi : i ≤ m) : swr f (m - i) m i = rot f (m - i) m (m + i) := by
  funext k
  have e : m + i - m = i := by omega
  unfold rot swr
  rw [e]
  by_cases c1 : m - i ≤ k ∧ k < m - i + i
  · rw [if_pos c1, if_pos c1]
  · rw [if_neg c1, if_neg c1]
    by_cases c2 : m ≤ k ∧ k < m + i
    · rw [if_pos c2, if_pos (by omega)]
      congr 1; omega
    · rw [if_neg c2, if_neg (by omega)]
theorem q_mono (W : SWeak lt) {a m b p c c' : Nat} (h1 : SortedOn lt f a m) (h2 : SortedOn lt f m b) (ha : a ≤ c) (hc : c ≤ c') (hm : c' < m) (hp : m + c' ≤ p) (hb : p < b + c) (hq : lt (f (p - c)) (f c) = true) : lt (f (p - c')) (f c') = true := by
  cases e : lt (f (p - c')) (f c')
  · have k1 := h1 c c' ha hc hm
    have k2 := h2 (p - c') (p - c) (by omega) (by omega) (by omega)
    have := W.trans _ _ _ (W.trans _ _ _ k1 e) k2
    rw [this] at hq
    cases hq
  · rfl
theorem rot_none (f : Nat → α) (a m b : Nat) (h : a = m ∨ m = b) (h1 : a ≤ m) (h2 : m ≤ b) : rot f a m b = f := by
  funext k
  unfold rot
  rcases h with h | h
  · subst h
    by_cases c1 : a ≤ k ∧ k < a + (b - a)
    · rw [if_pos c1]; congr 1; omega
    · rw [if_neg c1, if_neg (by omega)]
  · subst h
    rw [if_neg (by omega)]
    by_cases c2 : a + (m - m) ≤ k ∧ k < m
    · rw [if_pos c2]; congr 1; omega
    · rw [if_neg c2]
/-! ## A single element put in its place -/
/-- What stood at a has gone up to k. -/
def shl (f : Nat → α) (a k : Nat) : Nat → α := fun t => if a ≤ t ∧ t < k then f (t + 1) else if t = k then f a else f t
theorem shl_start (f : Nat → α) (a : Nat) : shl f a a = f := by
  funext t
  unfold shl
  rw [if_neg (by omega)]
  split
  · rename_i h; rw [h]
  · rfl
theorem shl_step (f : Nat → α) (a k : Nat) (h : a ≤ k) : swp (shl f a k) k (k + 1) = shl f a (k + 1) := by
  funext t
  unfold swp shl
  by_cases e1 : t = k
  · subst e1
    rw [if_pos rfl, if_neg (by omega), if_neg (by omega), if_pos (by omega)]
  · rw [if_neg e1]
    by_cases e2 : t = k + 1
    · subst e2
      rw [if_pos rfl, if_neg (by omega), if_pos rfl, if_neg (by omega), if_pos rfl]
    · rw [if_neg e2]
      by_cases c : a ≤ t ∧ t < k
      · rw [if_pos c, if_pos (by omega)]
      · rw [if_neg c, if_neg e1, if_neg (by omega), if_neg e2]
theorem shl_sw (f : Nat → α) (a b : Nat) : ∀ k, a ≤ k → k < b → Sw a b f (shl f a k)
  | 0, h, h' => by
    have : a = 0 := by omega
    subst this
    rw [shl_start]; exact .refl
  | k + 1, h, h' => by
    by_cases e : a = k + 1
    · subst e; rw [shl_start]; exact .refl
    · rw [← shl_step f a k (by omega)]
      exact (shl_sw f a b k (by omega) (by omega)).step (by omega) (by omega) (by omega) (by omega)
theorem shl_sorted (W : SWeak lt) {a b i : Nat} (hi : a + 1 ≤ i) (hib : i ≤ b) (hs : SortedOn lt f (a + 1) b) (h1 : ∀ k, a + 1 ≤ k → k < i → lt (f k) (f a) = true) (h2 : ∀ k, i ≤ k → k < b → lt (f k) (f a) = false) : SortedOn lt (shl f a (i - 1)) a b := by
  have v1 : ∀ t, a ≤ t → t < i - 1 → shl f a (i - 1) t = f (t + 1) := fun t x y => by unfold shl; rw [if_pos ⟨x, y⟩]
  have v2 : shl f a (i - 1) (i - 1) = f a := by unfold shl; rw [if_neg (by omega), if_pos rfl]
  have v3 : ∀ t, i ≤ t → shl f a (i - 1) t = f t := fun t x => by unfold shl; rw [if_neg (by omega), if_neg (by omega)]
  intro p q a1 a2 a3
  rcases Nat.lt_trichotomy p (i - 1) with hp | hp | hp
  · rw [v1 p a1 hp]
    rcases Nat.lt_trichotomy q (i - 1) with hq | hq | hq
    · rw [v1 q (by omega) hq]; exact hs _ _ (by omega) (by omega) (by omega)
    · rw [hq, v2]; exact W.asymm _ _ (h1 (p + 1) (by omega) (by omega))
    · rw [v3 q (by omega)]; exact hs _ _ (by omega) (by omega) (by omega)
  · rw [hp, v2]
    by_cases hq : q = i - 1
    · rw [hq, v2]; exact W.irrefl _
    · rw [v3 q (by omega)]; exact h2 q (by omega) a3
  · rw [v3 p (by omega), v3 q (by omega)]; exact hs _ _ (by omega) (by omega) (by omega)
/-- What stood at m has gone down to k. -/
def shr (f : Nat → α) (m k : Nat) : Nat → α := fun t => if k < t ∧ t ≤ m then f (t - 1) else if t = k then f m else f t
theorem shr_start (f : Nat → α) (m : Nat) : shr f m m = f := by
  funext t
  unfold shr
  rw [if_neg (by omega)]
  split
  · rename_i h; rw [h]
  · rfl
theorem shr_step (f : Nat → α) (m k : Nat) (h : k < m) : swp (shr f m (k + 1)) (k + 1) k = shr f m k := by
  funext t
  unfold swp shr
  by_cases e1 : t = k + 1
  · subst e1
    rw [if_pos rfl, if_neg (by omega), if_neg (by omega), if_pos (by omega)]
    rfl
  · rw [if_neg e1]
    by_cases e2 : t = k
    · subst e2
      rw [if_pos rfl, if_neg (by omega), if_pos rfl, if_neg (by omega), if_pos rfl]
    · rw [if_neg e2]
      by_cases c : k + 1 < t ∧ t ≤ m
      · rw [if_pos c, if_pos (by omega)]
      · rw [if_neg c, if_neg e1, if_neg (by omega), if_neg e2]
theorem shr_sw (f : Nat → α) (a b m : Nat) (hmb : m < b) : ∀ d k, k + d = m → a ≤ k → Sw a b f (shr f m k)
  | 0, k, h, h' => by
    have : k = m := by omega
    subst this
    rw [shr_start]; exact .refl
  | d + 1, k, h, h' => by
    rw [← shr_step f m k (by omega)]
    exact (shr_sw f a b m hmb d (k + 1) (by omega) (by omega)).step (by omega) (by omega) (by omega) (by omega)
theorem shr_sorted (W : SWeak lt) {a m i : Nat} (hi : a ≤ i) (him : i ≤ m) (hs : SortedOn lt f a m) (h1 : ∀ k, a ≤ k → k < i → lt (f m) (f k) = false) (h2 : ∀ k, i ≤ k → k < m → lt (f m) (f k) = true) : SortedOn lt (shr f m i) a (m + 1) := by
  have v1 : ∀ t, i < t → t ≤ m → shr f m i t = f (t - 1) := fun t x y => by unfold shr; rw [if_pos ⟨x, y⟩]
  have v2 : shr f m i i = f m := by unfold shr; rw [if_neg (by omega), if_pos rfl]
  have v3 : ∀ t, t < i → shr f m i t = f t := fun t x => by unfold shr; rw [if_neg (by omega), if_neg (by omega)]
  intro p q a1 a2 a3
  rcases Nat.lt_trichotomy p i with hp | hp | hp
  · rw [v3 p hp]
    rcases Nat.lt_trichotomy q i with hq | hq | hq
    · rw [v3 q hq]; exact hs _ _ (by omega) (by omega) (by omega)
    · rw [hq, v2]; exact h1 p a1 hp
    · rw [v1 q hq (by omega)]; exact hs _ _ (by omega) (by omega) (by omega)
  · rw [hp, v2]
    by_cases hq : q = i
    · rw [hq, v2]; exact W.irrefl _
    · rw [v1 q (by omega) (by omega)]; exact W.asymm _ _ (h2 (q - 1) (by omega) (by omega))
  · rw [v1 p hp (by omega), v1 q (by omega) (by omega)]; exact hs _ _ (by omega) (by omega) (by omega)
/-! ## Two parts in order, merged -/
/-- The place that the search of a merge finds. -/
structure SymAt (lt : α → α → Bool) (f : Nat → α) (a m b s : Nat) : Prop where
  lo : a ≤ s ∧ (a + b) / 2 + m ≤ b + s
  hi : s ≤ m ∧ s ≤ (a + b) / 2
  left : ∀ i j, a ≤ i → i < s → (a + b) / 2 + m - s ≤ j → j < b → lt (f j) (f i) = false
  right : ∀ i j, m ≤ i → i < (a + b) / 2 + m - s → s ≤ j → j < m → lt (f j) (f i) = false
/-- The search of a merge, under way. -/
structure SymIn (lt : α → α → Bool) (f : Nat → α) (a m b s r : Nat) : Prop where
  lo : (if (a + b) / 2 < m then (a + b) / 2 + m - b else a) ≤ s
  mid : s ≤ r
  hi : r ≤ (if (a + b) / 2 < m then (a + b) / 2 else m)
  left : ∀ c, (if (a + b) / 2 < m then (a + b) / 2 + m - b else a) ≤ c → c < s → lt (f ((a + b) / 2 + m - 1 - c)) (f c) = false
  right : ∀ c, r ≤ c → c < (if (a + b) / 2 < m then (a + b) / 2 else m) → lt (f ((a + b) / 2 + m - 1 - c)) (f c) = true
theorem SymIn.found (W : SWeak lt) {a m b s : Nat} (ham : a < m) (hmb : m < b) (h1 : SortedOn lt f a m) (h2 : SortedOn lt f m b) (h : SymIn lt f a m b s s) : SymAt lt f a m b s := by
  obtain ⟨lo, _, hi, hl, hr⟩ := h
  generalize hmid : (a + b) / 2 = mid at *
  by_cases hc : mid < m
  · rw [if_pos hc] at lo hi hl hr
    refine ⟨⟨by omega, by omega⟩, ⟨by omega, by omega⟩, fun i j a1 a2 a3 a4 => ?_, fun i j a1 a2 a3 a4 => ?_⟩
    · have k := hl (s - 1) (by omega) (by omega)
      have k1 := h1 i (s - 1) a1 (by omega) (by omega)
      have k2 := h2 (mid + m - s) j (by omega) (by omega) a4
      rw [show mid + m - 1 - (s - 1) = mid + m - s by omega] at k
      exact W.trans _ _ _ (W.trans _ _ _ k1 k) k2
    · have k := hr s (Nat.le_refl _) (by omega)
      have k1 := h2 i (mid + m - 1 - s) a1 (by omega) (by omega)
      have k2 := h1 s j (by omega) a3 a4
      exact W.trans _ _ _ (W.trans _ _ _ k1 (W.asymm _ _ k)) k2
  · rw [if_neg hc] at lo hi hl hr
    refine ⟨⟨by omega, by omega⟩, ⟨by omega, by omega⟩, fun i j a1 a2 a3 a4 => ?_, fun i j a1 a2 a3 a4 => ?_⟩
    · have k := hl (s - 1) (by omega) (by omega)
      have k1 := h1 i (s - 1) a1 (by omega) (by omega)
      have k2 := h2 (mid + m - s) j (by omega) (by omega) a4
      rw [show mid + m - 1 - (s - 1) = mid + m - s by omega] at k
      exact W.trans _ _ _ (W.trans _ _ _ k1 k) k2
    · have k := hr s (Nat.le_refl _) (by omega)
      have k1 := h2 i (mid + m - 1 - s) a1 (by omega) (by omega)
      have k2 := h1 s j (by omega) a3 a4
      exact W.trans _ _ _ (W.trans _ _ _ k1 (W.asymm _ _ k)) k2
theorem SymIn.start {a m b : Nat} (ham : a < m) (hmb : m < b) : SymIn lt f a m b (if (a + b) / 2 < m then (a + b) / 2 + m - b else a) (if (a + b) / 2 < m then (a + b) / 2 else m) := by
  refine ⟨Nat.le_refl _, ?_, Nat.le_refl _, fun c x y => ?_, fun c x y => ?_⟩
  · split <;> omega
  · omega
  · omega
theorem SymIn.up (W : SWeak lt) {a m b s r : Nat} (ham : a < m) (hmb : m < b) (h1 : SortedOn lt f a m) (h2 : SortedOn lt f m b) (h : SymIn lt f a m b s r) (hsr : s < r) (hq : lt (f ((a + b) / 2 + m - 1 - (s + r) / 2)) (f ((s + r) / 2)) = false) : SymIn lt f a m b ((s + r) / 2 + 1) r := by
  obtain ⟨lo, _, hi, hl, hr⟩ := h
  refine ⟨by omega, by omega, hi, fun c x y => ?_, hr⟩
  cases e : lt (f ((a + b) / 2 + m - 1 - c)) (f c)
  · rfl
  · have := q_mono W (c' := (s + r) / 2) (p := (a + b) / 2 + m - 1) h1 h2 (by split at x <;> omega) (by omega) (by split at hi <;> omega) (by split at hi <;> omega) (by split at x <;> omega) e
    rw [this] at hq
    cases hq
theorem SymIn.down (W : SWeak lt) {a m b s r : Nat} (ham : a < m) (hmb : m < b) (h1 : SortedOn lt f a m) (h2 : SortedOn lt f m b) (h : SymIn lt f a m b s r) (hsr : s < r) (hq : lt (f ((a + b) / 2 + m - 1 - (s + r) / 2)) (f ((s + r) / 2)) = true) : SymIn lt f a m b s ((s + r) / 2) := by
  obtain ⟨lo, _, hi, hl, hr⟩ := h
  refine ⟨lo, by omega, by omega, hl, fun c x y => ?_⟩
  exact q_mono W (p := (a + b) / 2 + m - 1) h1 h2 (by split at lo <;> omega) x (by split at y <;> omega) (by split at y <;> omega) (by split at lo <;> omega) hq
theorem sym_parts {a m b s : Nat} (ham : a < m) (hmb : m < b) (h1 : SortedOn lt f a m) (h2 : SortedOn lt f m b) (h : SymAt lt f a m b s) :
    SortedOn lt (rot f s m ((a + b) / 2 + m - s)) a s ∧ SortedOn lt (rot f s m ((a + b) / 2 + m - s)) s ((a + b) / 2) ∧ SortedOn lt (rot f s m ((a + b) / 2 + m - s)) ((a + b) / 2) ((a + b) / 2 + m - s) ∧ SortedOn lt (rot f s m ((a + b) / 2 + m - s)) ((a + b) / 2 + m - s) b ∧
      ∀ i j, a ≤ i → i < (a + b) / 2 → (a + b) / 2 ≤ j → j < b → lt (rot f s m ((a + b) / 2 + m - s) j) (rot f s m ((a + b) / 2 + m - s) i) = false := by
  obtain ⟨⟨l1, l2⟩, ⟨l3, l4⟩, hl, hr⟩ := h
  generalize hmid : (a + b) / 2 = mid at *
  have hm1 : a < mid := by omega
  have hm2 : mid < b := by omega
  have e : mid + m - s - m = mid - s := by omega
  have v1 : ∀ k, k < s → rot f s m (mid + m - s) k = f k := fun k x => by unfold rot; rw [if_neg (by omega), if_neg (by omega)]
  have v2 : ∀ k, s ≤ k → k < mid → rot f s m (mid + m - s) k = f (m + (k - s)) := fun k x y => by unfold rot; rw [e, if_pos (by omega)]
  have v3 : ∀ k, mid ≤ k → k < mid + m - s → rot f s m (mid + m - s) k = f (s + (k - mid)) := fun k x y => by
    unfold rot
    rw [e, if_neg (by omega), if_pos (by omega)]
    congr 2; omega
  have v4 : ∀ k, mid + m - s ≤ k → rot f s m (mid + m - s) k = f k := fun k x => by unfold rot; rw [if_neg (by omega), if_neg (by omega)]
  refine ⟨fun p q a1 a2 a3 => ?_, fun p q a1 a2 a3 => ?_, fun p q a1 a2 a3 => ?_, fun p q a1 a2 a3 => ?_, fun i j a1 a2 a3 a4 => ?_⟩
  · rw [v1 p (by omega), v1 q (by omega)]; exact h1 _ _ (by omega) a2 (by omega)
  · rw [v2 p a1 (by omega), v2 q (by omega) a3]; exact h2 _ _ (by omega) (by omega) (by omega)
  · rw [v3 p a1 (by omega), v3 q (by omega) a3]; exact h1 _ _ (by omega) (by omega) (by omega)
  · rw [v4 p a1, v4 q (by omega)]; exact h2 _ _ (by omega) a2 (by omega)
  · by_cases hi : i < s
    · rw [v1 i hi]
      by_cases hj : j < mid + m - s
      · rw [v3 j a3 hj]; exact h1 _ _ a1 (by omega) (by omega)
      · rw [v4 j (by omega)]; exact hl i j a1 hi (by omega) a4
    · rw [v2 i (by omega) a2]
      by_cases hj : j < mid + m - s
      · rw [v3 j a3 hj]; exact hr _ _ (by omega) (by omega) (by omega) (by omega)
      · rw [v4 j (by omega)]; exact h2 _ _ (by omega) (by omega) a4
/-- Two parts in order, all of the one not greater than all of the other. -/
theorem sorted_join {a c b : Nat} (h1 : SortedOn lt g a c) (h2 : SortedOn lt g c b) (h : ∀ i j, a ≤ i → i < c → c ≤ j → j < b → lt (g j) (g i) = false) : SortedOn lt g a b := by
  intro p q a1 a2 a3
  by_cases hq : q < c
  · exact h1 p q a1 a2 hq
  · by_cases hp : p < c
    · exact h p q a1 hp (by omega) a3
    · exact h2 p q (by omega) a2 a3
/-- The halves have been put in order, each by itself. -/
theorem sym_join {a c b : Nat} {g1 g2 : Nat → α} (h : ∀ i j, a ≤ i → i < c → c ≤ j → j < b → lt (f j) (f i) = false) (s1 : Sw a c f g1) (o1 : SortedOn lt g1 a c) (s2 : Sw c b g1 g2) (o2 : SortedOn lt g2 c b) : SortedOn lt g2 a b := by
  refine sorted_join (fun p q a1 a2 a3 => ?_) o2 fun i j a1 a2 a3 a4 => ?_
  · rw [s2.out (.inl (by omega)), s2.out (.inl (by omega))]; exact o1 p q a1 a2 a3
  · rw [s2.out (i := i) (.inl a2)]
    have k1 : ∀ j, c ≤ j → j < b → ∀ i, a ≤ i → i < c → lt (f j) (g1 i) = false := fun j b1 b2 => s1.all (fun x => lt (f j) x = false) fun i' c1 c2 => h i' j c1 c2 b1 b2
    exact s2.all (fun x => lt x (g1 i) = false) (fun j' c1 c2 => by rw [s1.out (.inr c1)]; exact k1 j' c1 c2 i a1 a2) j a3 a4
end
end Go.Proofs.Ytcdaipkkddgbeaa
