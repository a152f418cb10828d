/-
  Sorting in place, as plain functions: exchanges, insertion, ranges that change places, rotation, the merge by symmetric comparisons. No program stands here.
  The order of values, as plain functions. No program stands here.
-/
import Derived.Test.YthijagpnpcpcbaaGreatQGtB
import Derived.WalkKit
namespace Go.Proofs.YthijagpnpcpcbaaGreat
/-- Two places are exchanged. -/
def swp {α : Type} (f : Nat → α) (i j : Nat) : Nat → α := fun k => if k = i then f j else if k = j then f i else f k
/-- Places from a to b have been exchanged, again and again. -/
inductive Sw {α : Type} (a b : Nat) (f : Nat → α) : (Nat → α) → Prop
  | refl : Sw a b f f
  | step {g : Nat → α} {i j : Nat} (h : Sw a b f g) (h1 : a ≤ i) (h2 : i < b) (h3 : a ≤ j) (h4 : j < b) : Sw a b f (swp g i j)
section
variable {α : Type} {f g k : Nat → α} {a b : Nat}
theorem Sw.trans (h : Sw a b f g) (h' : Sw a b g k) : Sw a b f k := by
  induction h' with
  | refl => exact h
  | step _ h1 h2 h3 h4 ih => exact ih.step h1 h2 h3 h4
theorem Sw.mono {a' b' : Nat} (h : Sw a b f g) (ha : a' ≤ a) (hb : b ≤ b') : Sw a' b' f g := by
  induction h with
  | refl => exact .refl
  | step _ h1 h2 h3 h4 ih => exact ih.step (by omega) (by omega) (by omega) (by omega)
theorem Sw.out (h : Sw a b f g) {i : Nat} (hi : i < a ∨ b ≤ i) : g i = f i := by
  induction h with
  | refl => rfl
  | step _ h1 h2 h3 h4 ih =>
    unfold swp
    rw [if_neg (by omega), if_neg (by omega)]
    exact ih
theorem Sw.all (h : Sw a b f g) (P : α → Prop) (hp : ∀ i, a ≤ i → i < b → P (f i)) : ∀ i, a ≤ i → i < b → P (g i) := by
  induction h with
  | refl => exact hp
  | step _ h1 h2 h3 h4 ih =>
    intro i hi hi'
    unfold swp
    split
    · exact ih _ h3 h4
    · split
      · exact ih _ h1 h2
      · exact ih i hi hi'
/-- How often something holds below a place. -/
def cnt (p : α → Bool) (f : Nat → α) : Nat → Nat
  | 0 => 0
  | n + 1 => cnt p f n + (p (f n)).toNat
theorem cnt_congr (p : α → Bool) : ∀ (n : Nat), (∀ i, i < n → f i = g i) → cnt p f n = cnt p g n
  | 0, _ => rfl
  | n + 1, h => by simp only [cnt]; rw [cnt_congr p n fun i hi => h i (by omega), h n (by omega)]
def setAt (f : Nat → α) (i : Nat) (x : α) : Nat → α := fun k => if k = i then x else f k
theorem cnt_set (p : α → Bool) (f : Nat → α) (i : Nat) (x : α) : ∀ (n : Nat), i < n → cnt p (setAt f i x) n + (p (f i)).toNat = cnt p f n + (p x).toNat
  | 0, h => by omega
  | n + 1, h => by
    simp only [cnt]
    by_cases hi : i = n
    · subst hi
      have e : setAt f i x i = x := if_pos rfl
      rw [e, cnt_congr p i (fun k hk => show setAt f i x k = f k from if_neg (by omega))]
      omega
    · have e : setAt f i x n = f n := if_neg (fun e => hi e.symm)
      rw [e]
      have := cnt_set p f i x n (by omega)
      omega
theorem cnt_swp (p : α → Bool) (f : Nat → α) (i j n : Nat) (hi : i < n) (hj : j < n) : cnt p (swp f i j) n = cnt p f n := by
  by_cases e : i = j
  · subst e
    refine cnt_congr p n fun k _ => ?_
    unfold swp
    split
    · rename_i h; rw [h]
    · rfl
  · have h1 := cnt_set p f j (f i) n hj
    have h2 := cnt_set p (setAt f j (f i)) i (f j) n hi
    have h3 : swp f i j = setAt (setAt f j (f i)) i (f j) := rfl
    have h4 : setAt f j (f i) i = f i := if_neg e
    rw [h3]
    rw [h4] at h2
    omega
theorem Sw.cnt (h : Sw a b f g) (p : α → Bool) {n : Nat} (hb : b ≤ n) : cnt p g n = cnt p f n := by
  induction h with
  | refl => rfl
  | step _ h1 h2 h3 h4 ih => rw [cnt_swp p _ _ _ n (by omega) (by omega)]; exact ih
end
/-- A strict weak order. -/
structure SWeak {α : Type} (lt : α → α → Bool) : Prop where
  asymm : ∀ x y, lt x y = true → lt y x = false
  trans : ∀ x y z, lt y x = false → lt z y = false → lt z x = false
def SortedOn {α : Type} (lt : α → α → Bool) (f : Nat → α) (a b : Nat) : Prop := ∀ i j, a ≤ i → i ≤ j → j < b → lt (f j) (f i) = false
section
variable {α : Type} {lt : α → α → Bool} {f g : Nat → α}
theorem SWeak.irrefl (h : SWeak lt) (x : α) : lt x x = false := by
  cases e : lt x x
  · rfl
  · exact h.asymm x x e ▸ e ▸ rfl
theorem SortedOn.sub {a b a' b' : Nat} (h : SortedOn lt f a b) (ha : a ≤ a') (hb : b' ≤ b) : SortedOn lt f a' b' := fun i j h1 h2 h3 => h i j (by omega) h2 (by omega)
theorem SortedOn.one (W : SWeak lt) {a b : Nat} (h : b ≤ a + 1) : SortedOn lt f a b := fun i j h1 h2 h3 => by
  have : i = j := by omega
  subst this
  exact W.irrefl _
/-! ## Insertion -/
/-- All from a to i but place j is in order, and what stands at j is not greater than what stands behind it. -/
def InsAt (lt : α → α → Bool) (f : Nat → α) (a i j : Nat) : Prop :=
  (∀ p q, a ≤ p → p ≤ q → q ≤ i → p ≠ j → q ≠ j → lt (f q) (f p) = false) ∧ ∀ q, j < q → q ≤ i → lt (f q) (f j) = false
theorem InsAt.start {a i : Nat} (h : SortedOn lt f a i) : InsAt lt f a i i := ⟨fun p q h1 h2 h3 h4 h5 => h p q h1 h2 (by omega), fun q h1 h2 => by omega⟩
theorem InsAt.step (W : SWeak lt) {a i j : Nat} (h : InsAt lt f a i j) (hj : a < j) (hji : j ≤ i) (hlt : lt (f j) (f (j - 1)) = true) : InsAt lt (swp f j (j - 1)) a i (j - 1) := by
  obtain ⟨h1, h2⟩ := h
  have hv : ∀ p, p ≠ j → p ≠ j - 1 → swp f j (j - 1) p = f p := fun p a b => by unfold swp; rw [if_neg a, if_neg b]
  have hvj : swp f j (j - 1) j = f (j - 1) := by unfold swp; rw [if_pos rfl]
  have hvj1 : swp f j (j - 1) (j - 1) = f j := by unfold swp; rw [if_neg (by omega), if_pos rfl]
  refine ⟨fun p q a1 a2 a3 a4 a5 => ?_, fun q a1 a2 => ?_⟩
  · by_cases ep : p = j
    · subst ep
      rw [hvj]
      by_cases eq : q = p
      · subst eq; rw [hvj]; exact W.irrefl _
      · rw [hv q eq a5]; exact h1 (p - 1) q (by omega) (by omega) a3 (by omega) eq
    · rw [hv p ep a4]
      by_cases eq : q = j
      · subst eq; rw [hvj]; exact h1 p (q - 1) a1 (by omega) (by omega) ep (by omega)
      · rw [hv q eq a5]; exact h1 p q a1 a2 a3 ep eq
  · rw [hvj1]
    by_cases eq : q = j
    · subst eq; rw [hvj]; exact W.asymm _ _ hlt
    · rw [hv q eq (by omega)]; exact h2 q (by omega) a2
/-! ## Ranges exchanged, and rotated -/
theorem q_mono (W : SWeak lt) {a m b p c c' : Nat} (h1 : SortedOn lt f a m) (h2 : SortedOn lt f m b) (ha : a ≤ c) (hc : c ≤ c') (hm : c' < m) (hp : m + c' ≤ p) (hb : p < b + c) (hq : lt (f (p - c)) (f c) = true) : lt (f (p - c')) (f c') = true := by
  cases e : lt (f (p - c')) (f c')
  · have k1 := h1 c c' ha hc hm
    have k2 := h2 (p - c') (p - c) (by omega) (by omega) (by omega)
    have := W.trans _ _ _ (W.trans _ _ _ k1 e) k2
    rw [this] at hq
    cases hq
  · rfl
/-! ## A single element put in its place -/
/-- What stood at m has gone down to k. -/
def shr (f : Nat → α) (m k : Nat) : Nat → α := fun t => if k < t ∧ t ≤ m then f (t - 1) else if t = k then f m else f t
/-! ## Two parts in order, merged -/
/-- The place that the search of a merge finds. -/
structure SymAt (lt : α → α → Bool) (f : Nat → α) (a m b s : Nat) : Prop where
  lo : a ≤ s ∧ (a + b) / 2 + m ≤ b + s
  hi : s ≤ m ∧ s ≤ (a + b) / 2
  left : ∀ i j, a ≤ i → i < s → (a + b) / 2 + m - s ≤ j → j < b → lt (f j) (f i) = false
  right : ∀ i j, m ≤ i → i < (a + b) / 2 + m - s → s ≤ j → j < m → lt (f j) (f i) = false
/-- The search of a merge, under way. -/
structure SymIn (lt : α → α → Bool) (f : Nat → α) (a m b s r : Nat) : Prop where
  lo : (if (a + b) / 2 < m then (a + b) / 2 + m - b else a) ≤ s
  mid : s ≤ r
  hi : r ≤ (if (a + b) / 2 < m then (a + b) / 2 else m)
  left : ∀ c, (if (a + b) / 2 < m then (a + b) / 2 + m - b else a) ≤ c → c < s → lt (f ((a + b) / 2 + m - 1 - c)) (f c) = false
  right : ∀ c, r ≤ c → c < (if (a + b) / 2 < m then (a + b) / 2 else m) → lt (f ((a + b) / 2 + m - 1 - c)) (f c) = true
theorem SymIn.start {a m b : Nat} (ham : a < m) (hmb : m < b) : SymIn lt f a m b (if (a + b) / 2 < m then (a + b) / 2 + m - b else a) (if (a + b) / 2 < m then (a + b) / 2 else m) := by
  refine ⟨Nat.le_refl _, ?_, Nat.le_refl _, fun c x y => ?_, fun c x y => ?_⟩
  · split <;> omega
  · omega
  · omega
theorem SymIn.up (W : SWeak lt) {a m b s r : Nat} (ham : a < m) (hmb : m < b) (h1 : SortedOn lt f a m) (h2 : SortedOn lt f m b) (h : SymIn lt f a m b s r) (hsr : s < r) (hq : lt (f ((a + b) / 2 + m - 1 - (s + r) / 2)) (f ((s + r) / 2)) = false) : SymIn lt f a m b ((s + r) / 2 + 1) r := by
  obtain ⟨lo, _, hi, hl, hr⟩ := h
  refine ⟨by omega, by omega, hi, fun c x y => ?_, hr⟩
  cases e : lt (f ((a + b) / 2 + m - 1 - c)) (f c)
  · rfl
  · have := q_mono W (c' := (s + r) / 2) (p := (a + b) / 2 + m - 1) h1 h2 (by split at x <;> omega) (by omega) (by split at hi <;> omega) (by split at hi <;> omega) (by split at x <;> omega) e
    rw [this] at hq
    cases hq
end
end Go.Proofs.YthijagpnpcpcbaaGreat
namespace Go.Proofs.YthijagpnpcpcbaaGreat
open Go.RowKit

def ordI (a b : Int) : Int := if a < b then -1 else if b < a then 1 else 0
/-- The first that is not 0. -/
def orC (a b : Int) : Int := if a = 0 then b else a
def kC (a b : Int) : Int := if a = b then 0 else if a = 0 then 1 else if b = 0 then -1 else ordI a b
def cmpL : List UInt8 → List UInt8 → Int
  | [], [] => 0
  | [], _ :: _ => -1
  | _ :: _, [] => 1
  | x :: l, y :: r => orC (ordI x.toNat y.toNat) (cmpL l r)
def inSc (sc : Int) : Bool := decide (0 ≤ sc) && decide (sc ≤ 12)
/-- A decimal times 10^12; what has no scale is left as it is. -/
def mag (n sc : Int) : Int := if inSc sc = true then n * (10 : Int) ^ (12 - sc).toNat else n
def decC (n sc m sd : Int) : Int := orC (ordI (if inSc sc = true then 0 else 1) (if inSc sd = true then 0 else 1)) (ordI (mag n sc) (mag m sd))
/-- Values without their items. -/
def headC (a b : VP) : Int := orC (if a.k = 3 then decC a.n a.sc b.n b.sc else ordI a.n b.n) (orC (ordI a.sc b.sc) (cmpL a.s.data.toList b.s.data.toList))
mutual
def cmpV : VT → VT → Int
  | .node a l, .node b r => orC (kC a.k b.k) (if a.k = 0 then 0 else orC (headC a b) (cmpVs l r))
def cmpVs : List VT → List VT → Int
  | [], [] => 0
  | [], _ :: _ => -1
  | _ :: _, [] => 1
  | x :: l, y :: r => orC (cmpV x y) (cmpVs l r)
end
/-- One of -1, 0, 1. -/
def Sgn (a : Int) : Prop := a = -1 ∨ a = 0 ∨ a = 1
theorem Sgn.orC {a b : Int} (h : Sgn a) (h' : Sgn b) : Sgn (orC a b) := by unfold Sgn at *; unfold Go.Proofs.YthijagpnpcpcbaaGreat.orC; split <;> assumption
theorem Sgn.ord (a b : Int) : Sgn (ordI a b) := by
  unfold ordI Sgn
  split
  · omega
  · split <;> omega
theorem Sgn.kC (a b : Int) : Sgn (kC a b) := by
  unfold Go.Proofs.YthijagpnpcpcbaaGreat.kC
  split
  · exact .inr (.inl rfl)
  · split
    · exact .inr (.inr rfl)
    · split
      · exact .inl rfl
      · exact Sgn.ord _ _
theorem Sgn.cmpL : ∀ (l r : List UInt8), Sgn (cmpL l r)
  | [], [] => .inr (.inl rfl)
  | [], _ :: _ => .inl rfl
  | _ :: _, [] => .inr (.inr rfl)
  | _x :: l, _y :: r => (Sgn.ord _ _).orC (Sgn.cmpL l r)
theorem ord_neg (a b : Int) : ordI b a = -ordI a b := by unfold ordI; split <;> split <;> (try split) <;> omega
/-- What a comparison of three says. -/
def Tr3 (a b c : Int) : Prop := (a ≤ 0 → b ≤ 0 → c ≤ 0) ∧ (a < 0 → b ≤ 0 → c < 0) ∧ (a ≤ 0 → b < 0 → c < 0) ∧ (a = 0 → b = 0 → c = 0)
theorem Tr3.or {a b c a' b' c' : Int} (h : Tr3 a b c) (h' : a = 0 → b = 0 → Tr3 a' b' c') : Tr3 (orC a a') (orC b b') (orC c c') := by
  obtain ⟨h1, h2, h3, h4⟩ := h
  unfold orC
  by_cases ha : a = 0
  · by_cases hb : b = 0
    · obtain ⟨k1, k2, k3, k4⟩ := h' ha hb
      rw [if_pos ha, if_pos hb, if_pos (h4 ha hb)]
      exact ⟨k1, k2, k3, k4⟩
    · rw [if_pos ha, if_neg hb]
      refine ⟨fun x y => ?_, fun x y => ?_, fun x y => ?_, fun x y => ?_⟩
      · have := h3 (by omega) (by omega); rw [if_neg (by omega)]; omega
      · have := h3 (by omega) (by omega); rw [if_neg (by omega)]; omega
      · have := h3 (by omega) (by omega); rw [if_neg (by omega)]; omega
      · omega
  · rw [if_neg ha]
    refine ⟨fun x y => ?_, fun x y => ?_, fun x y => ?_, fun x y => ?_⟩
    · have : b ≤ 0 := by split at y <;> omega
      have := h2 (by omega) this; rw [if_neg (by omega)]; omega
    · have : b ≤ 0 := by split at y <;> omega
      have := h2 (by omega) this; rw [if_neg (by omega)]; omega
    · have : b ≤ 0 := by split at y <;> omega
      have := h2 (by omega) this; rw [if_neg (by omega)]; omega
    · omega
theorem Tr3.ord (a b c : Int) : Tr3 (ordI a b) (ordI b c) (ordI a c) := by
  unfold Tr3 ordI
  by_cases h1 : a < b <;> by_cases h2 : b < a <;> by_cases h3 : b < c <;> by_cases h4 : c < b <;> by_cases h5 : a < c <;> by_cases h6 : c < a <;> simp [h1, h2, h3, h4, h5, h6] <;> omega
theorem Tr3.kC (a b c : Int) : Tr3 (kC a b) (kC b c) (kC a c) := by
  unfold Tr3 Go.Proofs.YthijagpnpcpcbaaGreat.kC ordI
  by_cases e1 : a = b
  · subst e1
    rw [if_pos rfl]
    refine ⟨fun _ h => h, fun h => by omega, fun _ h => h, fun _ h => h⟩
  · by_cases e2 : b = c
    · subst e2
      rw [if_pos rfl]
      refine ⟨fun h _ => h, fun h _ => h, fun _ h => by omega, fun h _ => h⟩
    · rw [if_neg e1, if_neg e2]
      by_cases e3 : a = c
      · subst e3
        rw [if_pos rfl]
        by_cases a0 : a = 0 <;> by_cases b0 : b = 0 <;> by_cases h : a < b <;> by_cases h' : b < a <;> simp [a0, b0, h, h'] <;> omega
      · rw [if_neg e3]
        by_cases a0 : a = 0 <;> by_cases b0 : b = 0 <;> by_cases c0 : c = 0 <;> by_cases h1 : a < b <;> by_cases h2 : b < a <;> by_cases h3 : b < c <;> by_cases h4 : c < b <;> by_cases h5 : a < c <;> by_cases h6 : c < a <;> simp [a0, b0, c0, h1, h2, h3, h4, h5, h6] <;> omega
theorem Tr3.cmpL : ∀ (l r m : List UInt8), Tr3 (cmpL l r) (cmpL r m) (cmpL l m)
  | [], [], [] => by simp [Go.Proofs.YthijagpnpcpcbaaGreat.cmpL, Tr3]
  | [], [], _ :: _ => by simp [Go.Proofs.YthijagpnpcpcbaaGreat.cmpL, Tr3]
  | [], _ :: _, [] => by simp [Go.Proofs.YthijagpnpcpcbaaGreat.cmpL, Tr3]
  | [], y :: r, z :: m => by simp only [Go.Proofs.YthijagpnpcpcbaaGreat.cmpL, Tr3]; omega
  | _ :: _, [], [] => by simp [Go.Proofs.YthijagpnpcpcbaaGreat.cmpL, Tr3]
  | _ :: _, [], _ :: _ => by simp [Go.Proofs.YthijagpnpcpcbaaGreat.cmpL, Tr3]
  | _ :: _, _ :: _, [] => by simp [Go.Proofs.YthijagpnpcpcbaaGreat.cmpL, Tr3]
  | x :: l, y :: r, z :: m => by simp only [Go.Proofs.YthijagpnpcpcbaaGreat.cmpL]; exact (Tr3.ord _ _ _).or fun _ _ => Tr3.cmpL l r m
end Go.Proofs.YthijagpnpcpcbaaGreat

