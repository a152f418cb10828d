/-
  The order of values, as plain functions. No program stands here.
-/
import Derived.Test.YtcdaipkkddgbeaaQData3
import Derived.Test.YtcdaipkkddgbeaaQSoA
namespace Go.Proofs.Ytcdaipkkddgbeaa
open Go.RowKit

def ordI (a b : Int) : Int := if a < b then -1 else if b < a then 1 else 0
/-- The first that is not 0. -/
def orC (a b : Int) : Int := if a = 0 then b else a
def kC (a b : Int) : Int := if a = b then 0 else if a = 0 then 1 else if b = 0 then -1 else ordI a b
def cmpL : List UInt8 → List UInt8 → Int
  | [], [] => 0
  | [], _ :: _ => -1
  | _ :: _, [] => 1
  | x :: l, y :: r => orC (ordI x.toNat y.toNat) (cmpL l r)
def inSc (sc : Int) : Bool := decide (0 ≤ sc) && decide (sc ≤ 12)
/-- A decimal times 10^12; what has no scale is left as it is. -/
def mag (n sc : Int) : Int := if inSc sc = true then n * (10 : Int) ^ (12 - sc).toNat else n
def decC (n sc m sd : Int) : Int := orC (ordI (if inSc sc = true then 0 else 1) (if inSc sd = true then 0 else 1)) (ordI (mag n sc) (mag m sd))
/-- Values without their items. -/
def headC (a b : VP) : Int := orC (if a.k = 3 then decC a.n a.sc b.n b.sc else ordI a.n b.n) (orC (ordI a.sc b.sc) (cmpL a.s.data.toList b.s.data.toList))
mutual
def cmpV : VT → VT → Int
  | .node a l, .node b r => orC (kC a.k b.k) (if a.k = 0 then 0 else orC (headC a b) (cmpVs l r))
def cmpVs : List VT → List VT → Int
  | [], [] => 0
  | [], _ :: _ => -1
  | _ :: _, [] => 1
  | x :: l, y :: r => orC (cmpV x y) (cmpVs l r)
end
/-- One of -1, 0, 1. -/
def Sgn (a : Int) : Prop := a = -1 ∨ a = 0 ∨ a = 1
theorem Sgn.orC {a b : Int} (h : Sgn a) (h' : Sgn b) : Sgn (orC a b) := by unfold Sgn at *; unfold Go.Proofs.Ytcdaipkkddgbeaa.orC; split <;> assumption
theorem Sgn.ord (a b : Int) : Sgn (ordI a b) := by
  unfold ordI Sgn
  split
  · omega
  · split <;> omega
theorem Sgn.kC (a b : Int) : Sgn (kC a b) := by
  unfold Go.Proofs.Ytcdaipkkddgbeaa.kC
  split
  · exact .inr (.inl rfl)
  · split
    · exact .inr (.inr rfl)
    · split
      · exact .inl rfl
      · exact Sgn.ord _ _
theorem Sgn.cmpL : ∀ (l r : List UInt8), Sgn (cmpL l r)
  | [], [] => .inr (.inl rfl)
  | [], _ :: _ => .inl rfl
  | _ :: _, [] => .inr (.inr rfl)
  | _x :: l, _y :: r => (Sgn.ord _ _).orC (Sgn.cmpL l r)
theorem Sgn.head (a b : VP) : Sgn (headC a b) := by
  unfold headC
  refine Sgn.orC ?_ ((Sgn.ord _ _).orC (Sgn.cmpL _ _))
  split
  · exact (Sgn.ord _ _).orC (Sgn.ord _ _)
  · exact Sgn.ord _ _
theorem cmpVs_sgn : ∀ (l r : List VT), (∀ x, x ∈ l → ∀ y, Sgn (cmpV x y)) → Sgn (cmpVs l r)
  | [], [], _ => by unfold cmpVs; exact .inr (.inl rfl)
  | [], _ :: _, _ => by unfold cmpVs; exact .inl rfl
  | _ :: _, [], _ => by unfold cmpVs; exact .inr (.inr rfl)
  | x :: l, y :: r, h => by
    unfold cmpVs
    exact (h x (by simp) y).orC (cmpVs_sgn l r fun z hz => h z (by simp [hz]))
theorem cmpV_sgn : ∀ (x y : VT), Sgn (cmpV x y) := by
  refine VT.ind fun a l ih y => ?_
  obtain ⟨b, r⟩ := y
  unfold cmpV
  refine (Sgn.kC _ _).orC ?_
  split
  · exact .inr (.inl rfl)
  · exact (Sgn.head _ _).orC (cmpVs_sgn l r ih)
theorem orC_neg (a b : Int) : orC (-a) (-b) = -orC a b := by unfold orC; split <;> split <;> omega
theorem ord_neg (a b : Int) : ordI b a = -ordI a b := by unfold ordI; split <;> split <;> (try split) <;> omega
theorem kC_neg (a b : Int) : kC b a = -kC a b := by
  unfold kC
  by_cases h : a = b
  · rw [if_pos h, if_pos h.symm]; rfl
  · rw [if_neg h, if_neg (fun e => h e.symm)]
    by_cases h0 : a = 0
    · rw [if_pos h0, if_neg (by omega), if_pos h0]
    · by_cases h1 : b = 0
      · rw [if_pos h1, if_neg h0, if_pos h1]; rfl
      · rw [if_neg h1, if_neg h0, if_neg h0, if_neg h1]; exact ord_neg _ _
theorem cmpL_neg : ∀ (l r : List UInt8), cmpL r l = -cmpL l r
  | [], [] => rfl
  | [], _ :: _ => rfl
  | _ :: _, [] => rfl
  | x :: l, y :: r => by simp only [cmpL]; rw [ord_neg (x.toNat : Int), cmpL_neg l r, orC_neg]
theorem head_neg {a b : VP} (h : a.k = b.k) : headC b a = -headC a b := by
  unfold headC decC
  rw [← h]
  split
  · rw [ord_neg (if inSc a.sc = true then 0 else 1), ord_neg (mag a.n a.sc), orC_neg, ord_neg a.sc, cmpL_neg a.s.data.toList, orC_neg, orC_neg]
  · rw [ord_neg a.n, ord_neg a.sc, cmpL_neg a.s.data.toList, orC_neg, orC_neg]
theorem cmpVs_neg : ∀ (l r : List VT), (∀ x, x ∈ l → ∀ y, cmpV y x = -cmpV x y) → cmpVs r l = -cmpVs l r
  | [], [], _ => by unfold cmpVs; rfl
  | [], _ :: _, _ => by unfold cmpVs; rfl
  | _ :: _, [], _ => by unfold cmpVs; rfl
  | x :: l, y :: r, h => by
    simp only [cmpVs]
    rw [h x (by simp) y, cmpVs_neg l r fun z hz => h z (by simp [hz]), orC_neg]
theorem kC_zero {a b : Int} (h : kC a b = 0) : a = b := by
  unfold kC at h
  split at h
  · assumption
  · split at h
    · cases h
    · split at h
      · cases h
      · unfold ordI at h
        split at h
        · cases h
        · split at h
          · cases h
          · omega
theorem cmpV_neg : ∀ (x y : VT), cmpV y x = -cmpV x y := by
  refine VT.ind fun a l ih y => ?_
  obtain ⟨b, r⟩ := y
  unfold cmpV
  rw [kC_neg a.k b.k]
  by_cases hk : kC a.k b.k = 0
  · have e := kC_zero hk
    rw [← e]
    split
    · unfold orC; split <;> split <;> omega
    · rw [head_neg e, cmpVs_neg l r ih, orC_neg, orC_neg]
  · unfold orC
    rw [if_neg (by omega), if_neg hk]
/-- What a comparison of three says. -/
def Tr3 (a b c : Int) : Prop := (a ≤ 0 → b ≤ 0 → c ≤ 0) ∧ (a < 0 → b ≤ 0 → c < 0) ∧ (a ≤ 0 → b < 0 → c < 0) ∧ (a = 0 → b = 0 → c = 0)
theorem Tr3.or {a b c a' b' c' : Int} (h : Tr3 a b c) (h' : a = 0 → b = 0 → Tr3 a' b' c') : Tr3 (orC a a') (orC b b') (orC c c') := by
  obtain ⟨h1, h2, h3, h4⟩ := h
  unfold orC
  by_cases ha : a = 0
  · by_cases hb : b = 0
    · obtain ⟨k1, k2, k3, k4⟩ := h' ha hb
      rw [if_pos ha, if_pos hb, if_pos (h4 ha hb)]
      exact ⟨k1, k2, k3, k4⟩
    · rw [if_pos ha, if_neg hb]
      refine ⟨fun x y => ?_, fun x y => ?_, fun x y => ?_, fun x y => ?_⟩
      · have := h3 (by omega) (by omega); rw [if_neg (by omega)]; omega
      · have := h3 (by omega) (by omega); rw [if_neg (by omega)]; omega
      · have := h3 (by omega) (by omega); rw [if_neg (by omega)]; omega
      · omega
  · rw [if_neg ha]
    refine ⟨fun x y => ?_, fun x y => ?_, fun x y => ?_, fun x y => ?_⟩
    · have : b ≤ 0 := by split at y <;> omega
      have := h2 (by omega) this; rw [if_neg (by omega)]; omega
    · have : b ≤ 0 := by split at y <;> omega
      have := h2 (by omega) this; rw [if_neg (by omega)]; omega
    · have : b ≤ 0 := by split at y <;> omega
      have := h2 (by omega) this; rw [if_neg (by omega)]; omega
    · omega
theorem Tr3.ord (a b c : Int) : Tr3 (ordI a b) (ordI b c) (ordI a c) := by
  unfold Tr3 ordI
  by_cases h1 : a < b <;> by_cases h2 : b < a <;> by_cases h3 : b < c <;> by_cases h4 : c < b <;> by_cases h5 : a < c <;> by_cases h6 : c < a <;> simp [h1, h2, h3, h4, h5, h6] <;> omega
theorem Tr3.kC (a b c : Int) : Tr3 (kC a b) (kC b c) (kC a c) := by
  unfold Tr3 Go.Proofs.Ytcdaipkkddgbeaa.kC ordI
  by_cases e1 : a = b
  · subst e1
    rw [if_pos rfl]
    refine ⟨fun _ h => h, fun h => by omega, fun _ h => h, fun _ h => h⟩
  · by_cases e2 : b = c
    · subst e2
      rw [if_pos rfl]
      refine ⟨fun h _ => h, fun h _ => h, fun _ h => by omega, fun h _ => h⟩
    · rw [if_neg e1, if_neg e2]
      by_cases e3 : a = c
      · subst e3
        rw [if_pos rfl]
        by_cases a0 : a = 0 <;> by_cases b0 : b = 0 <;> by_cases h : a < b <;> by_cases h' : b < a <;> simp [a0, b0, h, h'] <;> omega
      · rw [if_neg e3]
        by_cases a0 : a = 0 <;> by_cases b0 : b = 0 <;> by_cases c0 : c = 0 <;> by_cases h1 : a < b <;> by_cases h2 : b < a <;> by_cases h3 : b < c <;> by_cases h4 : c < b <;> by_cases h5 : a < c <;> by_cases h6 : c < a <;> simp [a0, b0, c0, h1, h2, h3, h4, h5, h6] <;> omega
theorem Tr3.cmpL : ∀ (l r m : List UInt8), Tr3 (cmpL l r) (cmpL r m) (cmpL l m)
  | [], [], [] => by simp [Go.Proofs.Ytcdaipkkddgbeaa.cmpL, Tr3]
  | [], [], _ :: _ => by simp [Go.Proofs.Ytcdaipkkddgbeaa.cmpL, Tr3]
  | [], _ :: _, [] => by simp [Go.Proofs.Ytcdaipkkddgbeaa.cmpL, Tr3]
  | [], y :: r, z :: m => by simp only [Go.Proofs.Ytcdaipkkddgbeaa.cmpL, Tr3]; omega
  | _ :: _, [], [] => by simp [Go.Proofs.Ytcdaipkkddgbeaa.cmpL, Tr3]
  | _ :: _, [], _ :: _ => by simp [Go.Proofs.Ytcdaipkkddgbeaa.cmpL, Tr3]
  | _ :: _, _ :: _, [] => by simp [Go.Proofs.Ytcdaipkkddgbeaa.cmpL, Tr3]
  | x :: l, y :: r, z :: m => by simp only [Go.Proofs.Ytcdaipkkddgbeaa.cmpL]; exact (Tr3.ord _ _ _).or fun _ _ => Tr3.cmpL l r m
theorem Tr3.head {a b c : VP} (h : a.k = b.k) : Tr3 (headC a b) (headC b c) (headC a c) := by
  unfold headC decC
  rw [← h]
  refine Tr3.or ?_ fun _ _ => (Tr3.ord _ _ _).or fun _ _ => Tr3.cmpL _ _ _
  split
  · exact (Tr3.ord _ _ _).or fun _ _ => Tr3.ord _ _ _
  · exact Tr3.ord _ _ _
theorem cmpVs_tr : ∀ (l r m : List VT), (∀ x, x ∈ l → ∀ y z, Tr3 (cmpV x y) (cmpV y z) (cmpV x z)) → Tr3 (cmpVs l r) (cmpVs r m) (cmpVs l m)
  | [], [], [], _ => by simp [cmpVs, Tr3]
  | [], [], _ :: _, _ => by simp [cmpVs, Tr3]
  | [], _ :: _, [], _ => by simp [cmpVs, Tr3]
  | [], y :: r, z :: m, _ => by simp only [cmpVs, Tr3]; omega
  | _ :: _, [], [], _ => by simp [cmpVs, Tr3]
  | _ :: _, [], _ :: _, _ => by simp [cmpVs, Tr3]
  | _ :: _, _ :: _, [], _ => by simp [cmpVs, Tr3]
  | x :: l, y :: r, z :: m, h => by
    simp only [cmpVs]
    exact (h x (by simp) y z).or fun _ _ => cmpVs_tr l r m fun u hu => h u (by simp [hu])
theorem cmpV_tr : ∀ (x y z : VT), Tr3 (cmpV x y) (cmpV y z) (cmpV x z) := by
  refine VT.ind fun a l ih y z => ?_
  obtain ⟨b, r⟩ := y
  obtain ⟨c, m⟩ := z
  unfold cmpV
  refine (Tr3.kC _ _ _).or fun h1 h2 => ?_
  have e1 := kC_zero h1
  have e2 := kC_zero h2
  rw [← e1]
  split
  · exact ⟨fun _ _ => Int.le_refl _, fun h => by omega, fun _ h => by omega, fun _ _ => rfl⟩
  · exact (Tr3.head e1).or fun _ _ => cmpVs_tr l r m ih
/-- Rows: of a row only its values are looked at. -/
def cmpR (a b : VT) : Int := cmpVs a.l b.l
def ltR (a b : VT) : Bool := decide (cmpR a b < 0)
theorem cmpR_neg (a b : VT) : cmpR b a = -cmpR a b := cmpVs_neg a.l b.l fun x _ y => cmpV_neg x y
theorem cmpR_tr (a b c : VT) : Tr3 (cmpR a b) (cmpR b c) (cmpR a c) := cmpVs_tr a.l b.l c.l fun x _ y z => cmpV_tr x y z
theorem cmpR_sgn (a b : VT) : Sgn (cmpR a b) := cmpVs_sgn a.l b.l fun x _ y => cmpV_sgn x y
theorem ltR_weak : SWeak ltR := by
  refine ⟨fun x y h => ?_, fun x y z h1 h2 => ?_⟩
  · unfold ltR at *
    rw [decide_eq_true_eq] at h
    rw [decide_eq_false_iff_not, cmpR_neg x y]
    omega
  · unfold ltR at *
    rw [decide_eq_false_iff_not] at *
    have t := (cmpR_tr x y z).1
    rw [cmpR_neg x y] at h1
    rw [cmpR_neg y z] at h2
    rw [cmpR_neg x z]
    have := t (by omega) (by omega)
    omega
end Go.Proofs.Ytcdaipkkddgbeaa
