/-
  Values and types that are the same but for where they lie. No program stands here.
-/
import Derived.Test.YtcdaipkkddgbeaaQData3
namespace Go.Proofs.Ytcdaipkkddgbeaa
open Go.RowKit
inductive VT.Sm : VT → VT → Prop
  | mk (a b : VP) (l m : List VT) (hk : a.k = b.k) (hn : a.n = b.n) (hsc : a.sc = b.sc) (hs : a.s = b.s) (hl : l.length = m.length) (hx : ∀ (i : Nat) x y, l[i]? = some x → m[i]? = some y → VT.Sm x y) : VT.Sm (.node a l) (.node b m)
theorem VT.Sm.inv {a b : VP} {l m : List VT} (h : VT.Sm (.node a l) (.node b m)) : a.k = b.k ∧ a.n = b.n ∧ a.sc = b.sc ∧ a.s = b.s ∧ l.length = m.length ∧ ∀ (i : Nat) x y, l[i]? = some x → m[i]? = some y → VT.Sm x y := by
  cases h
  exact ⟨by assumption, by assumption, by assumption, by assumption, by assumption, by assumption⟩
/-- Lists of such values. -/
def SmL (l m : List VT) : Prop := l.length = m.length ∧ ∀ (i : Nat) x y, l[i]? = some x → m[i]? = some y → VT.Sm x y
theorem SmL.tail {x y : VT} {l m : List VT} (h : SmL (x :: l) (y :: m)) : VT.Sm x y ∧ SmL l m :=
  ⟨h.2 0 x y rfl rfl, by have := h.1; simpa using this, fun i a b ha hb => h.2 (i + 1) a b (by simpa using ha) (by simpa using hb)⟩
theorem VT.Sm.refl : ∀ v : VT, VT.Sm v v := by
  refine VT.ind fun a l ih => .mk a a l l rfl rfl rfl rfl rfl fun i x y hx hy => ?_
  rw [hx] at hy
  cases hy
  exact ih x (mem_of_get? hx)
theorem VT.Sm.symm : ∀ {v u : VT}, VT.Sm v u → VT.Sm u v := by
  intro v
  induction v using VT.ind with
  | h a l ih =>
    intro u h
    obtain ⟨b, m⟩ := u
    obtain ⟨h1, h2, h3, h4, h5, h6⟩ := h.inv
    exact .mk b a m l h1.symm h2.symm h3.symm h4.symm h5.symm fun i x y hx hy => ih y (mem_of_get? hy) (h6 i y x hy hx)
theorem VT.Sm.trans : ∀ {v u t : VT}, VT.Sm v u → VT.Sm u t → VT.Sm v t := by
  intro v
  induction v using VT.ind with
  | h a l ih =>
    intro u t h h'
    obtain ⟨b, m⟩ := u
    obtain ⟨c, n⟩ := t
    obtain ⟨h1, h2, h3, h4, h5, h6⟩ := h.inv
    obtain ⟨k1, k2, k3, k4, k5, k6⟩ := h'.inv
    refine .mk a c l n (h1.trans k1) (h2.trans k2) (h3.trans k3) (h4.trans k4) (h5.trans k5) fun i x y hx hy => ?_
    have hi : i < m.length := by rw [k5]; exact (List.getElem?_eq_some_iff.1 hy).1
    exact ih x (mem_of_get? hx) (h6 i x m[i] hx (List.getElem?_eq_getElem hi)) (k6 i m[i] y (List.getElem?_eq_getElem hi) hy)
/-! ## Types -/
inductive FT.Sm : FT → FT → Prop
  | mk (a b : FP) (l m : List FT) (hk : a.k = b.k) (hsc : a.sc = b.sc) (hl : l.length = m.length) (hf : ∀ (i : Nat) x y, l[i]? = some x → m[i]? = some y → x.a.id = y.a.id ∧ x.a.nm = y.a.nm ∧ x.a.nd = y.a.nd)
      (hx : ∀ (i : Nat) x y, l[i]? = some x → m[i]? = some y → FT.Sm x y) : FT.Sm (.node a l) (.node b m)
theorem FT.Sm.inv {a b : FP} {l m : List FT} (h : FT.Sm (.node a l) (.node b m)) : a.k = b.k ∧ a.sc = b.sc ∧ l.length = m.length ∧ (∀ (i : Nat) x y, l[i]? = some x → m[i]? = some y → x.a.id = y.a.id ∧ x.a.nm = y.a.nm ∧ x.a.nd = y.a.nd) ∧ ∀ (i : Nat) x y, l[i]? = some x → m[i]? = some y → FT.Sm x y := by
  cases h
  exact ⟨by assumption, by assumption, by assumption, by assumption, by assumption⟩
/-- Lists of such fields. -/
def SmF (l m : List FT) : Prop := l.length = m.length ∧ (∀ (i : Nat) x y, l[i]? = some x → m[i]? = some y → x.a.id = y.a.id ∧ x.a.nm = y.a.nm ∧ x.a.nd = y.a.nd) ∧ ∀ (i : Nat) x y, l[i]? = some x → m[i]? = some y → FT.Sm x y
theorem SmF.tail {x y : FT} {l m : List FT} (h : SmF (x :: l) (y :: m)) : (x.a.id = y.a.id ∧ x.a.nm = y.a.nm ∧ x.a.nd = y.a.nd) ∧ FT.Sm x y ∧ SmF l m :=
  ⟨h.2.1 0 x y rfl rfl, h.2.2 0 x y rfl rfl, by have := h.1; simpa using this, fun i a b ha hb => h.2.1 (i + 1) a b (by simpa using ha) (by simpa using hb), fun i a b ha hb => h.2.2 (i + 1) a b (by simpa using ha) (by simpa using hb)⟩
theorem SmF.at {l m : List FT} (h : SmF l m) (i : Nat) : (l[i]? = none ∧ m[i]? = none) ∨ ∃ x y, l[i]? = some x ∧ m[i]? = some y ∧ (x.a.id = y.a.id ∧ x.a.nm = y.a.nm ∧ x.a.nd = y.a.nd) ∧ FT.Sm x y := by
  by_cases hi : i < l.length
  · have hm : i < m.length := by rw [← h.1]; exact hi
    have e1 := List.getElem?_eq_getElem hi
    have e2 := List.getElem?_eq_getElem hm
    exact .inr ⟨l[i], m[i], e1, e2, h.2.1 i _ _ e1 e2, h.2.2 i _ _ e1 e2⟩
  · exact .inl ⟨List.getElem?_eq_none (by omega), List.getElem?_eq_none (by have := h.1; omega)⟩
end Go.Proofs.Ytcdaipkkddgbeaa
