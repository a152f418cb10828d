/-
  Values and types that are the same but for where they lie; what is checked is the same for them. No program stands here.
-/
import Derived.Test.YtcpbbagppkcilaaDoorQRefK
import Derived.Test.YtcpbbagppkcilaaDoorQMeanB
namespace Go.Proofs.YtcpbbagppkcilaaDoor
open Go.RowKit
inductive VT.Sm : VT → VT → Prop
  | mk (a b : VP) (l m : List VT) (hk : a.k = b.k) (hn : a.n = b.n) (hsc : a.sc = b.sc) (hs : a.s = b.s) (hl : l.length = m.length) (hx : ∀ (i : Nat) x y, l[i]? = some x → m[i]? = some y → VT.Sm x y) : VT.Sm (.node a l) (.node b m)
theorem VT.Sm.inv {a b : VP} {l m : List VT} (h : VT.Sm (.node a l) (.node b m)) : a.k = b.k ∧ a.n = b.n ∧ a.sc = b.sc ∧ a.s = b.s ∧ l.length = m.length ∧ ∀ (i : Nat) x y, l[i]? = some x → m[i]? = some y → VT.Sm x y := by
  cases h
  exact ⟨by assumption, by assumption, by assumption, by assumption, by assumption, by assumption⟩
/-- Lists of such values. -/
def SmL (l m : List VT) : Prop := l.length = m.length ∧ ∀ (i : Nat) x y, l[i]? = some x → m[i]? = some y → VT.Sm x y
theorem SmL.tail {x y : VT} {l m : List VT} (h : SmL (x :: l) (y :: m)) : VT.Sm x y ∧ SmL l m :=
  ⟨h.2 0 x y rfl rfl, by have := h.1; simpa using this, fun i a b ha hb => h.2 (i + 1) a b (by simpa using ha) (by simpa using hb)⟩
theorem VT.Sm.refl : ∀ v : VT, VT.Sm v v := by
  refine VT.ind fun a l ih => .mk a a l l rfl rfl rfl rfl rfl fun i x y hx hy => ?_
  rw [hx] at hy
  cases hy
  exact ih x (mem_of_get? hx)
theorem VT.Sm.symm : ∀ {v u : VT}, VT.Sm v u → VT.Sm u v := by
  intro v
  induction v using VT.ind with
  | h a l ih =>
    intro u h
    obtain ⟨b, m⟩ := u
    obtain ⟨h1, h2, h3, h4, h5, h6⟩ := h.inv
    exact .mk b a m l h1.symm h2.symm h3.symm h4.symm h5.symm fun i x y hx hy => ih y (mem_of_get? hy) (h6 i y x hy hx)
theorem VT.Sm.trans : ∀ {v u t : VT}, VT.Sm v u → VT.Sm u t → VT.Sm v t := by
  intro v
  induction v using VT.ind with
  | h a l ih =>
    intro u t h h'
    obtain ⟨b, m⟩ := u
    obtain ⟨c, n⟩ := t
    obtain ⟨h1, h2, h3, h4, h5, h6⟩ := h.inv
    obtain ⟨k1, k2, k3, k4, k5, k6⟩ := h'.inv
    refine .mk a c l n (h1.trans k1) (h2.trans k2) (h3.trans k3) (h4.trans k4) (h5.trans k5) fun i x y hx hy => ?_
    have hi : i < m.length := by rw [k5]; exact (List.getElem?_eq_some_iff.1 hy).1
    exact ih x (mem_of_get? hx) (h6 i x m[i] hx (List.getElem?_eq_getElem hi)) (k6 i m[i] y (List.getElem?_eq_getElem hi) hy)
theorem sdVs_sm {l m : List VT} (h : SmL l m) (ih : ∀ x, x ∈ l → ∀ y, VT.Sm x y → ∀ lv c, sdV lv c x = sdV lv c y) : ∀ lv c, sdVs lv c l = sdVs lv c m := by
  induction l generalizing m with
  | nil =>
    cases m with
    | nil => intro lv c; rfl
    | cons y m => exact absurd h.1 (by simp)
  | cons x l ihl =>
    cases m with
    | nil => exact absurd h.1 (by simp)
    | cons y m =>
      intro lv c
      obtain ⟨hxy, hlm⟩ := h.tail
      rw [sdVs, sdVs, ih x (by simp) y hxy lv c, ihl hlm (fun z hz => ih z (by simp [hz]))]
theorem sdV_sm : ∀ x y : VT, VT.Sm x y → ∀ lv c, sdV lv c x = sdV lv c y := by
  refine VT.ind fun a l ih y h lv c => ?_
  obtain ⟨b, m⟩ := y
  obtain ⟨h1, h2, h3, h4, h5, h6⟩ := h.inv
  rw [sdV, sdV, h1, h2, h3, h4, h5, sdVs_sm ⟨h5, h6⟩ (fun x hx y hy lv c => ih x hx y hy lv c)]
/-! ## Types -/
inductive FT.Sm : FT → FT → Prop
  | mk (a b : FP) (l m : List FT) (hk : a.k = b.k) (hsc : a.sc = b.sc) (hl : l.length = m.length) (hf : ∀ (i : Nat) x y, l[i]? = some x → m[i]? = some y → x.a.id = y.a.id ∧ x.a.nm = y.a.nm ∧ x.a.nd = y.a.nd)
      (hx : ∀ (i : Nat) x y, l[i]? = some x → m[i]? = some y → FT.Sm x y) : FT.Sm (.node a l) (.node b m)
theorem FT.Sm.inv {a b : FP} {l m : List FT} (h : FT.Sm (.node a l) (.node b m)) : a.k = b.k ∧ a.sc = b.sc ∧ l.length = m.length ∧ (∀ (i : Nat) x y, l[i]? = some x → m[i]? = some y → x.a.id = y.a.id ∧ x.a.nm = y.a.nm ∧ x.a.nd = y.a.nd) ∧ ∀ (i : Nat) x y, l[i]? = some x → m[i]? = some y → FT.Sm x y := by
  cases h
  exact ⟨by assumption, by assumption, by assumption, by assumption, by assumption⟩
/-- Lists of such fields. -/
def SmF (l m : List FT) : Prop := l.length = m.length ∧ (∀ (i : Nat) x y, l[i]? = some x → m[i]? = some y → x.a.id = y.a.id ∧ x.a.nm = y.a.nm ∧ x.a.nd = y.a.nd) ∧ ∀ (i : Nat) x y, l[i]? = some x → m[i]? = some y → FT.Sm x y
theorem SmF.tail {x y : FT} {l m : List FT} (h : SmF (x :: l) (y :: m)) : (x.a.id = y.a.id ∧ x.a.nm = y.a.nm ∧ x.a.nd = y.a.nd) ∧ FT.Sm x y ∧ SmF l m :=
  ⟨h.2.1 0 x y rfl rfl, h.2.2 0 x y rfl rfl, by have := h.1; simpa using this, fun i a b ha hb => h.2.1 (i + 1) a b (by simpa using ha) (by simpa using hb), fun i a b ha hb => h.2.2 (i + 1) a b (by simpa using ha) (by simpa using hb)⟩
theorem SmF.at {l m : List FT} (h : SmF l m) (i : Nat) : (l[i]? = none ∧ m[i]? = none) ∨ ∃ x y, l[i]? = some x ∧ m[i]? = some y ∧ (x.a.id = y.a.id ∧ x.a.nm = y.a.nm ∧ x.a.nd = y.a.nd) ∧ FT.Sm x y := by
  by_cases hi : i < l.length
  · have hm : i < m.length := by rw [← h.1]; exact hi
    have e1 := List.getElem?_eq_getElem hi
    have e2 := List.getElem?_eq_getElem hm
    exact .inr ⟨l[i], m[i], e1, e2, h.2.1 i _ _ e1 e2, h.2.2 i _ _ e1 e2⟩
  · exact .inl ⟨List.getElem?_eq_none (by omega), List.getElem?_eq_none (by have := h.1; omega)⟩
theorem SmF.nmAt {l m : List FT} (h : SmF l m) (i : Nat) : nmAt l i = nmAt m i := by
  unfold Go.Proofs.YtcpbbagppkcilaaDoor.nmAt
  rcases h.at i with ⟨h1, h2⟩ | ⟨x, y, h1, h2, ⟨_, h3, _⟩, _⟩
  · rw [h1, h2]
  · rw [h1, h2]; exact h3
theorem shapeS_sm {l m : List FT} (h : SmF l m) (k sc : Int) : shapeS k sc l = shapeS k sc m := by
  have hn : Go.Proofs.YtcpbbagppkcilaaDoor.nmAt l = Go.Proofs.YtcpbbagppkcilaaDoor.nmAt m := funext fun i => h.nmAt i
  unfold shapeS namesB twiceB
  rw [h.1, hn]
theorem ckTs_sm {l m : List FT} (h : SmF l m) (ih : ∀ x, x ∈ l → ∀ y, FT.Sm x y → ∀ lv c, ckT lv c x = ckT lv c y) : ∀ lv c, ckTs lv c l = ckTs lv c m := by
  induction l generalizing m with
  | nil =>
    cases m with
    | nil => intro lv c; rfl
    | cons y m => exact absurd h.1 (by simp)
  | cons x l ihl =>
    cases m with
    | nil => exact absurd h.1 (by simp)
    | cons y m =>
      intro lv c
      obtain ⟨_, hxy, hlm⟩ := h.tail
      rw [ckTs, ckTs, ih x (by simp) y hxy lv c, ihl hlm (fun z hz => ih z (by simp [hz]))]
theorem ckT_sm : ∀ x y : FT, FT.Sm x y → ∀ lv c, ckT lv c x = ckT lv c y := by
  refine FT.ind fun a l ih y h lv c => ?_
  obtain ⟨b, m⟩ := y
  obtain ⟨h1, h2, h3, h4, h5⟩ := h.inv
  rw [ckT, ckT, h1, h2, shapeS_sm ⟨h3, h4, h5⟩, ckTs_sm ⟨h3, h4, h5⟩ (fun x hx y hy lv c => ih x hx y hy lv c)]
theorem ctS_sm {x y : FT} (h : FT.Sm x y) : ctS x = ctS y := by unfold ctS; rw [ckT_sm x y h]
theorem plTs_sm {l m : List FT} (h : SmF l m) (ih : ∀ x, x ∈ l → ∀ y, FT.Sm x y → plT x = plT y) : plTs l = plTs m := by
  induction l generalizing m with
  | nil =>
    cases m with
    | nil => rfl
    | cons y m => exact absurd h.1 (by simp)
  | cons x l ihl =>
    cases m with
    | nil => exact absurd h.1 (by simp)
    | cons y m =>
      obtain ⟨⟨h1, _, h3⟩, hxy, hlm⟩ := h.tail
      rw [plTs, plTs, ih x (by simp) y hxy, ihl hlm (fun z hz => ih z (by simp [hz])), h1, h3]
theorem plT_sm : ∀ x y : FT, FT.Sm x y → plT x = plT y := by
  refine FT.ind fun a l ih y h => ?_
  obtain ⟨b, m⟩ := y
  obtain ⟨h1, h2, h3, h4, h5⟩ := h.inv
  rw [plT, plT, plTs_sm ⟨h3, h4, h5⟩ ih]
theorem plainS_sm {x y : FT} (h : FT.Sm x y) : plainS x = plainS y := by unfold plainS; rw [ctS_sm h, plT_sm x y h]
theorem fldAt_sm {l m : List FT} (h : SmF l m) (k : Int) (i : Nat) : (fldAt k l i = none ∧ fldAt k m i = none) ∨ ∃ x y, fldAt k l i = some x ∧ fldAt k m i = some y ∧ (x.a.id = y.a.id ∧ x.a.nm = y.a.nm ∧ x.a.nd = y.a.nd) ∧ FT.Sm x y := by
  unfold fldAt
  split
  · exact h.at 0
  · exact h.at i
theorem ofI_sm {fl fm : List FT} (hf : SmF fl fm) (k : Int) {l m : List VT} (h : SmL l m) (ih : ∀ x, x ∈ l → ∀ y, VT.Sm x y → ∀ t u, FT.Sm t u → ofT t x = ofT u y) : ∀ i, ofI k fl i l = ofI k fm i m := by
  induction l generalizing m with
  | nil =>
    cases m with
    | nil => intro i; rw [ofI, ofI]
    | cons y m => exact absurd h.1 (by simp)
  | cons x l ihl =>
    cases m with
    | nil => exact absurd h.1 (by simp)
    | cons y m =>
      intro i
      obtain ⟨hxy, hlm⟩ := h.tail
      rw [ofI, ofI, ihl hlm (fun z hz => ih z (by simp [hz]))]
      rcases fldAt_sm hf k i with ⟨e1, e2⟩ | ⟨t, u, e1, e2, _, htu⟩
      · rw [e1, e2]
      · rw [e1, e2]
        simp only []
        rw [ih x (by simp) y hxy t u htu]
theorem ofT_sm : ∀ x y : VT, VT.Sm x y → ∀ t u, FT.Sm t u → ofT t x = ofT u y := by
  refine VT.ind fun a l ih y h t u htu => ?_
  obtain ⟨b, m⟩ := y
  obtain ⟨f, fl⟩ := t
  obtain ⟨g, fm⟩ := u
  obtain ⟨h1, h2, h3, h4, h5, h6⟩ := h.inv
  obtain ⟨k1, k2, k3, k4, k5⟩ := htu.inv
  rw [ofT, ofT, h1, h3, k1, k2, h5, k3, ofI_sm ⟨k3, k4, k5⟩ g.k ⟨h5, h6⟩ ih]
theorem misI_sm {fl fm : List FT} (hf : SmF fl fm) (k : Int) {l m : List VT} (h : SmL l m) (ih : ∀ x, x ∈ l → ∀ y, VT.Sm x y → ∀ t u, FT.Sm t u → misT t x = misT u y) : ∀ i, misI k fl i l = misI k fm i m := by
  induction l generalizing m with
  | nil =>
    cases m with
    | nil => intro i; rw [misI, misI]
    | cons y m => exact absurd h.1 (by simp)
  | cons x l ihl =>
    cases m with
    | nil => exact absurd h.1 (by simp)
    | cons y m =>
      intro i
      obtain ⟨hxy, hlm⟩ := h.tail
      have hk : x.a.k = y.a.k := by obtain ⟨a, l⟩ := x; obtain ⟨b, m⟩ := y; exact hxy.inv.1
      rw [misI, misI, ihl hlm (fun z hz => ih z (by simp [hz]))]
      rcases fldAt_sm hf k i with ⟨e1, e2⟩ | ⟨t, u, e1, e2, ⟨_, _, hnd⟩, htu⟩
      · rw [e1, e2]
      · rw [e1, e2]
        simp only []
        rw [ih x (by simp) y hxy t u htu, hnd, hk]
theorem misT_sm : ∀ x y : VT, VT.Sm x y → ∀ t u, FT.Sm t u → misT t x = misT u y := by
  refine VT.ind fun a l ih y h t u htu => ?_
  obtain ⟨b, m⟩ := y
  obtain ⟨f, fl⟩ := t
  obtain ⟨g, fm⟩ := u
  obtain ⟨h1, h2, h3, h4, h5, h6⟩ := h.inv
  obtain ⟨k1, k2, k3, k4, k5⟩ := htu.inv
  rw [misT, misT, k1, misI_sm ⟨k3, k4, k5⟩ g.k ⟨h5, h6⟩ ih]
theorem checkS_sm {t u : FT} {x y : VT} (htu : FT.Sm t u) (hxy : VT.Sm x y) : checkS t x = checkS u y := by
  unfold checkS
  rw [ctS_sm htu, sdV_sm x y hxy, ofT_sm x y hxy t u htu, misT_sm x y hxy t u htu]
end Go.Proofs.YtcpbbagppkcilaaDoor
