/-
  Two ways to the rows of a set operation: they come to the same. No program is walked here.
-/
import Derived.Test.YtcdaipkkddgbeaaQRfE
import Derived.Test.YtcdaipkkddgbeaaQTlE
namespace Go.Proofs.Ytcdaipkkddgbeaa
open Go.RowKit
theorem cmpR_sym {a b : VT} (h : cmpR a b = 0) : cmpR b a = 0 := by have := cmpR_neg a b; omega
theorem cmpR_tr0 {a b c : VT} (h : cmpR a b = 0) (h' : cmpR b c = 0) : cmpR a c = 0 := (cmpR_tr a b c).2.2.2 h h'
theorem cmpL_own : ∀ l, cmpL l l = 0
  | [] => rfl
  | x :: l => by
    show orC (ordI x.toNat x.toNat) (cmpL l l) = 0
    rw [ordI_self, cmpL_own l]
    rfl
theorem cmpVs_sm : ∀ (l m : List VT), (∀ x, x ∈ l → ∀ y, VT.Sm x y → cmpV x y = 0) → SmL l m → cmpVs l m = 0
  | [], [], _, _ => by unfold cmpVs; rfl
  | x :: l, y :: m, h, hs => by
    rw [cmpVs, h x (by simp) y hs.tail.1, cmpVs_sm l m (fun z hz => h z (by simp [hz])) hs.tail.2]
    rfl
  | [], _ :: _, _, hs => by have := hs.1; simp at this
  | _ :: _, [], _, hs => by have := hs.1; simp at this
theorem cmpV_sm : ∀ x y : VT, VT.Sm x y → cmpV x y = 0 := by
  refine VT.ind fun a l ih y h => ?_
  obtain ⟨b, m⟩ := y
  obtain ⟨h1, h2, h3, h4, h5, h6⟩ := h.inv
  rw [cmpV, cmpVs_sm l m ih ⟨h5, h6⟩, h1, show kC b.k b.k = 0 from if_pos rfl]
  have hh : headC a b = 0 := by
    unfold headC decC mag
    rw [h1, h2, h3, h4, ordI_self, ordI_self, ordI_self, ordI_self, cmpL_own]
    split <;> rfl
  rw [hh]
  split <;> rfl
theorem cmpR_sm {x y : VT} (h : SmL x.l y.l) : cmpR x y = 0 := cmpVs_sm x.l y.l (fun z _ y h => cmpV_sm z y h) h
theorem cmpR_of_l {x y : VT} (h : x.l = y.l) : cmpR x y = 0 := by
  unfold cmpR
  rw [h]
  exact cmpR_self y
/-- Lists that are the same row for row. -/
def Eqv : List VT → List VT → Prop
  | [], [] => True
  | x :: l, y :: m => cmpR x y = 0 ∧ Eqv l m
  | _, _ => False
theorem Eqv.append : ∀ {l m l' m' : List VT}, Eqv l m → Eqv l' m' → Eqv (l ++ l') (m ++ m')
  | [], [], _, _, _, h => h
  | _ :: _, _ :: _, _, _, h, h' => ⟨h.1, Eqv.append h.2 h'⟩
theorem Eqv.rep {x y : VT} (h : cmpR x y = 0) : ∀ n, Eqv (List.replicate n x) (List.replicate n y)
  | 0 => trivial
  | n + 1 => ⟨h, Eqv.rep h n⟩
theorem Eqv.len : ∀ {l m : List VT}, Eqv l m → l.length = m.length
  | [], [], _ => rfl
  | _ :: _, _ :: _, h => by rw [List.length_cons, List.length_cons, Eqv.len h.2]
theorem Eqv.at : ∀ {l m : List VT}, Eqv l m → ∀ (i : Nat) x y, l[i]? = some x → m[i]? = some y → cmpR x y = 0
  | [], [], _, i, x, y, hx, _ => by simp at hx
  | _ :: _, _ :: _, h, 0, x, y, hx, hy => by
    simp at hx hy
    subst hx hy
    exact h.1
  | _ :: _, _ :: _, h, i + 1, x, y, hx, hy => Eqv.at h.2 i x y (by simpa using hx) (by simpa using hy)
/-- Rows in strict order, with the same classes: one by one the same. -/
theorem inc_eqv : ∀ (X Y : List VT), IncP X → IncP Y → (∀ x, x ∈ X → ∃ y, y ∈ Y ∧ cmpR x y = 0) → (∀ y, y ∈ Y → ∃ x, x ∈ X ∧ cmpR x y = 0) → Eqv X Y
  | [], [], _, _, _, _ => trivial
  | [], y :: Y, _, _, _, h => by obtain ⟨x, hx, _⟩ := h y (by simp); cases hx
  | x :: X, [], _, _, h, _ => by obtain ⟨y, hy, _⟩ := h x (by simp); cases hy
  | x :: X, y :: Y, hX, hY, h1, h2 => by
    obtain ⟨x1, x2⟩ := List.pairwise_cons.1 hX
    obtain ⟨y1, y2⟩ := List.pairwise_cons.1 hY
    have hxy : cmpR x y = 0 := by
      obtain ⟨y', hy', e1⟩ := h1 x (by simp)
      obtain ⟨x', hx', e2⟩ := h2 y (by simp)
      rcases List.mem_cons.1 hy' with rfl | hy'
      · exact e1
      · rcases List.mem_cons.1 hx' with rfl | hx'
        · exact e2
        · have g1 := y1 y' hy'
          have g2 := x1 x' hx'
          have n1 := cmpR_neg y y'
          have n2 := cmpR_neg x x'
          have n3 := cmpR_neg x y'
          have n4 := cmpR_neg x y
          have t1 := (cmpR_tr y y' x).2.1 (by omega) (by omega)
          have t2 := (cmpR_tr x x' y).2.1 (by omega) (by omega)
          omega
    refine ⟨hxy, inc_eqv X Y x2 y2 (fun x' hx' => ?_) fun y' hy' => ?_⟩
    · obtain ⟨y', hy', e⟩ := h1 x' (by simp [hx'])
      rcases List.mem_cons.1 hy' with rfl | hy'
      · have g := x1 x' hx'
        have := cmpR_tr0 e (cmpR_sym hxy)
        omega
      · exact ⟨y', hy', e⟩
    · obtain ⟨x', hx', e⟩ := h2 y' (by simp [hy'])
      rcases List.mem_cons.1 hx' with rfl | hx'
      · have g := y1 y' hy'
        have := cmpR_tr0 (cmpR_sym e) hxy
        omega
      · exact ⟨x', hx', e⟩
theorem eqR_congr {r s : VT} (h : cmpR r s = 0) (x : VT) : eqR r x = eqR s x := by
  unfold eqR
  by_cases hx : cmpR x r = 0
  · rw [decide_eq_true hx, decide_eq_true (cmpR_tr0 hx h)]
  · rw [decide_eq_false hx, decide_eq_false (fun e => hx (cmpR_tr0 e (cmpR_sym h)))]
theorem count_congr {r s : VT} (h : cmpR r s = 0) (l : List VT) : l.countP (eqR r) = l.countP (eqR s) := by
  have : eqR r = eqR s := funext (eqR_congr h)
  rw [this]
theorem exp_eqv (op : Int) (all : Bool) (a b : List VT) : ∀ (T : List TT) (D : List VT), (∀ t, t ∈ T → t.a = a.countP (eqR t.row) ∧ t.b = b.countP (eqR t.row)) → Eqv (T.map TT.row) D → Eqv (expR op all T) (expD op all a b D)
  | [], [], _, _ => trivial
  | t :: T, d :: D, hc, h => by
    obtain ⟨c1, c2⟩ := hc t (by simp)
    have e : cmpR t.row d = 0 := h.1
    have ih := exp_eqv op all a b T D (fun t ht => hc t (by simp [ht])) h.2
    have e1 : timesN op all t.a t.b = timesN op all (a.countP (eqR d)) (b.countP (eqR d)) := by rw [c1, c2, count_congr e, count_congr e]
    show Eqv (List.replicate (timesN op all t.a t.b) t.row ++ expR op all T) (List.replicate _ d ++ expD op all a b D)
    rw [e1]
    exact (Eqv.rep e _).append ih
theorem tal_inc {a b : List VT} {T : List TT} (h : TalOk a b T) : IncP (T.map TT.row) := by
  refine List.pairwise_iff_getElem.2 fun i j hi hj hij => ?_
  rw [List.length_map] at hi hj
  rw [List.getElem_map, List.getElem_map]
  exact h.inc i j T[i] T[j] hij (List.getElem?_eq_getElem hi) (List.getElem?_eq_getElem hj)
/-- Both have the same rows. -/
theorem sets_same {op : Int} {all : Bool} {a b : List VT} {T : List TT} {D Rm Rr : List VT} (hT : TalOk a b T) (hTm : ∀ t, t ∈ T → t.row ∈ a ∨ t.row ∈ b) (hl : Rm.length = (expR op all T).length) (hm : ∀ (q : Nat) r y, Rm[q]? = some r → (expR op all T)[q]? = some y → SmL y.l r.l)
    (hD : IncP D) (hall : ∀ x, x ∈ a ++ b → ∃ d, d ∈ D ∧ cmpR x d = 0) (hsub : ∀ d, d ∈ D → ∃ y, y ∈ a ++ b ∧ d.l = y.l) (hr : Rr.map VT.l = (expD op all a b D).map VT.l) :
    Rm.length = Rr.length ∧ ∀ (i : Nat) x y, Rm[i]? = some x → Rr[i]? = some y → cmpR x y = 0 := by
  have h1 : Eqv (T.map TT.row) D := by
    refine inc_eqv _ _ (tal_inc hT) hD (fun x hx => ?_) fun d hd => ?_
    · obtain ⟨t, ht, rfl⟩ := List.mem_map.1 hx
      exact hall t.row (List.mem_append.2 (hTm t ht))
    · obtain ⟨y, hy, e⟩ := hsub d hd
      obtain ⟨t, ht, e2⟩ := hT.all y (List.mem_append.1 hy)
      exact ⟨t.row, List.mem_map.2 ⟨t, ht, rfl⟩, cmpR_tr0 (cmpR_sym e2) (cmpR_sym (cmpR_of_l e))⟩
  have h2 := exp_eqv op all a b T D hT.cnt h1
  have h3 : Rr.length = (expD op all a b D).length := by
    have := congrArg List.length hr
    rwa [List.length_map, List.length_map] at this
  refine ⟨by rw [hl, h2.len, h3], fun i x y hx hy => ?_⟩
  have hi := (List.getElem?_eq_some_iff.1 hx).1
  have hi1 : i < (expR op all T).length := by omega
  have hi2 : i < (expD op all a b D).length := by rw [← h2.len]; exact hi1
  have e1 := hm i x _ hx (List.getElem?_eq_getElem hi1)
  have e2 := h2.at i _ _ (List.getElem?_eq_getElem hi1) (List.getElem?_eq_getElem hi2)
  have e3 : y.l = ((expD op all a b D)[i]).l := by
    have h4 : (Rr.map VT.l)[i]? = some y.l := by rw [List.getElem?_map, hy]; rfl
    rw [hr, List.getElem?_map, List.getElem?_eq_getElem hi2] at h4
    exact (Option.some.inj h4).symm
  exact cmpR_tr0 (cmpR_sym (cmpR_sm e1)) (cmpR_tr0 e2 (cmpR_sym (cmpR_of_l e3)))
set_option maxRecDepth 100000 in
set_option maxHeartbeats 4000000 in
theorem law_any (op : Int) (all : Bool) (A A2 : Option Addr) (cap cap2 : Nat) (a b : List VT) (B : Nat) (w : World) (hop : I64 op) (ha : VT.RRow B w A cap a) (hb : VT.RRow B w A2 cap2 b) (hB : B ≤ w.heap.size) (hn : a.length ≤ 1048576) (hn2 : b.length ≤ 1048576)
    (hsa : ∀ r, r ∈ a → r.l.length ≤ 1048576 ∧ ∀ x, x ∈ r.l → VT.Sml x) (hsb : ∀ r, r ∈ b → r.l.length ≤ 1048576 ∧ ∀ x, x ∈ r.l → VT.Sml x) :
    Calls Try.prog 3 #[.int .i64 op, .bool all, .slice A a.length cap, .slice A2 b.length cap2] w fun e w' => e = .returned (.bool true) ∧ Below w.heap.size w w' := by
  have h1 := Lib.hid (mCombine_any op all A A2 cap cap2 a b B w hop ha hb hB hn hn2 hsa hsb)
  have h2 := Lib.hid (fun (W : World) (h : Below w.heap.size w W) => rCombine_any op all A A2 cap cap2 a b B W (ha.keep (Same.mono (Same.of_below h) hB)) (hb.keep (Same.mono (Same.of_below h) hB)) (Nat.le_trans hB h.size) hn hn2 (fun r hr => (hsa r hr).1) (fun r hr => (hsb r hr).1))
  clear ha hb hop hsa hsb hn hn2
  go_enter Try.func3, Try.ntmps3
  go_wp2_with fail
  refine h1.out.mono ?_
  rintro e w1 ⟨A3, c3, T, Rm, rfl, hb1, hT, hTm, hl, _, hm, hrow1⟩
  have h2' := Lib.hid (h2.out w1 hb1)
  obtain ⟨n1, hn1⟩ : ∃ q, Rm.length = q := ⟨_, rfl⟩
  rw [hn1]
  have HT := Lib.hid hT
  have HTm := Lib.hid hTm
  have Hl := Lib.hid hl
  have Hm := Lib.hid hm
  have Hrow1 := Lib.hid (hrow1 w1 (Keeps.refl _ _))
  have Hn1 := Lib.hid hn1
  clear hT hTm hl hm hrow1 hn1 h1 h2
  go_wp2_with fail
  refine h2'.out.mono ?_
  rintro e w2 ⟨A4, c4, D, Rr, rfl, hb2, hD, hall, hsub, hr, hrow2⟩
  obtain ⟨hlen, hpt⟩ := sets_same HT.out HTm.out Hl.out Hm.out hD hall hsub hr
  have hr1 := Hrow1.out.keep (Same.of_below hb2)
  have hz2 := hb2.size
  have hr1' : VT.RRow w2.heap.size w2 A3 c3 Rm := ⟨hr1.1, hr1.2.1, fun r hr => ⟨(hr1.2.2.1 r hr).1.more hz2, fun y hy => ((hr1.2.2.1 r hr).2 y hy).more hz2⟩, fun i x hx => by
    obtain ⟨q, e, hb, hc⟩ := hr1.2.2.2 i x hx
    exact ⟨q, e, by omega, hc⟩⟩
  have h3 := Lib.hid (lsame_any A3 A4 c3 c4 Rm Rr w2.heap.size w2 hr1' hrow2 (Nat.le_refl _) hlen hpt)
  obtain ⟨n2, hn2⟩ : ∃ q, Rr.length = q := ⟨_, rfl⟩
  rw [Hn1.out, hn2] at h3
  rw [hn2]
  clear hD hall hsub hr hrow2 hlen hpt hr1 hr1' hn2 h2' Hrow1 Hl Hm HT HTm Hn1
  go_wp2_with fail
  refine h3.out.mono ?_
  rintro e w3 ⟨rfl, hb3⟩
  go_wp2
  go_ret
  exact ⟨rfl, hb1.trans ((hb2.trans (hb3.mono hz2)).mono hb1.size)⟩
end Go.Proofs.Ytcdaipkkddgbeaa
