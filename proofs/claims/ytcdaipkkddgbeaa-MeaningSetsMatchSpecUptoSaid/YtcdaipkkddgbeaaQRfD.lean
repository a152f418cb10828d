/-
  The reference of package meaning: SortRows, Distinct.
-/
import Derived.Test.YtcdaipkkddgbeaaQRfC
namespace Go.Proofs.Ytcdaipkkddgbeaa
open Go.RowKit
def ItRel (rows : List VT) (n B : Nat) (w : World) (ov i : Value) (wr : World) : Prop :=
  ∃ (j : Nat) (CL : List VT), j ≤ n ∧ i = .int .i64 j ∧ CL.length = j ∧ wr.ownsRow w.heap.size 48 3 ov j (CL.flatMap itC) ∧ PFr (fun _ => False) w (.slice none 0 0) wr ov ∧
    (∀ c, c ∈ CL → Md (· < w.heap.size) ov wr fun w'' => Same B w w'' → VT.Rows w''.heap.size w'' c.a.A c.a.cap c.l) ∧ ∀ (q : Nat) (c y : VT), CL[q]? = some c → rows[q]? = some y → c.l = y.l
theorem ItRel.step {rows : List VT} {n B j : Nat} {w wo wx w4 : World} {ov ov' : Value} {CL : List VT} {r y : VT} (o : Obj) (hj : j < n) (hl : CL.length = j) (hown : wo.ownsRow w.heap.size 48 3 ov j (CL.flatMap itC)) (hpf : PFr (fun _ => False) w (.slice none 0 0) wo ov)
    (hmd : ∀ c, c ∈ CL → Md (· < w.heap.size) ov wo fun w'' => Same B w w'' → VT.Rows w''.heap.size w'' c.a.A c.a.cap c.l) (hP : ∀ (q : Nat) (c y : VT), CL[q]? = some c → rows[q]? = some y → c.l = y.l)
    (hb1 : Below wo.heap.size wo wx) (hmod : ∀ w'', Keeps wo.heap.size wx w'' → Same B w w'' → VT.Rows w''.heap.size w'' r.a.A r.a.cap r.l) (hy : rows[j]? = some y) (hr : r.l = y.l)
    (hown4 : w4.ownsRow w.heap.size 48 3 ov' (j + 1) (CL.flatMap itC ++ itC r)) (hg4 : (wx.alloc o).grownBy w4 ov.ownBlock) (hm4 : Moved (wx.alloc o) ov ov') : ItRel rows n B w ov' (.int .i64 ((j : Int) + 1)) w4 := by
  have hol := hown.lt
  have z0 := hpf.size
  have z1 := hb1.size
  have pX : PFr (fun _ => False) wx ov w4 ov' := (PFr.below (bel1 wx o)).trans (PFr.grown hg4 hm4)
  have pO : PFr (fun _ => False) wo ov wx ov := PFr.below hb1
  have hmX : Md (· < w.heap.size) ov wx fun w'' => Same B w w'' → VT.Rows w''.heap.size w'' r.a.A r.a.cap r.l := fun w'' hz hk hS =>
    hmod w'' ⟨fun q h1 h2 => hk q h2 (by omega) (fun e => by have := (hol q e.symm).2; omega), hz⟩ hS
  refine ⟨j + 1, CL ++ [r], by omega, by simp, by simp [hl], ?_, hpf.trans (pO.trans pX), fun u hu => ?_, fun k a b ha hb => ?_⟩
  · rw [List.flatMap_append]
    simpa using hown4
  · rcases List.mem_append.1 hu with hu | hu
    · exact ((hmd u hu).step (pO.more fun _ h => h.elim)).step (pX.more fun _ h => h.elim)
    · rw [List.mem_singleton] at hu
      subst hu
      exact hmX.step (pX.more fun _ h => h.elim)
  · by_cases hk : k < CL.length
    · exact hP k a b (by rw [List.getElem?_append_left hk] at ha; exact ha) hb
    · rw [List.getElem?_append_right (by omega)] at ha
      have hk0 : k - CL.length = 0 := by
        have := (List.getElem?_eq_some_iff.1 ha).1
        simp at this
        omega
      rw [hk0] at ha
      simp at ha
      subst ha
      have : k = j := by omega
      subst this
      rw [hy] at hb
      cases hb
      exact hr
theorem count_same : ∀ (L M : List VT), L.length = M.length → (∀ (q : Nat) (c y : VT), L[q]? = some c → M[q]? = some y → c.l = y.l) → ∀ r, L.countP (eqR r) = M.countP (eqR r)
  | [], [], _, _, r => rfl
  | x :: L, y :: M, h, hs, r => by
    have e := hs 0 x y rfl rfl
    have ih := count_same L M (by simpa using h) (fun q c y hc hy => hs (q + 1) c y (by simpa using hc) (by simpa using hy)) r
    have ex : eqR r x = eqR r y := by unfold eqR cmpR; rw [e]
    rw [List.countP_cons, List.countP_cons, ih, ex]
  | [], _ :: _, h, _, _ => by simp at h
  | _ :: _, [], h, _, _ => by simp at h
/-- What SortRows comes to. -/
def SrtPost (rows : List VT) (w : World) (e : Ending) (w' : World) : Prop :=
  ∃ (A : Option Addr) (cap : Nat) (R : List VT), e = .returned (.slice A R.length cap) ∧ Below w.heap.size w w' ∧ R.length = rows.length ∧ SortP R ∧ (∀ r, R.countP (eqR r) = rows.countP (eqR r)) ∧ (∀ x, x ∈ R → ∃ y, y ∈ rows ∧ x.l = y.l) ∧ VT.RRow w'.heap.size w' A cap R
set_option maxRecDepth 100000 in
set_option maxHeartbeats 4000000 in
theorem rSortRows_any (A : Option Addr) (cap : Nat) (rows : List VT) (B : Nat) (w : World) (hr : VT.RRow B w A cap rows) (hB : B ≤ w.heap.size) (hn : rows.length ≤ 4194304) (hw : ∀ r, r ∈ rows → r.l.length ≤ 1048576) :
    Calls Try.prog 19 #[.slice A rows.length cap] w (SrtPost rows w) := by
  obtain ⟨i0, hi, iz, isz, iby⟩ := info_parts infoItem
  obtain ⟨n, hnL⟩ : ∃ n, rows.length = n := ⟨_, rfl⟩
  rw [hnL] at hn ⊢
  have Hr := Lib.hid hr
  have Hw := Lib.hid hw
  have HnL := Lib.hid hnL
  clear hr hw hnL
  go_enter Try.func19, Try.ntmps19
  go_wp2
  go_loopw [3, 8] (fun ov i wr => ItRel rows n B w ov i wr) (fun _ i _ => n - (intOf i).toNat)
  case atStart => exact ⟨0, [], Nat.zero_le _, rfl, rfl, World.ownsRow_nil _ _ _ _, PFr.refl _ _ _, (fun c hc => by cases hc), fun q c y h => by simp at h⟩
  case round =>
    obtain ⟨wo, rfl⟩ : ∃ wo : World, wo = wr := ⟨_, rfl⟩
    obtain ⟨j, CL, hj, rfl, hl, hown, hpf, hmd, hP⟩ := hrel
    have hz := hpf.size
    have hbo : Below w.heap.size w wo := hpf.toBelow (Nat.le_refl _) (fun k e => e.elim)
    have hSo : Same B w wo := Same.mono (Same.of_below hbo) hB
    by_cases hlt : j < n
    · obtain ⟨r, ad, hx, rfl, hab, c0⟩ := (Hr.out.keep hSo).get (show j < rows.length by rw [HnL.out]; exact hlt)
      have hrm := mem_of_get? hx
      have hcp := Lib.hid (cloneRow_any r.a.A r.a.cap r.l B wo ((Hr.out.2.2.1 r hrm).keep hSo) (by omega) (Hw.out r hrm))
      have Hx := Lib.hid hx
      have Hown := Lib.hid hown
      have Hpf := Lib.hid hpf
      have Hmd := Lib.hid hmd
      have HP := Lib.hid hP
      have Hl := Lib.hid hl
      have HSo := Lib.hid hSo
      clear hx hown hpf hmd hP hl hrm hSo
      go_wp2_with fail
      refine hcp.out.mono ?_
      rintro e w5 ⟨NA, nc, rfl, hb5, hkp⟩
      have hownY := own_below Hown.out hb5
      have h3 : Hid (j + 1 ≤ maxLen) := by show _ ≤ _; unfold maxLen; omega
      have h4 : Hid ((j + 1) * 56 ≤ 140737488355328) := by show _ ≤ _; omega
      have h5 : Hid (∀ o, w.heap.size ≤ (w5.alloc o).heap.size) := fun o => by have := hb5.size; simp; omega
      have Hmod : Hid (∀ w'', Keeps wo.heap.size w5 w'' → Same B w w'' → VT.Rows w''.heap.size w'' NA nc r.l) := fun w'' hk hS => hkp w'' (fun k hk2 => (hS k hk2).trans (HSo.out k hk2).symm) hk
      have Hb5 := Lib.hid hb5
      obtain ⟨un, hun⟩ : ∃ un, r.l.length = un := ⟨_, rfl⟩
      rw [hun]
      have hic : itC (.node ⟨0, 0, 0, ByteArray.empty, NA, nc⟩ r.l) = [.slice NA un nc, .slice none 0 0, .int .i64 0] := by unfold itC; rw [VT.a_node, VT.l_node, hun]
      have Hic := Lib.hid hic
      clear hkp hb5 hun hic
      go_wp2_with (at_builtin; refine wpList_append_row _ rfl _ _ 46 rfl w.heap.size 48 i0 _ 3 56 Try.underlying46 hi iz isz iby rfl (by decide) u3 j (CL.flatMap itC) rfl (hownY.alloc _) (some ⟨w5.heap.size, 0, none⟩) 1 1 [.slice NA un nc, .slice none 0 0, .int .i64 0] rfl rfl (new_src3 _ _ _) (by simp [Value.oneCell']) h3.out h4.out (h5.out _) ?_; intro ov' w4 hown4 hg4 hm4)
      have HST := Lib.hid (ItRel.step (r := .node ⟨0, 0, 0, ByteArray.empty, NA, nc⟩ r.l) _ hlt Hl.out Hown.out Hpf.out Hmd.out HP.out Hb5.out Hmod.out Hx.out rfl (by rw [Hic.out]; exact hown4) hg4 hm4)
      clear hown4 hg4 hm4 hownY
      go_wp2
      go_roundw
      case rel => exact HST.out
      case measure => simp [intOf]; omega
    · obtain rfl : j = n := by omega
      obtain ⟨A1, c1, rfl, hg1, _⟩ := own_grow (c := itC) hown hl (fun r _ => rfl)
      have hrows : ∀ r, r ∈ CL → VT.Rows wo.heap.size wo r.a.A r.a.cap r.l := fun r hr => (hmd r hr).at hSo
      have h1 := Lib.hid (rsorted_any j CL A1 c1 wo.heap.size wo hl hg1 hrows (Nat.le_refl _) hn)
      have hct := count_same CL rows (by rw [hl, HnL.out]) hP
      have hme : ∀ x, x ∈ CL → ∃ y, y ∈ rows ∧ x.l = y.l := fun x hx => by
        obtain ⟨q, hq⟩ := List.getElem?_of_mem hx
        have hql := (List.getElem?_eq_some_iff.1 hq).1
        have hqr : q < rows.length := by rw [HnL.out]; omega
        exact ⟨rows[q], List.getElem_mem hqr, hP q x _ hq (List.getElem?_eq_getElem hqr)⟩
      have Hrows := Lib.hid hrows
      have Hct := Lib.hid hct
      have Hme := Lib.hid hme
      have Hbo := Lib.hid hbo
      have Hl := Lib.hid hl
      clear hown hpf hmd hP hg1 hrows hct hme hl hSo
      go_wp2_with fail
      refine h1.out.mono ?_
      rintro e w2 ⟨A2, c2, L', rfl, hb2, hl2, hs2, hn2, hm2, hg2⟩
      have h2 := Lib.hid (rrowsOf_any A2 c2 L' w2.heap.size w2 hg2 (fun r hr => by
        have := (Hrows.out r (hm2 r hr)).keep (Same.of_below hb2)
        exact ⟨this.1.more hb2.size, fun y hy => (this.2 y hy).more hb2.size⟩) (Nat.le_refl _) (by rw [hl2, Hl.out]; exact hn))
      have Hs2 := Lib.hid hs2
      have Hn2 := Lib.hid hn2
      have Hm2 := Lib.hid hm2
      have Hl2 := Lib.hid hl2
      obtain ⟨ln, hln⟩ : ∃ q, L'.length = q := ⟨_, rfl⟩
      rw [hln] at h2 ⊢
      have Hln := Lib.hid hln
      clear hs2 hn2 hm2 hg2 hl2 h1 hln
      go_wp2_with fail
      refine h2.out.mono ?_
      rintro e w3 ⟨A3, c3, rfl, hb3, hr3⟩
      go_wp2
      go_ret
      exact ⟨A3, c3, L', by rw [Hln.out]; rfl, Hbo.out.trans ((hb2.trans (hb3.mono hb2.size)).mono hbo.size), by rw [Hl2.out, Hl.out, HnL.out], Hs2.out, fun r => (Hn2.out _).trans (Hct.out r), fun x hx => Hme.out x (Hm2.out x hx), hr3⟩
/-- Rows of which each is greater than those ahead of it. -/
def IncP (l : List VT) : Prop := l.Pairwise fun x y => 0 < cmpR y x
/-- What Distinct comes to. -/
def DsPost (rows : List VT) (w : World) (e : Ending) (w' : World) : Prop :=
  ∃ (A : Option Addr) (cap : Nat) (D : List VT), e = .returned (.slice A D.length cap) ∧ Below w.heap.size w w' ∧ D.length ≤ rows.length ∧ IncP D ∧ (∀ x, x ∈ rows → ∃ d, d ∈ D ∧ cmpR x d = 0) ∧ (∀ d, d ∈ D → ∃ y, y ∈ rows ∧ d.l = y.l) ∧ VT.RRow w'.heap.size w' A cap D
structure DisOk (R D : List VT) : Prop where
  inc : IncP D
  sub : ∀ d, d ∈ D → d ∈ R
  all : ∀ x, x ∈ R → ∃ d, d ∈ D ∧ cmpR x d = 0
  len : D.length ≤ R.length
theorem inc_last {D : List VT} {k : Nat} {d e : VT} (h : IncP D) (hk : D.length = k + 1) (hd : D[k]? = some d) (he : e ∈ D) : 0 ≤ cmpR d e := by
  obtain ⟨i, hi⟩ := List.getElem?_of_mem he
  have hil := (List.getElem?_eq_some_iff.1 hi).1
  by_cases e1 : i = k
  · subst e1
    rw [hd] at hi
    cases hi
    rw [cmpR_self]
    exact Int.le_refl _
  · have := (List.pairwise_iff_getElem.1 h) i k hil (by omega) (by omega)
    obtain ⟨_, rfl⟩ := List.getElem?_eq_some_iff.1 hi
    obtain ⟨_, rfl⟩ := List.getElem?_eq_some_iff.1 hd
    omega
theorem DisOk.skip {R D : List VT} {r d : VT} (h : DisOk R D) (hd : d ∈ D) (e : cmpR r d = 0) : DisOk (R ++ [r]) D where
  inc := h.inc
  sub := fun x hx => List.mem_append_left _ (h.sub x hx)
  all := fun x hx => by
    rcases List.mem_append.1 hx with hx | hx
    · exact h.all x hx
    · rw [List.mem_singleton] at hx
      subst hx
      exact ⟨d, hd, e⟩
  len := by rw [List.length_append]; have := h.len; omega
theorem DisOk.add {R D : List VT} {r : VT} (h : DisOk R D) (hg : ∀ d, d ∈ D → 0 < cmpR r d) : DisOk (R ++ [r]) (D ++ [r]) where
  inc := List.pairwise_append.2 ⟨h.inc, List.pairwise_singleton _ _, fun a ha b hb => by rw [List.mem_singleton] at hb; subst hb; exact hg a ha⟩
  sub := fun x hx => by
    rcases List.mem_append.1 hx with hx | hx
    · exact List.mem_append_left _ (h.sub x hx)
    · exact List.mem_append_right _ hx
  all := fun x hx => by
    rcases List.mem_append.1 hx with hx | hx
    · obtain ⟨d, hd, e⟩ := h.all x hx
      exact ⟨d, List.mem_append_left _ hd, e⟩
    · rw [List.mem_singleton] at hx
      subst hx
      exact ⟨x, by simp, cmpR_self x⟩
  len := by rw [List.length_append, List.length_append]; have := h.len; simp; omega
theorem DisOk.gt {R D : List VT} {r d : VT} {k : Nat} (h : DisOk R D) (hs : SortP (R ++ [r])) (hk : D.length = k + 1) (hd : D[k]? = some d) (hne : cmpR d r ≠ 0) : ∀ e, e ∈ D → 0 < cmpR r e := fun e he => by
  have h1 := inc_last h.inc hk hd he
  have h2 := (sort_app.1 hs).2.2 d (h.sub d (List.mem_of_getElem? hd)) r (by simp)
  have n1 := cmpR_neg d r
  have n2 := cmpR_neg e d
  have n3 := cmpR_neg e r
  have t := (cmpR_tr e d r).2.2.1
  have := t (by omega) (by omega)
  omega
set_option maxRecDepth 100000 in
set_option maxHeartbeats 4000000 in
theorem rDistinct_any (A : Option Addr) (cap : Nat) (rows : List VT) (B : Nat) (w : World) (hr : VT.RRow B w A cap rows) (hB : B ≤ w.heap.size) (hn : rows.length ≤ 4194304) (hw : ∀ r, r ∈ rows → r.l.length ≤ 1048576) :
    Calls Try.prog 10 #[.slice A rows.length cap] w (DsPost rows w) := by
  obtain ⟨ir, hir, irz, irs, irb⟩ := info_parts infoVals
  have h1 := Lib.hid (rSortRows_any A cap rows B w hr hB hn hw)
  clear hr hw
  go_enter Try.func10, Try.ntmps10
  go_wp2_with fail
  refine h1.out.mono ?_
  rintro e w1 ⟨A1, c1, R, rfl, hb1, hl1, hs1, hn1, hm1, hr1⟩
  obtain ⟨n, hnR⟩ : ∃ n, R.length = n := ⟨_, rfl⟩
  have hn4 : n ≤ 4194304 := by omega
  rw [hnR]
  have Hs1 := Lib.hid hs1
  have Hn1 := Lib.hid hn1
  have Hm1 := Lib.hid hm1
  have Hr1 := Lib.hid hr1
  have HnR := Lib.hid hnR
  have Hl1 := Lib.hid hl1
  clear hs1 hn1 hm1 hr1 hnR hl1 h1 hn
  go_wp2
  go_loopw [3, 10] (fun ov i wr => ∃ (j : Nat) (D : List VT), j ≤ n ∧ i = .int .i64 j ∧ CmI w1 D ov wr ∧ DisOk (R.take j) D) (fun _ i _ => n - (intOf i).toNat)
  case atStart => exact ⟨0, [], Nat.zero_le _, rfl, ⟨World.ownsRow_nil _ _ _ _, PFr.refl _ _ _⟩, List.Pairwise.nil, (fun d h => by cases h), (fun x h => by simp at h), Nat.zero_le _⟩
  case round =>
    obtain ⟨wo, rfl⟩ : ∃ wo : World, wo = wr := ⟨_, rfl⟩
    obtain ⟨j, D, hj, rfl, hcm, hdis⟩ := hrel
    have hbo := hcm.below
    have hSo : Same w1.heap.size w1 wo := Same.of_below hbo
    obtain ⟨hown, hpf⟩ := hcm
    obtain ⟨DA, dc, rfl, hcr, _⟩ := own_list (f := rwV) hown rfl
    by_cases hlt : j < n
    · obtain ⟨r, ad, hx, rfl, hab, c0⟩ := (Hr1.out.keep hSo).get (show j < R.length by rw [HnR.out]; exact hlt)
      have hdl : D.length ≤ j := by have := hdis.len; rw [List.length_take, HnR.out] at this; omega
      obtain ⟨dn, hdn⟩ : ∃ q, D.length = q := ⟨_, rfl⟩
      rw [hdn] at hown hdl hpf
      have h3 : Hid (dn + 1 ≤ maxLen) := by show _ ≤ _; unfold maxLen; omega
      have h4 : Hid ((dn + 1) * 24 ≤ 140737488355328) := by show _ ≤ _; omega
      have Hown := Lib.hid hown
      have Hpf := Lib.hid hpf
      have Hdis := Lib.hid hdis
      have Hx := Lib.hid hx
      have Hdn := Lib.hid hdn
      have Hbo := Lib.hid hbo
      rw [hdn]
      by_cases hd0 : dn = 0
      · have hz : D = [] := List.length_eq_zero_iff.1 (by rw [hdn, hd0])
        have hgt : Hid (∀ d, d ∈ D → 0 < cmpR r d) := fun d hd => by rw [hz] at hd; cases hd
        have hd1 : ((dn : Int) == 0) = true := by rw [hd0]; rfl
        have hb0 : Below wo.heap.size wo wo := Below.refl _ _
        clear hown hpf hdis hx hdn hcr hbo hSo hz hd0
        have hownY : Hid (∀ o, (wo.alloc o).ownsRow w1.heap.size 27 1 (.slice (DA) dn dc) dn (D.map rwV)) := fun o => (own_below Hown.out hb0).alloc o
        have h5 : Hid (∀ o, w1.heap.size ≤ (wo.alloc o).heap.size) := fun o => by have z1 := Hbo.out.size; have z2 := Below.size hb0; simp; omega
        go_wp2_with (at_builtin; refine wpList_append_row _ rfl _ _ 22 rfl w1.heap.size 27 ir _ 1 24 Try.underlying22 hir irz irs irb rfl (by decide) (.slice (DA) dn dc) dn _ rfl (hownY.out _) (some ⟨wo.heap.size, 0, none⟩) 1 1 [.slice r.a.A r.l.length r.a.cap] rfl rfl (new_src3 _ _ _) (by simp [Value.oneCell']) h3.out h4.out (h5.out _) ?_; intro v' w6 hown6 hg6 hm6)
        go_roundw
        case rel =>
          refine ⟨j + 1, D ++ [r], by omega, by simp, ⟨?_, Hpf.out.trans ((PFr.below (Below.trans hb0 ((bel1 wo (.cells #[.slice r.a.A r.l.length r.a.cap] 27)).mono (Below.size hb0)))).trans (PFr.grown hg6 hm6))⟩, ?_⟩
          · rw [List.length_append, List.map_append, Hdn.out]
            exact hown6
          · rw [List.take_add_one, Hx.out]
            exact Hdis.out.add hgt.out
        case measure => simp [intOf]; omega
      · obtain ⟨k, hk⟩ : ∃ k, dn = k + 1 := ⟨dn - 1, by omega⟩
        obtain ⟨d, da, hd, rfl, hdb, e0⟩ := hcr.get (show k < D.length by omega)
        have hd1 : ((dn : Int) == 0) = false := by rw [beq_eq_false_iff_ne]; omega
        have hd2 : (dn : Int) - 1 = (k : Int) := by omega
        have hkn : k < dn := by omega
        have hSr := Hr1.out.2.2.1
        have hdR : d ∈ R := List.mem_of_mem_take (hdis.sub d (List.mem_of_getElem? hd))
        have hcmp := Lib.hid (rCompareRows_any d.a.A r.a.A d.a.cap r.a.cap d.l r.l w1.heap.size wo ((hSr d hdR).keep hSo) ((hSr r (mem_of_get? hx)).keep hSo) hbo.size)
        have Hd := Lib.hid hd
        unfold rwV at e0
        have Hk : Hid (D.length = k + 1) := by show _ = _; rw [hdn, hk]
        have hsr : SortP (R.take j ++ [r]) := by
          have e : R.take (j + 1) = R.take j ++ [r] := by rw [List.take_add_one, hx]; rfl
          rw [← e]
          exact Hs1.out.sublist (List.take_sublist _ _)
        have Hsr := Lib.hid hsr
        clear hown hpf hdis hx hdn hcr hbo hSo hd0 hd hk hSr hdR hsr
        go_upto_region 6 with (fail)
        go_wp2_with fail
        refine hcmp.out.mono ?_
        rintro e w2 ⟨rfl, hb2⟩
        by_cases hne : cmpVs d.l r.l = 0
        · have Hne := Lib.hid hne
          rw [hne]
          clear hne
          go_wp2
          go_roundw
          case rel =>
            refine ⟨j + 1, D, by omega, by simp, ⟨?_, Hpf.out.trans (PFr.below hb2)⟩, ?_⟩
            · have := own_below Hown.out hb2
              rw [Hdn.out]
              exact this
            · rw [List.take_add_one, Hx.out]
              refine Hdis.out.skip (List.mem_of_getElem? Hd.out) ?_
              have e1 := cmpR_neg d r
              have e2 : cmpR d r = 0 := Hne.out
              omega
          case measure => simp [intOf]; omega
        · have hn1 : (cmpVs d.l r.l != 0) = true := by simpa using hne
          have hgt := Lib.hid (Hdis.out.gt Hsr.out Hk.out Hd.out hne)
          have Hb2 := Lib.hid hb2
          clear hne e0 c0 hb2
          have hownY : Hid (∀ o, (w2.alloc o).ownsRow w1.heap.size 27 1 (.slice (some da) dn dc) dn (D.map rwV)) := fun o => (own_below Hown.out Hb2.out).alloc o
          have h5 : Hid (∀ o, w1.heap.size ≤ (w2.alloc o).heap.size) := fun o => by have z1 := Hbo.out.size; have z2 := Below.size Hb2.out; simp; omega
          go_wp2_with (at_builtin; refine wpList_append_row _ rfl _ _ 22 rfl w1.heap.size 27 ir _ 1 24 Try.underlying22 hir irz irs irb rfl (by decide) (.slice (some da) dn dc) dn _ rfl (hownY.out _) (some ⟨w2.heap.size, 0, none⟩) 1 1 [.slice r.a.A r.l.length r.a.cap] rfl rfl (new_src3 _ _ _) (by simp [Value.oneCell']) h3.out h4.out (h5.out _) ?_; intro v' w6 hown6 hg6 hm6)
          go_roundw
          case rel =>
            refine ⟨j + 1, D ++ [r], by omega, by simp, ⟨?_, Hpf.out.trans ((PFr.below (Below.trans Hb2.out ((bel1 w2 (.cells #[.slice r.a.A r.l.length r.a.cap] 27)).mono (Below.size Hb2.out)))).trans (PFr.grown hg6 hm6))⟩, ?_⟩
            · rw [List.length_append, List.map_append, Hdn.out]
              exact hown6
            · rw [List.take_add_one, Hx.out]
              exact Hdis.out.add hgt.out
          case measure => simp [intOf]; omega
    · obtain rfl : j = n := by omega
      have eR : R.take j = R := by rw [← HnR.out]; exact List.take_length
      rw [eR] at hdis
      have Hdis := Lib.hid hdis
      have Hcr := Lib.hid hcr
      have Hbo := Lib.hid hbo
      clear hdis hcr hown hpf hbo eR
      go_wp2
      go_ret
      refine ⟨DA, dc, D, rfl, hb1.trans (Hbo.out.mono hb1.size), by have := Hdis.out.len; have := Hl1.out; omega, Hdis.out.inc, fun x hx => ?_, fun d hd => Hm1.out d (Hdis.out.sub d hd), Hcr.out.1, Hcr.out.2.1, fun d hd => ?_, Hcr.out.2.2⟩
      · have hp : 0 < rows.countP (eqR x) := List.countP_pos_iff.2 ⟨x, hx, by unfold eqR; rw [cmpR_self]; rfl⟩
        rw [← Hn1.out] at hp
        obtain ⟨y, hy, hq⟩ := List.countP_pos_iff.1 hp
        have hq2 : cmpR y x = 0 := by unfold eqR at hq; simpa using hq
        obtain ⟨d, hd, he⟩ := Hdis.out.all y hy
        refine ⟨d, hd, ?_⟩
        have e3 := cmpR_neg x y
        exact (cmpR_tr x y d).2.2.2 (by omega) he
      · have := (Hr1.out.2.2.1 d (Hdis.out.sub d hd)).keep (Same.of_below Hbo.out)
        have hz := Hbo.out.size
        exact ⟨this.1.more hz, fun y hy => (this.2 y hy).more hz⟩
end Go.Proofs.Ytcdaipkkddgbeaa
