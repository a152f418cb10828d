/-
  Package meaning: tallies.
-/
import Derived.Test.YtcdaipkkddgbeaaQData3
import Derived.Test.YtcdaipkkddgbeaaQTlA
import Derived.Deep.DeepCutAuto
import Derived.Deep.CutBlock
namespace Go.Proofs.Ytcdaipkkddgbeaa
open Go.RowKit
theorem infoTally : (Try.prog.info? 38).map (fun i => (i.zero, i.size, i.bytes)) = some (some (.agg #[.slice none 0 0, .int .i64 0, .int .i64 0]), 3, 40) := by kernel_rfl
def slLen : Value → Nat
  | .slice _ n _ => n
  | _ => 0
/-- What is left of a list of rows that lie in a world. -/
def RSl (W : World) (v : Value) (l : List VT) : Prop := ∃ (A : Option Addr) (c : Nat), v = .slice A l.length c ∧ VT.RRow W.heap.size W A c l
/-- Is the next row the first list's. -/
def pkB : List VT → List VT → Bool
  | _, [] => true
  | [], _ :: _ => false
  | x :: _, y :: _ => decide (cmpR x y ≤ 0)
theorem pk_pick {a b : List VT} {r : VT} (h : pickR a b = some r) : (pkB a b = true → ∃ l, a = r :: l) ∧ (pkB a b = false → ∃ l, b = r :: l) := by
  cases a with
  | nil =>
    cases b with
    | nil => simp [pickR] at h
    | cons y b => simp [pickR, pkB] at h ⊢; exact h
  | cons x a =>
    cases b with
    | nil => simp [pickR, pkB] at h ⊢; exact h
    | cons y b =>
      simp only [pickR, Option.some.injEq] at h
      simp only [pkB]
      by_cases hc : cmpR x y ≤ 0
      · rw [if_pos hc] at h; subst h; simp [hc]
      · rw [if_neg hc] at h; subst h; simp [hc]
theorem RSl.rows {W : World} {v : Value} {l : List VT} (h : RSl W v l) {x : VT} (hx : x ∈ l) : VT.Rows W.heap.size W x.a.A x.a.cap x.l := by
  obtain ⟨A, c, _, hr⟩ := h
  exact hr.2.2.1 x hx
/-- The row at the head. -/
theorem rr_head {B : Nat} {W : World} {A : Option Addr} {c : Nat} {x : VT} {l : List VT} (h : VT.RRow B W A c (x :: l)) : ∃ ad, A = some ad ∧ ad.block < B ∧ W.cell? ad = some (.slice x.a.A x.l.length x.a.cap) ∧ VT.Rows B W x.a.A x.a.cap x.l := by
  obtain ⟨ad, e, hb, hc⟩ := h.2.2.2 0 x rfl
  have : ad.add 0 = ad := by unfold Addr.add; rw [if_pos rfl]
  rw [this] at hc
  exact ⟨ad, e, hb, hc, h.2.2.1 x (by simp)⟩
/-- Two rows compared, in every world that a drawing region can pass through. -/
theorem cmp_reg {B : Nat} {w : World} {x y : VT} (hx : VT.Rows B w x.a.A x.a.cap x.l) (hy : VT.Rows B w y.a.A y.a.cap y.l) (hB : B ≤ w.heap.size) : ∀ (d : Nat) (os : Array Obj),
    Calls Try.prog 27 #[.slice x.a.A x.l.length x.a.cap, .slice y.a.A y.l.length y.a.cap] (Sort.grow (redrawn w d) os) fun e w'' => e = .returned (.int .i64 (cmpR x y)) ∧ ∃ p : Regrown, w'' = Sort.grow (redrawn w p.d) p.os := fun d os =>
  have hs : Same B w (Sort.grow (redrawn w d) os) := Same.mono (Same.of_below (below_regrown w d os)) hB
  Calls.regrown_of (cmpOk x y B _ (hx.keep hs) (hy.keep hs) (Nat.le_trans hB (below_regrown w d os).size))
theorem same_reg {B : Nat} {w : World} {x y : VT} (hx : VT.Rows B w x.a.A x.a.cap x.l) (hy : VT.Rows B w y.a.A y.a.cap y.l) (hB : B ≤ w.heap.size) : ∀ (d : Nat) (os : Array Obj),
    Calls Try.prog 28 #[.slice x.a.A x.l.length x.a.cap, .slice y.a.A y.l.length y.a.cap] (Sort.grow (redrawn w d) os) fun e w'' => e = .returned (.bool (cmpR x y == 0)) ∧ ∃ p : Regrown, w'' = Sort.grow (redrawn w p.d) p.os := fun d os =>
  have hs : Same B w (Sort.grow (redrawn w d) os) := Same.mono (Same.of_below (below_regrown w d os)) hB
  Calls.regrown_of (msame_any x y B _ (hx.keep hs) (hy.keep hs) (Nat.le_trans hB (below_regrown w d os).size))
/-- The tally that is being made. -/
def TbC (wo : World) (v : Value) (ka kb : Nat) (wx : World) : Prop := wx.heap[wo.heap.size]? = some (.cells #[v, .int .i64 ka, .int .i64 kb] 38 (0, 0)) ∧ Below wo.heap.size wo wx
theorem row_set3 {g o : Nat} {w : World} {cur : Array Value} {e : TypeId} (v : Value) (h : w.heap[g]? = some (.cells cur e (0, 0))) : (w.setCell ⟨g, o, none⟩ v).heap[g]? = some (.cells (cur.setIfInBounds o v) e (0, 0)) := by
  simp [World.setCell, Array.getElem?_modify, h]
theorem TbC.set0 {wo wx : World} {v : Value} {ka kb : Nat} (h : TbC wo v ka kb wx) (u : Value) : TbC wo u ka kb (wx.setCell ⟨wo.heap.size, 0, none⟩ u) :=
  ⟨row_set3 u h.1, h.2.setCell (Nat.le_refl _) u⟩
theorem TbC.set1 {wo wx : World} {v : Value} {ka kb : Nat} (h : TbC wo v ka kb wx) (n : Nat) : TbC wo v n kb (wx.setCell ⟨wo.heap.size, 1, none⟩ (.int .i64 n)) :=
  ⟨row_set3 _ h.1, h.2.setCell (Nat.le_refl _) _⟩
theorem TbC.set2 {wo wx : World} {v : Value} {ka kb : Nat} (h : TbC wo v ka kb wx) (n : Nat) : TbC wo v ka n (wx.setCell ⟨wo.heap.size, 2, none⟩ (.int .i64 n)) :=
  ⟨row_set3 _ h.1, h.2.setCell (Nat.le_refl _) _⟩
theorem TbC.cells {wo wx : World} {v : Value} {ka kb : Nat} (h : TbC wo v ka kb wx) : (wx.cell? ⟨wo.heap.size, 0, none⟩ = some v ∧ wx.cell? ⟨wo.heap.size, 1, none⟩ = some (.int .i64 ka) ∧ wx.cell? ⟨wo.heap.size, 2, none⟩ = some (.int .i64 kb)) ∧
    ∀ i, wx.frozen? ⟨wo.heap.size, i, none⟩ = false := by
  refine ⟨⟨?_, ?_, ?_⟩, fun i => ?_⟩ <;> simp [World.cell?, World.frozen?, h.1]
theorem TbC.below {wo wx wy : World} {v : Value} {ka kb : Nat} (h : TbC wo v ka kb wx) (hb : Below wx.heap.size wx wy) : TbC wo v ka kb wy :=
  ⟨(hb.block _ (Array.getElem?_eq_some_iff.1 h.1).1).trans h.1, h.2.trans (hb.mono h.2.size)⟩
theorem rows_len {B : Nat} {w : World} {A : Option Addr} {c : Nat} {l : List VT} (h : VT.RRow B w A c l) : l.length ≤ 9223372036854775807 := by
  have := h.1
  have := h.2.1
  unfold maxLen at this
  omega
theorem same_reg2 {B : Nat} {w : World} {x y : VT} (hx : VT.Rows B w x.a.A x.a.cap x.l) (hy : VT.Rows B w y.a.A y.a.cap y.l) (hB : B ≤ w.heap.size) {b : Bool} (hb : (cmpR x y == 0) = b) : ∀ (d : Nat) (os : Array Obj),
    Calls Try.prog 28 #[.slice x.a.A x.l.length x.a.cap, .slice y.a.A y.l.length y.a.cap] (Sort.grow (redrawn w d) os) fun e w'' => e = .returned (.bool b) ∧ ∃ p : Regrown, w'' = Sort.grow (redrawn w p.d) p.os := by
  subst hb
  exact same_reg hx hy hB
theorem TalOk.of {a b La Lb : List VT} {T : List TT} (h : TalOk La Lb T) (h1 : ∀ p : VT → Bool, La.countP p = a.countP p) (h2 : ∀ p : VT → Bool, Lb.countP p = b.countP p) : TalOk a b T := by
  have via : ∀ (l L : List VT), (∀ p : VT → Bool, L.countP p = l.countP p) → ∀ x, x ∈ l → ∃ y, y ∈ L ∧ cmpR y x = 0 := fun l L e x hx => by
    have hp : 0 < l.countP (eqR x) := List.countP_pos_iff.2 ⟨x, hx, by unfold eqR; rw [cmpR_self]; rfl⟩
    rw [← e] at hp
    obtain ⟨y, hy, hq⟩ := List.countP_pos_iff.1 hp
    exact ⟨y, hy, by unfold eqR at hq; simpa using hq⟩
  refine ⟨h.inc, fun t ht => ?_, fun x hx => ?_⟩
  · obtain ⟨c1, c2⟩ := h.cnt t ht
    exact ⟨c1.trans (h1 _), c2.trans (h2 _)⟩
  · have hy : ∃ y, (y ∈ La ∨ y ∈ Lb) ∧ cmpR y x = 0 := by
      rcases hx with hx | hx
      · obtain ⟨y, hy, e⟩ := via a La h1 x hx
        exact ⟨y, .inl hy, e⟩
      · obtain ⟨y, hy, e⟩ := via b Lb h2 x hx
        exact ⟨y, .inr hy, e⟩
    obtain ⟨y, hy, e⟩ := hy
    obtain ⟨t, ht, e2⟩ := h.all y hy
    refine ⟨t, ht, ?_⟩
    have e3 := cmpR_neg x y
    exact (cmpR_tr x y t.row).2.2.2 (by omega) e2
theorem rr_tail {B : Nat} {W : World} {ad : Addr} {c : Nat} {x : VT} {l : List VT} (h : VT.RRow B W (some ad) c (x :: l)) : VT.RRow B W (if c = 1 then some ad else some ⟨ad.block, ad.off + 1, none⟩) (c - 1) l := by
  obtain ⟨h1, h2, h3, h4⟩ := h
  rw [List.length_cons] at h1
  refine ⟨by omega, by omega, fun y hy => h3 y (by simp [hy]), fun i y hy => ?_⟩
  have hi := (List.getElem?_eq_some_iff.1 hy).1
  obtain ⟨ad', e, hb, hc⟩ := h4 (i + 1) y (by simpa using hy)
  cases e
  rw [if_neg (by omega)]
  refine ⟨_, rfl, hb, ?_⟩
  have e1 : (⟨ad.block, ad.off + 1, none⟩ : Addr) = ad.add 1 := by unfold Addr.add; simp
  rw [e1, add_add2, Nat.add_comm]
  exact hc
theorem RSl.tail {W : World} {ad : Addr} {c : Nat} {x : VT} {l : List VT} (h : VT.RRow W.heap.size W (some ad) c (x :: l)) : RSl W (.slice (if c = 1 then some ad else some ⟨ad.block, ad.off + 1, none⟩) l.length (c - 1)) l :=
  ⟨_, _, rfl, rr_tail h⟩
theorem cut_eq {r x : VT} {l : List VT} (h : cmpR x r = 0) : cutN r (x :: l) = cutN r l + 1 ∧ cutR r (x :: l) = cutR r l := by
  rw [cutN, cutR, if_pos h, if_pos h]
  exact ⟨rfl, rfl⟩
theorem cut_ne {r x : VT} {l : List VT} (h : ¬ cmpR x r = 0) : cutN r (x :: l) = 0 ∧ cutR r (x :: l) = x :: l := by
  rw [cutN, cutR, if_neg h, if_neg h]
  exact ⟨rfl, rfl⟩
theorem new_src3 (w : World) (cs : Array Value) (t : TypeId) : SrcAt (w.alloc (.cells cs t)) (some ⟨w.heap.size, 0, none⟩) cs.toList := .inr ⟨_, rfl, fun j u hu => by
  have hadd : (⟨w.heap.size, 0, none⟩ : Addr).add j = ⟨w.heap.size, j, none⟩ := by unfold Addr.add; split <;> simp_all
  rw [hadd, cell_new, ← Array.getElem?_toList]
  exact hu⟩
/-- The head of the loop. -/
def TlRel (W1 : World) (La Lb : List VT) (va vb ov : Value) (wr : World) : Prop :=
  ∃ (l1 l2 : List VT) (T : List TT) (f : Nat), RSl W1 va l1 ∧ RSl W1 vb l2 ∧ l1.length + l2.length ≤ f ∧ T.length + (l1.length + l2.length) ≤ La.length + Lb.length ∧ talF (La.length + Lb.length) La Lb = T ++ talF f l1 l2 ∧
    wr.ownsRow W1.heap.size 38 3 ov T.length (T.flatMap TT.c) ∧ PFr (fun _ => False) W1 (.slice none 0 0) wr ov ∧ (∀ t, t ∈ T → t.row ∈ La ∨ t.row ∈ Lb) ∧ (∀ x, x ∈ l1 → x ∈ La) ∧ (∀ x, x ∈ l2 → x ∈ Lb)
/-- How many rows there are in all. -/
def tsum (T : List TT) : Nat := (T.map fun t => t.a + t.b).sum
theorem tal_sum : ∀ (f : Nat) (a b : List VT), tsum (talF f a b) ≤ a.length + b.length
  | 0, _, _ => Nat.zero_le _
  | f + 1, a, b => by
    unfold talF
    cases pickR a b with
    | none => exact Nat.zero_le _
    | some r =>
      have n1 := cut_len r a
      have n2 := cut_len r b
      have ih := tal_sum f (cutR r a) (cutR r b)
      show cutN r a + cutN r b + tsum _ ≤ _
      omega
/-- The result. -/
def TlPost (La Lb : List VT) (_B : Nat) (w : World) (e : Ending) (w' : World) : Prop :=
  ∃ (A : Option Addr) (cap : Nat) (T : List TT), e = .returned (.slice A T.length cap) ∧ Below w.heap.size w w' ∧ tsum T ≤ La.length + Lb.length ∧ TalOk La Lb T ∧ (∀ t, t ∈ T → t.row ∈ La ∨ t.row ∈ Lb) ∧
    GRow TT.c 3 w'.heap.size w' A cap T
set_option maxRecDepth 100000 in
set_option maxHeartbeats 8000000 in
theorem tallies_any (A A2 : Option Addr) (cap cap2 : Nat) (a b : List VT) (B : Nat) (w : World) (ha : VT.RRow B w A cap a) (hb : VT.RRow B w A2 cap2 b) (hB : B ≤ w.heap.size) (hn : a.length ≤ 1048576) (hn2 : b.length ≤ 1048576) :
    Calls Try.prog 17 #[.slice A a.length cap, .slice A2 b.length cap2] w (TlPost a b B w) := by
  obtain ⟨i0, hi, iz, isz, iby⟩ := info_parts infoTally
  have h1 := Lib.hid (msorted_any A cap a B w ha hB hn)
  have h2 := Lib.hid (fun (W : World) (h : Below w.heap.size w W) => msorted_any A2 cap2 b B W (hb.keep (Same.mono (Same.of_below h) hB)) (Nat.le_trans hB h.size) hn2)
  have Ha := Lib.hid ha
  have Hb := Lib.hid hb
  clear ha hb
  go_enter Try.func17, Try.ntmps17
  go_wp2_with fail
  refine h1.out.mono ?_
  rintro e w1 ⟨A1, c1, La, rfl, hb1, hl1, hs1, hc1, hm1, hr1⟩
  have hcl2 := Lib.hid (h2.out w1 hb1)
  obtain ⟨n1, hn1⟩ : ∃ n1, La.length = n1 := ⟨_, rfl⟩
  rw [hn1]
  have Hl1 := Lib.hid hl1
  have Hs1 := Lib.hid hs1
  have Hc1 := Lib.hid hc1
  have HM1 := Lib.hid hm1
  have Hr1 := Lib.hid hr1
  have Hn1 := Lib.hid hn1
  clear hl1 hs1 hc1 hm1 hr1 hn1
  go_wp2_with fail
  refine hcl2.out.mono ?_
  rintro e w2 ⟨A2', c2, Lb, rfl, hb2, hl2, hs2, hc2, hm2, hr2⟩
  obtain ⟨n2, hn2'⟩ : ∃ n2, Lb.length = n2 := ⟨_, rfl⟩
  rw [hn2']
  have Hl2 := Lib.hid hl2
  have Hs2 := Lib.hid hs2
  have Hc2 := Lib.hid hc2
  have HM2 := Lib.hid hm2
  have Hr2 := Lib.hid (hr2 w2 (Keeps.refl _ _) (fun k hk => hb2.block k (by have := hb1.size; omega)))
  have Hn2 := Lib.hid hn2'
  have hb12 : Below w.heap.size w w2 := hb1.trans (hb2.mono hb1.size)
  have HR1 := Lib.hid (Hr1.out w2 ⟨fun q h1 h2 => hb2.block q h2, hb2.size⟩ (fun k hk => (hb12.block k (by omega))))
  have HN : Hid (La.length + Lb.length ≤ 2097152) := by show _ ≤ _; have := Hl1.out; omega
  clear hl2 hs2 hc2 hm2 hr2 hn2' h1 h2 hcl2 Hr1 hn hn2
  go_wp2
  go_loopw [0, 1, 5] (fun va vb ov wr => TlRel w2 La Lb va vb ov wr) (fun va vb _ _ => slLen va + slLen vb)
  case atStart => exact ⟨La, Lb, [], La.length + Lb.length, ⟨A1, c1, by rw [Hn1.out], HR1.out⟩, ⟨A2', c2, by rw [Hn2.out], Hr2.out⟩, Nat.le_refl _, by simp, rfl, World.ownsRow_nil _ _ _ _, PFr.refl _ _ _, (fun t h => by cases h), (fun x h => h), fun x h => h⟩
  case round =>
    obtain ⟨wo, rfl⟩ : ∃ wo : World, wo = wr := ⟨_, rfl⟩
    obtain ⟨l1, l2, T, f, ⟨B1, d1, rfl, hq1⟩, ⟨B2, d2, rfl, hq2⟩, hf, hT, htal, hown, hpf, hTm, hin1, hin2⟩ := hrel
    have hbo : Below w2.heap.size w2 wo := hpf.toBelow (Nat.le_refl _) (fun k e => e.elim)
    obtain ⟨m1, hm1⟩ : ∃ m, l1.length = m := ⟨_, rfl⟩
    obtain ⟨m2, hm2⟩ : ∃ m, l2.length = m := ⟨_, rfl⟩
    have Hq1 := Lib.hid hq1
    have Hq2 := Lib.hid hq2
    have Hf := Lib.hid hf
    have HT := Lib.hid hT
    have Htal := Lib.hid htal
    have Hown := Lib.hid hown
    have Hpf := Lib.hid hpf
    have HTm := Lib.hid hTm
    have Hin1 := Lib.hid hin1
    have Hin2 := Lib.hid hin2
    have Hbo := Lib.hid hbo
    have Hm1 := Lib.hid hm1
    have Hm2 := Lib.hid hm2
    have hmd : m1 ≤ maxLen ∧ m2 ≤ maxLen := by rw [← hm1, ← hm2]; exact ⟨Nat.le_trans hq1.1 hq1.2.1, Nat.le_trans hq2.1 hq2.2.1⟩
    clear hq1 hq2 hf hT htal hown hpf hTm hin1 hin2 hbo
    rw [hm1, hm2]
    clear hm1 hm2
    by_cases hz : m1 = 0 ∧ m2 = 0
    · obtain ⟨rfl, rfl⟩ := hz
      clear hmd
      go_wp2
      go_ret
      have e1 : l1 = [] := List.length_eq_zero_iff.1 Hm1.out
      have e2 : l2 = [] := List.length_eq_zero_iff.1 Hm2.out
      have eT : talF (La.length + Lb.length) La Lb = T := by
        rw [Htal.out, e1, e2]
        cases f <;> simp [talF, pickR]
      obtain ⟨A3, c3, rfl, hg3, _⟩ := own_grow (c := TT.c) Hown.out rfl (fun t _ => rfl)
      have htl := (tal_ok _ La Lb (Nat.le_refl _) Hs1.out Hs2.out).1
      rw [eT] at htl
      have hT := tal_sum (La.length + Lb.length) La Lb
      rw [eT, Hl1.out, Hl2.out] at hT
      refine ⟨A3, c3, T, rfl, hb12.trans (Hbo.out.mono hb12.size), hT, htl.of Hc1.out Hc2.out, fun t ht => ?_, hg3⟩
      rcases HTm.out t ht with h | h
      · exact .inl (HM1.out _ h)
      · exact .inr (HM2.out _ h)
    · unfold maxLen at hmd
      obtain ⟨hmd1, hmd2⟩ := hmd
      cases hpk : pickR l1 l2 with
      | none =>
        obtain ⟨e1, e2⟩ := pick_none hpk
        exact absurd ⟨by rw [← Hm1.out, e1]; rfl, by rw [← Hm2.out, e2]; rfl⟩ hz
      | some r =>
        have Hpk := Lib.hid hpk
        clear hpk
        obtain ⟨W0, hW0⟩ : ∃ W0, wo.alloc (.cells #[.slice none 0 0, .int .i64 0, .int .i64 0] 38) = W0 := ⟨_, rfl⟩
        have hbW : Below wo.heap.size wo W0 := by rw [← hW0]; exact (Below.refl _ _).alloc (Nat.le_refl _) _
        have hT0 : W0.heap[wo.heap.size]? = some (.cells #[.slice none 0 0, .int .i64 0, .int .i64 0] 38 (0, 0)) := by rw [← hW0]; exact heap_alloc_new _ _
        have hzW : W0.heap.size = wo.heap.size + 1 := by rw [← hW0]; simp
        have HW0 := Lib.hid hW0
        have HbW := Lib.hid hbW
        have HT0 := Lib.hid hT0
        have HzW := Lib.hid hzW
        clear hW0 hbW hT0 hzW
        have hpos : 0 < m1 ∨ (¬ 0 < m1 ∧ 0 < m2) := by omega
        have Hb2W := Lib.hid (Hbo.out.trans (HbW.out.mono Hbo.out.size))
        clear hz
        rcases hpos with h1 | ⟨h1, h2⟩
        all_goals
          go_upto_region 5 with (fail)
          rw [HW0.out]
          go_cut [36] (fun s wx => s = .bool (pkB l1 l2) ∧ Below W0.heap.size W0 wx)
          case first =>
            cases l1 with
            | nil =>
              have e0 : m1 = 0 := Hm1.out.symm
              try (exfalso; omega)
              all_goals
                cases l2 with
                | nil => exact absurd Hpk.out (by simp [pickR])
                | cons y l2 =>
                  have e2 : m2 = l2.length + 1 := Hm2.out.symm
                  have g1 : ((m2 : Int) == 0) = false := by rw [beq_eq_false_iff_ne]; omega
                  have g2 : decide (0 < m1) = false := by rw [decide_eq_false_iff_not]; omega
                  clear e0 e2 h1
                  go_quiet (fail)
                  go_wp2_with fail
                  go_meet
                  exact ⟨rfl, below_drewNk _ _⟩
            | cons x l1 =>
              have e1 : m1 = l1.length + 1 := Hm1.out.symm
              try (exfalso; omega)
              all_goals
                cases l2 with
                | nil =>
                  have e2 : m2 = 0 := Hm2.out.symm
                  have g1 : ((m2 : Int) == 0) = true := by rw [e2]; rfl
                  clear e1 e2
                  go_quiet (fail)
                  go_wp2_with fail
                  go_meet
                  exact ⟨rfl, below_drewNk _ _⟩
                | cons y l2 =>
                  have e2 : m2 = l2.length + 1 := Hm2.out.symm
                  have g1 : ((m2 : Int) == 0) = false := by rw [beq_eq_false_iff_ne]; omega
                  have p2 : 0 < m2 := by omega
                  obtain ⟨a1, rfl, ha1, u1, r1⟩ := rr_head Hq1.out
                  obtain ⟨a2, rfl, ha2, u2, r2⟩ := rr_head Hq2.out
                  have hS : Same w2.heap.size w2 W0 := Same.of_below Hb2W.out
                  have hcm := Lib.hid (cmp_reg (r1.keep hS) (r2.keep hS) Hb2W.out.size)
                  have k1 := cell_regrown ((hS.cell ha1).trans u1)
                  have k2 := cell_regrown ((hS.cell ha2).trans u2)
                  clear e1 e2 u1 u2 r1 r2 hS
                  (refine wp_region_quiet_below (by kernel_rfl) (by kernel_rfl) ?_; (repeat (quiet_step (with_reducible first | exact hcm.out _ _))); refine wpQuiet_nil ?_; intro _ hw'; obtain ⟨⟨dq, osq⟩, hw''⟩ := hw'; subst hw'')
                  go_wp2_with fail
                  go_meet
                  exact ⟨rfl, below_regrown _ _ _⟩
          case rest =>
            obtain ⟨hs36, hbx⟩ := hcut
            have HT1 : Hid (TbC wo (.slice none 0 0) 0 0 wc) := by
              have z := HzW.out
              exact ⟨(hbx.block _ (by omega)).trans HT0.out, HbW.out.trans (hbx.mono (by omega))⟩
            subst hs36
            clear hbx HW0 HT0 HbW HzW Hb2W
            go_upto_if 36 with (fail)
            go_cut [] (fun wx => TbC wo (rwV r) 0 0 wx)
            case first =>
              obtain ⟨⟨c0, c1, c2⟩, fz⟩ := HT1.out.cells
              have hb2 : Below w2.heap.size w2 wc := Hbo.out.trans (HT1.out.2.mono Hbo.out.size)
              have hS : Same w2.heap.size w2 wc := Same.of_below hb2
              have f0 := fz 0
              cases hpb : pkB l1 l2 with
              | true =>
                obtain ⟨l, rfl⟩ := (pk_pick Hpk.out).1 hpb
                obtain ⟨a1, rfl, ha1, u1, _⟩ := rr_head Hq1.out
                have k1 := (hS.cell ha1).trans u1
                have p1 : 0 < m1 := by have := Hm1.out; simp only [List.length_cons] at this; omega
                try exact absurd p1 h1
                all_goals
                  clear hS hb2 u1 hpb c1 c2
                  go_wp2_with fail
                  go_meet
                  exact HT1.out.set0 _
              | false =>
                obtain ⟨l, rfl⟩ := (pk_pick Hpk.out).2 hpb
                obtain ⟨a1, rfl, ha1, u1, _⟩ := rr_head Hq2.out
                have k1 := (hS.cell ha1).trans u1
                have p1 : 0 < m2 := by have := Hm2.out; simp only [List.length_cons] at this; omega
                clear hS hb2 u1 hpb c1 c2
                go_wp2_with fail
                go_meet
                exact HT1.out.set0 _
            case rest =>
              have HT2 := Lib.hid hcut
              clear hcut HT1
              have Hrr : Hid (VT.Rows w2.heap.size w2 r.a.A r.a.cap r.l) := by
                cases hpb : pkB l1 l2 with
                | true => obtain ⟨l, rfl⟩ := (pk_pick Hpk.out).1 hpb; exact Hq1.out.2.2.1 r (by simp)
                | false => obtain ⟨l, rfl⟩ := (pk_pick Hpk.out).2 hpb; exact Hq2.out.2.2.1 r (by simp)
              go_upto_block 2 with (fail)
              go_cut [0] (fun va wx => RSl w2 va (cutR r l1) ∧ TbC wo (rwV r) (cutN r l1) 0 wx)
              case first =>
                go_wp2_with fail
                go_loopw [0] (fun va wr => ∃ (l : List VT) (k : Nat), RSl w2 va l ∧ k + cutN r l = cutN r l1 ∧ cutR r l = cutR r l1 ∧ k + l.length ≤ l1.length ∧ TbC wo (rwV r) k 0 wr) (fun va _ => slLen va)
                case atStart => exact ⟨l1, 0, ⟨B1, d1, by rw [Hm1.out], Hq1.out⟩, by omega, rfl, by omega, HT2.out⟩
                case round =>
                  obtain ⟨wi, rfl⟩ : ∃ wi : World, wi = wr := ⟨_, rfl⟩
                  obtain ⟨l, k, ⟨C, cp, rfl, hq⟩, hk, hR, hle, ht⟩ := hrel
                  have Hq := Lib.hid hq
                  have Hk := Lib.hid hk
                  have HR := Lib.hid hR
                  have Hle := Lib.hid hle
                  have Ht := Lib.hid ht
                  clear hq hk hR hle ht
                  go_upto_region 8 with (fail)
                  cases l with
                  | nil =>
                    go_quiet (fail)
                    go_wp2_with fail
                    go_meet
                    refine ⟨⟨C, cp, by rw [← HR.out]; rfl, by rw [← HR.out]; exact Hq.out⟩, ?_⟩
                    have e : k = cutN r l1 := by have := Hk.out; simpa [cutN] using this
                    rw [← e]
                    exact Ht.out.below (below_drewNk _ _)
                  | cons x l =>
                    obtain ⟨m, hm⟩ : ∃ m, (x :: l).length = m := ⟨_, rfl⟩
                    have Hm := Lib.hid hm
                    have p1 : 0 < m := by rw [← hm]; simp
                    have p3 := rows_len Hq.out
                    rw [hm] at p3 ⊢
                    have p2 : m ≤ 2 ^ 63 - 1 := by omega
                    have p4 : k + m ≤ 2 ^ 63 - 1 := by
                      have := Hle.out
                      have q := rows_len Hq1.out
                      rw [hm] at this
                      omega
                    clear hm p3
                    obtain ⟨a1, rfl, ha1, u1, r1⟩ := rr_head Hq.out
                    obtain ⟨⟨c0, c1, c2⟩, fz⟩ := Ht.out.cells
                    have hbi : Below w2.heap.size w2 wi := Hbo.out.trans (Ht.out.2.mono Hbo.out.size)
                    have hS : Same w2.heap.size w2 wi := Same.of_below hbi
                    have k1 := cell_regrown ((hS.cell ha1).trans u1)
                    unfold rwV at c0
                    have k0 := cell_regrown c0
                    by_cases hc : cmpR x r = 0
                    · have hcm := Lib.hid (same_reg2 (r1.keep hS) (Hrr.out.keep hS) hbi.size (b := true) (by rw [hc]; rfl))
                      have Hc := Lib.hid hc
                      clear u1 r1 hS c0 c1 c2 fz hc
                      (refine wp_region_quiet_below (by kernel_rfl) (by kernel_rfl) ?_; (repeat (quiet_step (with_reducible first | exact hcm.out _ _))); refine wpQuiet_nil ?_; intro _ hw'; obtain ⟨⟨dq, osq⟩, hw''⟩ := hw'; subst hw'')
                      have hb2 := below_regrown wi dq osq
                      have hw1 : Sort.grow (redrawn wi (Regrown.mk dq osq).d) (Regrown.mk dq osq).os = Sort.grow (redrawn wi dq) osq := rfl
                      rw [hw1]
                      clear hw1
                      generalize Sort.grow (redrawn wi dq) osq = wj at hb2 ⊢
                      have Ht2 := Lib.hid (Ht.out.below hb2)
                      obtain ⟨⟨c0, c1, c2⟩, fz⟩ := Ht2.out.cells
                      have f1 := fz 1
                      have e2 : IntKind.i64.wrap ((k : Int) + 1) = (k : Int) + 1 := IntWalk.i64_in _ ⟨by omega, by omega⟩
                      have e3 : m - 1 = l.length := by have := Hm.out; simp only [List.length_cons] at this; omega
                      clear k0 k1 hcm hb2 hbi fz
                      go_wp2
                      refine ⟨⟨l, k + 1, RSl.tail Hq.out, ?_, ?_, ?_, ?_⟩, by simp [slLen]⟩
                      · have := Hk.out
                        rw [(cut_eq Hc.out).1] at this
                        omega
                      · have := HR.out
                        rw [(cut_eq Hc.out).2] at this
                        exact this
                      · have := Hle.out
                        rw [List.length_cons] at this
                        omega
                      · exact Ht2.out.set1 (k + 1)
                    · have hcm := Lib.hid (same_reg2 (r1.keep hS) (Hrr.out.keep hS) hbi.size (b := false) (by rw [beq_eq_false_iff_ne]; exact hc))
                      have Hc := Lib.hid hc
                      clear u1 r1 hS c0 c1 c2 fz hc
                      (refine wp_region_quiet_below (by kernel_rfl) (by kernel_rfl) ?_; (repeat (quiet_step (with_reducible first | exact hcm.out _ _))); refine wpQuiet_nil ?_; intro _ hw'; obtain ⟨⟨dq, osq⟩, hw''⟩ := hw'; subst hw'')
                      have hb2 := below_regrown wi dq osq
                      have hw1 : Sort.grow (redrawn wi (Regrown.mk dq osq).d) (Regrown.mk dq osq).os = Sort.grow (redrawn wi dq) osq := rfl
                      rw [hw1]
                      clear hw1
                      generalize Sort.grow (redrawn wi dq) osq = wj at hb2 ⊢
                      have Ht2 := Lib.hid (Ht.out.below hb2)
                      clear k0 k1 hcm hb2 hbi
                      go_wp2_with fail
                      go_meet
                      have e1 : cutR r l1 = x :: l := by
                        have := HR.out
                        rw [(cut_ne Hc.out).2] at this
                        exact this.symm
                      have e2 : cutN r l1 = k := by
                        have := Hk.out
                        rw [(cut_ne Hc.out).1] at this
                        exact this.symm
                      rw [e1, e2]
                      exact ⟨⟨some a1, cp, by rw [Hm.out], Hq.out⟩, Ht2.out⟩
              case rest =>
                obtain ⟨⟨C1, e1, hu0, hq1'⟩, hT3⟩ := hcut
                have Hq1' := Lib.hid hq1'
                have HT3 := Lib.hid hT3
                subst hu0
                clear hq1' hT3 HT2
                go_upto_block 4 with (fail)
                go_cut [1] (fun vb wx => RSl w2 vb (cutR r l2) ∧ TbC wo (rwV r) (cutN r l1) (cutN r l2) wx)
                case first =>
                  go_wp2_with fail
                  go_loopw [1] (fun vb wr => ∃ (l : List VT) (k : Nat), RSl w2 vb l ∧ k + cutN r l = cutN r l2 ∧ cutR r l = cutR r l2 ∧ k + l.length ≤ l2.length ∧ TbC wo (rwV r) (cutN r l1) k wr) (fun vb _ => slLen vb)
                  case atStart => exact ⟨l2, 0, ⟨B2, d2, by rw [Hm2.out], Hq2.out⟩, by omega, rfl, by omega, HT3.out⟩
                  case round =>
                    obtain ⟨wi, rfl⟩ : ∃ wi : World, wi = wr := ⟨_, rfl⟩
                    obtain ⟨l, k, ⟨C, cp, rfl, hq⟩, hk, hR, hle, ht⟩ := hrel
                    have Hq := Lib.hid hq
                    have Hk := Lib.hid hk
                    have HR := Lib.hid hR
                    have Hle := Lib.hid hle
                    have Ht := Lib.hid ht
                    clear hq hk hR hle ht
                    go_upto_region 11 with (fail)
                    cases l with
                    | nil =>
                      go_quiet (fail)
                      go_wp2_with fail
                      go_meet
                      refine ⟨⟨C, cp, by rw [← HR.out]; rfl, by rw [← HR.out]; exact Hq.out⟩, ?_⟩
                      have e : k = cutN r l2 := by have := Hk.out; simpa [cutN] using this
                      rw [← e]
                      exact Ht.out.below (below_drewNk _ _)
                    | cons x l =>
                      obtain ⟨m, hm⟩ : ∃ m, (x :: l).length = m := ⟨_, rfl⟩
                      have Hm := Lib.hid hm
                      have p1 : 0 < m := by rw [← hm]; simp
                      have p3 := rows_len Hq.out
                      rw [hm] at p3 ⊢
                      have p2 : m ≤ 2 ^ 63 - 1 := by omega
                      have p4 : k + m ≤ 2 ^ 63 - 1 := by
                        have := Hle.out
                        have q := rows_len Hq2.out
                        rw [hm] at this
                        omega
                      clear hm p3
                      obtain ⟨a1, rfl, ha1, u1, r1⟩ := rr_head Hq.out
                      obtain ⟨⟨c0, c1, c2⟩, fz⟩ := Ht.out.cells
                      have hbi : Below w2.heap.size w2 wi := Hbo.out.trans (Ht.out.2.mono Hbo.out.size)
                      have hS : Same w2.heap.size w2 wi := Same.of_below hbi
                      have k1 := cell_regrown ((hS.cell ha1).trans u1)
                      unfold rwV at c0
                      have k0 := cell_regrown c0
                      by_cases hc : cmpR x r = 0
                      · have hcm := Lib.hid (same_reg2 (r1.keep hS) (Hrr.out.keep hS) hbi.size (b := true) (by rw [hc]; rfl))
                        have Hc := Lib.hid hc
                        clear u1 r1 hS c0 c1 c2 fz hc
                        (refine wp_region_quiet_below (by kernel_rfl) (by kernel_rfl) ?_; (repeat (quiet_step (with_reducible first | exact hcm.out _ _))); refine wpQuiet_nil ?_; intro _ hw'; obtain ⟨⟨dq, osq⟩, hw''⟩ := hw'; subst hw'')
                        have hb2 := below_regrown wi dq osq
                        have hw1 : Sort.grow (redrawn wi (Regrown.mk dq osq).d) (Regrown.mk dq osq).os = Sort.grow (redrawn wi dq) osq := rfl
                        rw [hw1]
                        clear hw1
                        generalize Sort.grow (redrawn wi dq) osq = wj at hb2 ⊢
                        have Ht2 := Lib.hid (Ht.out.below hb2)
                        obtain ⟨⟨c0, c1, c2⟩, fz⟩ := Ht2.out.cells
                        have f1 := fz 2
                        have e2 : IntKind.i64.wrap ((k : Int) + 1) = (k : Int) + 1 := IntWalk.i64_in _ ⟨by omega, by omega⟩
                        have e3 : m - 1 = l.length := by have := Hm.out; simp only [List.length_cons] at this; omega
                        clear k0 k1 hcm hb2 hbi fz
                        go_wp2
                        refine ⟨⟨l, k + 1, RSl.tail Hq.out, ?_, ?_, ?_, ?_⟩, by simp [slLen]⟩
                        · have := Hk.out
                          rw [(cut_eq Hc.out).1] at this
                          omega
                        · have := HR.out
                          rw [(cut_eq Hc.out).2] at this
                          exact this
                        · have := Hle.out
                          rw [List.length_cons] at this
                          omega
                        · exact Ht2.out.set2 (k + 1)
                      · have hcm := Lib.hid (same_reg2 (r1.keep hS) (Hrr.out.keep hS) hbi.size (b := false) (by rw [beq_eq_false_iff_ne]; exact hc))
                        have Hc := Lib.hid hc
                        clear u1 r1 hS c0 c1 c2 fz hc
                        (refine wp_region_quiet_below (by kernel_rfl) (by kernel_rfl) ?_; (repeat (quiet_step (with_reducible first | exact hcm.out _ _))); refine wpQuiet_nil ?_; intro _ hw'; obtain ⟨⟨dq, osq⟩, hw''⟩ := hw'; subst hw'')
                        have hb2 := below_regrown wi dq osq
                        have hw1 : Sort.grow (redrawn wi (Regrown.mk dq osq).d) (Regrown.mk dq osq).os = Sort.grow (redrawn wi dq) osq := rfl
                        rw [hw1]
                        clear hw1
                        generalize Sort.grow (redrawn wi dq) osq = wj at hb2 ⊢
                        have Ht2 := Lib.hid (Ht.out.below hb2)
                        clear k0 k1 hcm hb2 hbi
                        go_wp2_with fail
                        go_meet
                        have e1 : cutR r l2 = x :: l := by
                          have := HR.out
                          rw [(cut_ne Hc.out).2] at this
                          exact this.symm
                        have e2 : cutN r l2 = k := by
                          have := Hk.out
                          rw [(cut_ne Hc.out).1] at this
                          exact this.symm
                        rw [e1, e2]
                        exact ⟨⟨some a1, cp, by rw [Hm.out], Hq.out⟩, Ht2.out⟩
                case rest =>
                  obtain ⟨⟨C2, e2, hu1, hq2'⟩, hT4⟩ := hcut
                  have Hq2' := Lib.hid hq2'
                  have HT4 := Lib.hid hT4
                  subst hu1
                  obtain ⟨⟨c0, c1, c2⟩, _⟩ := hT4.cells
                  unfold rwV at c0
                  have hownY : Hid (∀ o, (wc.alloc o).ownsRow w2.heap.size 38 3 u5 T.length (T.flatMap TT.c)) := fun o => (own_below Hown.out hT4.2).alloc o
                  have hll := pick_cut Hpk.out
                  have hl1 := cut_len r l1
                  have hl2 := cut_len r l2
                  have h3 : Hid (T.length + 1 ≤ maxLen) := by show _ ≤ _; have := HT.out; have := HN.out; unfold maxLen; omega
                  have h4 : Hid ((T.length + 1) * 40 ≤ 140737488355328) := by show _ ≤ _; have := HT.out; have := HN.out; omega
                  have h5 : Hid (∀ o, w2.heap.size ≤ (wc.alloc o).heap.size) := fun o => by
                    have z1 := Hbo.out.size
                    have z2 := hT4.2.size
                    simp
                    omega
                  have Hll := Lib.hid hll
                  have Hc1' := Lib.hid hl1
                  have Hc2' := Lib.hid hl2
                  clear hq2' hT4 HT3 hll hl1 hl2
                  go_wp2_with (at_builtin; refine wpList_append_row _ rfl _ _ 35 rfl w2.heap.size 38 i0 _ 3 40 Try.underlying35 hi iz isz iby rfl (by decide) u5 T.length _ rfl (hownY.out _) (some ⟨wc.heap.size, 0, none⟩) 1 1 [.slice r.a.A r.l.length r.a.cap, .int .i64 (cutN r l1), .int .i64 (cutN r l2)] rfl rfl (new_src3 _ _ _) (by simp [Value.oneCell']) h3.out h4.out (h5.out _) ?_; intro v' w5 hown5 hg5 hm5)
                  go_roundw
                  case rel =>
                    obtain ⟨f', rfl⟩ : ∃ f', f = f' + 1 := ⟨f - 1, by have := Hf.out; have := Hll.out; have := Hc1'.out; have := Hc2'.out; omega⟩
                    have ht : talF (f' + 1) l1 l2 = ⟨r, cutN r l1, cutN r l2⟩ :: talF f' (cutR r l1) (cutR r l2) := by
                      rw [talF, Hpk.out]
                    have hp : PFr (fun _ => False) w2 (.slice none 0 0) w5 v' := Hpf.out.trans ((PFr.below (HT4.out.2.alloc HT4.out.2.size _)).trans (PFr.grown hg5 hm5))
                    have hmem : r ∈ l1 ∨ r ∈ l2 := by
                      cases hpb : pkB l1 l2 with
                      | true => obtain ⟨l, e⟩ := (pk_pick Hpk.out).1 hpb; exact .inl (by rw [e]; simp)
                      | false => obtain ⟨l, e⟩ := (pk_pick Hpk.out).2 hpb; exact .inr (by rw [e]; simp)
                    have sub : ∀ (l : List VT) (x : VT), x ∈ cutR r l → x ∈ l := fun l x hx => by
                      obtain ⟨p, e, _⟩ := cutR_sub r l
                      rw [e]
                      exact List.mem_append_right _ hx
                    have n1 := Hf.out
                    have n2 := Hll.out
                    have n3 := Hc1'.out
                    have n4 := Hc2'.out
                    have n5 := HT.out
                    refine ⟨cutR r l1, cutR r l2, T ++ [⟨r, cutN r l1, cutN r l2⟩], f', ⟨_, _, rfl, Hq1'.out⟩, ⟨_, _, rfl, Hq2'.out⟩, by omega, by rw [List.length_append]; simp only [List.length_cons, List.length_nil]; omega, ?_, ?_, hp, fun t ht => ?_, fun x hx => Hin1.out x (sub _ x hx), fun x hx => Hin2.out x (sub _ x hx)⟩
                    · rw [Htal.out, ht, List.append_assoc]; rfl
                    · rw [List.flatMap_append, List.length_append]; exact hown5
                    · rcases List.mem_append.1 ht with ht | ht
                      · exact HTm.out t ht
                      · rw [List.mem_singleton] at ht
                        subst ht
                        exact hmem.imp (Hin1.out r) (Hin2.out r)
                  case measure =>
                    have n2 := Hll.out
                    have n3 := Hc1'.out
                    have n4 := Hc2'.out
                    have n5 := Hm1.out
                    have n6 := Hm2.out
                    simp [slLen]
                    omega
end Go.Proofs.Ytcdaipkkddgbeaa
