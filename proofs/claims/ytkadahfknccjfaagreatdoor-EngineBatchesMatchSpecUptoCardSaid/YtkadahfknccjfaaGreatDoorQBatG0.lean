/-
  A batch copied: what stands in its loops. slices.Clip of words, vectors, batches, rows.
-/
import Derived.Test.YtkadahfknccjfaaGreatDoorQBatH
import Derived.Test.YtkadahfknccjfaaGreatDoorQCloneA
import Derived.Test.YtkadahfknccjfaaGreatDoorQLawC
namespace Go.Proofs.YtkadahfknccjfaaGreatDoor
open Go.RowKit
set_option maxRecDepth 100000 in
theorem clipU_any (A : Option Addr) (n cap : Nat) (w : World) (h1 : n ≤ cap) (h2 : cap ≤ maxLen) (h0 : A = none → n = 0 ∧ cap = 0) :
    Calls Tryz.prog 29 #[.slice A n cap] w fun e w' => e = .returned (.slice A n n) ∧ w' = w := by
  unfold maxLen at h2
  cases A with
  | none =>
    obtain ⟨rfl, rfl⟩ := h0 rfl
    go_enter Tryz.func29, Tryz.ntmps29
    go_wp2
    go_ret
    exact ⟨rfl, rfl⟩
  | some ad =>
    clear h0
    go_enter Tryz.func29, Tryz.ntmps29
    go_wp2
    go_ret
    exact ⟨by simp, rfl⟩
set_option maxRecDepth 100000 in
theorem clipVec_any (A : Option Addr) (n cap : Nat) (w : World) (h1 : n ≤ cap) (h2 : cap ≤ maxLen) (h0 : A = none → n = 0 ∧ cap = 0) :
    Calls Tryz.prog 37 #[.slice A n cap] w fun e w' => e = .returned (.slice A n n) ∧ w' = w := by
  unfold maxLen at h2
  cases A with
  | none =>
    obtain ⟨rfl, rfl⟩ := h0 rfl
    go_enter Tryz.func37, Tryz.ntmps37
    go_wp2
    go_ret
    exact ⟨rfl, rfl⟩
  | some ad =>
    clear h0
    go_enter Tryz.func37, Tryz.ntmps37
    go_wp2
    go_ret
    exact ⟨by simp, rfl⟩
set_option maxRecDepth 100000 in
theorem clipBat_any (A : Option Addr) (n cap : Nat) (w : World) (h1 : n ≤ cap) (h2 : cap ≤ maxLen) (h0 : A = none → n = 0 ∧ cap = 0) :
    Calls Tryz.prog 14 #[.slice A n cap] w fun e w' => e = .returned (.slice A n n) ∧ w' = w := by
  unfold maxLen at h2
  cases A with
  | none =>
    obtain ⟨rfl, rfl⟩ := h0 rfl
    go_enter Tryz.func14, Tryz.ntmps14
    go_wp2
    go_ret
    exact ⟨rfl, rfl⟩
  | some ad =>
    clear h0
    go_enter Tryz.func14, Tryz.ntmps14
    go_wp2
    go_ret
    exact ⟨by simp, rfl⟩
set_option maxRecDepth 100000 in
theorem clipRow_any (A : Option Addr) (n cap : Nat) (w : World) (h1 : n ≤ cap) (h2 : cap ≤ maxLen) (h0 : A = none → n = 0 ∧ cap = 0) :
    Calls Tryz.prog 23 #[.slice A n cap] w fun e w' => e = .returned (.slice A n n) ∧ w' = w := by
  unfold maxLen at h2
  cases A with
  | none =>
    obtain ⟨rfl, rfl⟩ := h0 rfl
    go_enter Tryz.func23, Tryz.ntmps23
    go_wp2
    go_ret
    exact ⟨rfl, rfl⟩
  | some ad =>
    clear h0
    go_enter Tryz.func23, Tryz.ntmps23
    go_wp2
    go_ret
    exact ⟨by simp, rfl⟩
/-- What copyBatch comes to. -/
def CbPost (n : Nat) (cs : List VecT) (w : World) (e : Ending) (w' : World) : Prop :=
  ∃ (A : Option Addr) (cap : Nat) (cs' : List VecT), cs'.length = cs.length ∧ e = .returned (.agg #[.int .i64 n, .slice A cs'.length cap, .bool true, .slice none 0 0]) ∧ Below w.heap.size w w' ∧
    (∀ w'', Keeps w.heap.size w' w'' → GRow VecT.c 7 w''.heap.size w'' A cap cs' ∧ ∀ v, v ∈ cs' → VecT.In w''.heap.size w'' v) ∧ ∀ (k : Nat) (v v' : VecT), cs[k]? = some v → cs'[k]? = some v' → VecT.Sm v v'
/-- What the loop over the vectors has at its head. -/
def CbRel (cs : List VecT) (W0 : World) (ov i : Value) (wr : World) : Prop :=
  ∃ (j : Nat) (cs' : List VecT), j ≤ cs.length ∧ i = .int .i64 j ∧ cs'.length = j ∧ wr.ownsRow W0.heap.size 54 7 ov j (cs'.flatMap VecT.c) ∧ PFr (fun _ => False) W0 (.slice none 0 0) wr ov ∧
    (∀ v, v ∈ cs' → Md (· < W0.heap.size) ov wr fun w'' => VecT.In w''.heap.size w'' v) ∧ ∀ (k : Nat) (v v' : VecT), cs[k]? = some v → cs'[k]? = some v' → VecT.Sm v v'
theorem CbRel.start {cs : List VecT} {W0 : World} : CbRel cs W0 (.slice none 0 0) (.int .i64 ((0 : Nat) : Int)) W0 :=
  ⟨0, [], Nat.zero_le _, rfl, rfl, World.ownsRow_nil _ _ _ _, PFr.refl _ _ _, fun b hb => (by cases hb), fun k v v' _ h => by simp at h⟩
theorem CbRel.step {cs cs' : List VecT} {j : Nat} {W0 wo wx w4 : World} {ov ov' : Value} {v v' : VecT} (o : Obj) (hj : j < cs.length) (hl : cs'.length = j) (hown : wo.ownsRow W0.heap.size 54 7 ov j (cs'.flatMap VecT.c)) (hpf : PFr (fun _ => False) W0 (.slice none 0 0) wo ov)
    (hmd : ∀ v, v ∈ cs' → Md (· < W0.heap.size) ov wo fun w'' => VecT.In w''.heap.size w'' v) (hsm : ∀ (k : Nat) (v v' : VecT), cs[k]? = some v → cs'[k]? = some v' → VecT.Sm v v')
    (hb1 : Below wo.heap.size wo wx) (hmod : ∀ w'', Keeps wo.heap.size wx w'' → VecT.In w''.heap.size w'' v') (hx : cs[j]? = some v) (hvv : VecT.Sm v v')
    (hown4 : w4.ownsRow W0.heap.size 54 7 ov' (j + 1) (cs'.flatMap VecT.c ++ VecT.c v')) (hg4 : (wx.alloc o).grownBy w4 ov.ownBlock) (hm4 : Moved (wx.alloc o) ov ov') : CbRel cs W0 ov' (.int .i64 ((j : Int) + 1)) w4 := by
  have hol := hown.lt
  have z0 := hpf.size
  have z1 := hb1.size
  have pX : PFr (fun _ => False) wx ov w4 ov' := (PFr.below (bel1 wx o)).trans (PFr.grown hg4 hm4)
  have pO : PFr (fun _ => False) wo ov wx ov := PFr.below hb1
  have hmX : Md (· < W0.heap.size) ov wx fun w'' => VecT.In w''.heap.size w'' v' := fun w'' hz hk =>
    hmod w'' ⟨fun q h1 h2 => hk q h2 (by omega) (fun e => by have := (hol q e.symm).2; omega), hz⟩
  refine ⟨j + 1, cs' ++ [v'], by omega, by simp, by simp [hl], ?_, hpf.trans (pO.trans pX), fun u hu => ?_, fun k a b ha hb => ?_⟩
  · rw [List.flatMap_append, List.flatMap_singleton]
    exact hown4
  · rcases List.mem_append.1 hu with hu | hu
    · exact ((hmd u hu).step (pO.more fun _ h => h.elim)).step (pX.more fun _ h => h.elim)
    · rw [List.mem_singleton] at hu
      subst hu
      exact hmX.step (pX.more fun _ h => h.elim)
  · by_cases hk : k < cs'.length
    · exact hsm k a b ha (by rw [List.getElem?_append_left hk] at hb; exact hb)
    · rw [List.getElem?_append_right (by omega)] at hb
      have hk0 : k - cs'.length = 0 := by
        have := (List.getElem?_eq_some_iff.1 hb).1
        simp at this
        omega
      rw [hk0] at hb
      simp at hb
      subst hb
      have : k = j := by omega
      subst this
      rw [hx] at ha
      cases ha
      exact hvv
/-- A vector of which the type, the words, the numbers and the texts are copied. -/
def CbMid (vb : Nat) (W3 : World) (v : VecT) (u : FT) (wx : World) : Prop :=
  ∃ (NA IA SA : Option Addr), wx.heap[vb]? = some (.cells #[.int .i64 u.a.k, .int .i64 u.a.sc, .slice u.a.A u.l.length u.a.cap, .slice NA v.ns.length v.ns.length, .slice IA v.is.length v.is.length, .slice SA v.ss.length v.ss.length, .slice v.VA v.vs.length v.vcap] 54 (0, 0)) ∧
    PFr (· = vb) W3 (.slice none 0 0) wx (.slice none 0 0) ∧
    ∀ w'', Keeps W3.heap.size wx w'' → CRow (.int .u64) w''.heap.size w'' NA v.ns.length v.ns ∧ CRow (.int .i64) w''.heap.size w'' IA v.is.length v.is ∧ CRow .string w''.heap.size w'' SA v.ss.length v.ss
theorem CRow.clip {α : Type} {f : α → Value} {B : Nat} {w : World} {A : Option Addr} {cap : Nat} {l : List α} (h : CRow f B w A cap l) : CRow f B w A l.length l := ⟨Nat.le_refl _, Nat.le_trans h.1 h.2.1, h.2.2⟩
theorem CbMid.mk' {vb : Nat} {W3 wU wI wS : World} {v : VecT} {u : FT} {NA IA SA : Option Addr} {nc ic sc b1 b2 b3 : Nat} (hvb : vb < W3.heap.size)
    (hQ : W3.heap[vb]? = some (.cells #[.int .i64 u.a.k, .int .i64 u.a.sc, .slice u.a.A u.l.length u.a.cap, .slice v.NA v.ns.length v.ncap, .slice v.IA v.is.length v.icap, .slice v.SA v.ss.length v.scap, .slice v.VA v.vs.length v.vcap] 54 (0, 0)))
    (h1 : Below W3.heap.size W3 wU) (h2 : Below wU.heap.size wU wI) (h3 : Below wI.heap.size wI wS) (g1 : W3.heap.size ≤ b1) (g2 : W3.heap.size ≤ b2) (g3 : W3.heap.size ≤ b3)
    (o1 : wU.ownsRow b1 66 1 (.slice NA v.ns.length nc) v.ns.length (v.ns.map (.int .u64))) (o2 : wI.ownsRow b2 3 1 (.slice IA v.is.length ic) v.is.length (v.is.map (.int .i64))) (o3 : wS.ownsRow b3 9 1 (.slice SA v.ss.length sc) v.ss.length (v.ss.map .string)) :
    CbMid vb W3 v u (((wS.setCell ⟨vb, 3, none⟩ (.slice NA v.ns.length v.ns.length)).setCell ⟨vb, 4, none⟩ (.slice IA v.is.length v.is.length)).setCell ⟨vb, 5, none⟩ (.slice SA v.ss.length v.ss.length)) := by
  have z1 := h1.size
  have z2 := h2.size
  have z3 := h3.size
  have hbS : Below W3.heap.size W3 wS := h1.trans ((h2.trans (h3.mono z2)).mono z1)
  have hQS := (hbS.block vb hvb).trans hQ
  have hst : ∀ q, q ≠ vb → (((wS.setCell ⟨vb, 3, none⟩ (.slice NA v.ns.length v.ns.length)).setCell ⟨vb, 4, none⟩ (.slice IA v.is.length v.is.length)).setCell ⟨vb, 5, none⟩ (.slice SA v.ss.length v.ss.length)).heap[q]? = wS.heap[q]? := fun q hq => by
    iterate 3 rw [Deep.blk_setCell_other _ _ _ _ (by simpa using hq)]
  refine ⟨NA, IA, SA, ?_, ⟨hbS.os, hbS.tape, hbS.output, by simp [World.setCell]; exact hbS.size, fun k hk hx _ => (hst k hx).trans (hbS.block k hk), .inl rfl⟩, fun w'' hk => ?_⟩
  · rw [setCell_row _ _ _ _ _ _ _ (setCell_row _ _ _ _ _ _ _ (setCell_row _ _ _ _ _ _ _ hQS))]
    simp
  · have hk' : ∀ q, W3.heap.size ≤ q → q < wS.heap.size → w''.heap[q]? = wS.heap[q]? := fun q a b => (hk.1 q a (by simpa [World.setCell] using b)).trans (hst q (by omega))
    have e1 := own_keep (own_below (own_below o1 h2) (h3.mono (Nat.le_refl _))) fun q a b => hk' q (by omega) b
    have e2 := own_keep (own_below o2 h3) fun q a b => hk' q (by omega) b
    have e3 := own_keep o3 fun q a b => hk' q (by omega) b
    obtain ⟨A1, c1, q1, r1, _⟩ := own_list e1 rfl
    obtain ⟨A2, c2, q2, r2, _⟩ := own_list e2 rfl
    obtain ⟨A3, c3, q3, r3, _⟩ := own_list e3 rfl
    cases q1
    cases q2
    cases q3
    exact ⟨r1.clip, r2.clip, r3.clip⟩
theorem cb_vec {w2 W3 wc wr W6 w : World} {vb b1 B n cap' : Nat} {v : VecT} {u : FT} {us : List VT} {NA IA SA A' : Option Addr} (hvin : VecT.In B w v) (hvb : vb < W3.heap.size) (huin : FT.InS (New b1 w2) w2 u) (hb1 : vb < b1)
    (hz3 : w2.heap.size ≤ W3.heap.size) (hk3 : ∀ q, q ≠ vb → W3.heap[q]? = w2.heap[q]?) (hpf5 : PFr (· = vb) W3 (.slice none 0 0) wc (.slice none 0 0))
    (hrows : ∀ w'', Keeps W3.heap.size wc w'' → CRow (.int .u64) w''.heap.size w'' NA v.ns.length v.ns ∧ CRow (.int .i64) w''.heap.size w'' IA v.is.length v.is ∧ CRow .string w''.heap.size w'' SA v.ss.length v.ss)
    (hbr : Below wc.heap.size wc wr) (hown2 : wr.ownsRow wc.heap.size 61 5 (.slice A' n cap') n (us.flatMap vCells)) (hul : us.length = n) (hinu : ∀ y, y ∈ us → VT.InS (Fresh wc.heap.size wr (.slice A' n cap')) wr y)
    (h6 : ∀ q, q ≠ vb → W6.heap[q]? = wr.heap[q]?) (hz6 : wr.heap.size ≤ W6.heap.size) :
    ∀ w'', Keeps vb W6 w'' → VecT.In w''.heap.size w'' ⟨u, NA, v.ns.length, v.ns, IA, v.is.length, v.is, SA, v.ss.length, v.ss, A', n, us⟩ := fun w'' hk => by
  have z5 := hpf5.size
  have zr := hbr.size
  have zk := hk.2
  have hwr : ∀ q, vb < q → q < wr.heap.size → w''.heap[q]? = wr.heap[q]? := fun q a b => (hk.1 q (by omega) (by omega)).trans (h6 q (by omega))
  have hwc : ∀ q, vb < q → q < wc.heap.size → w''.heap[q]? = wc.heap[q]? := fun q a b => (hwr q a (by omega)).trans (hbr.block q b)
  have hw3 : ∀ q, vb < q → q < W3.heap.size → w''.heap[q]? = W3.heap[q]? := fun q a b => (hwc q a (by omega)).trans (hpf5.block q b (by omega) (fun e => by cases e))
  have hw2 : ∀ q, vb < q → q < w2.heap.size → w''.heap[q]? = w2.heap[q]? := fun q a b => (hw3 q a (by omega)).trans (hk3 q (by omega))
  obtain ⟨r1, r2, r3⟩ := hrows w'' ⟨fun q a b => hwc q (by omega) b, by omega⟩
  obtain ⟨A2, cap2, e, ha, hb, _, hat⟩ := own_values (own_keep hown2 fun q a b => hwr q (by omega) b) hul
  cases e
  refine ⟨?_, r1, hvin.nb, r2, hvin.ib, r3, hvin.sb, ⟨⟨by show us.length ≤ n; omega, by show n ≤ maxLen; omega, fun i x hx => ?_⟩, fun x hx => ?_⟩⟩
  · exact (huin.keep (S' := fun q => q < w''.heap.size) (fun q hq => hw2 q (by have := hq.1; omega) hq.2) (fun q hq => by have := hq.2; omega)).toIn fun q hq => hq
  · obtain ⟨ad, e1, _, _, _, e2, e3, e4⟩ := hat i x hx
    exact ⟨ad, e1, e3, e4⟩
  · exact ((hinu x hx).keep (S' := fun q => q < w''.heap.size) (fun q hq => hwr q (by have := hq.1; omega) hq.2.1) (fun q hq => by have := hq.2.1; omega)).toIn fun q hq => hq
theorem CbRel.fin {cs cs' : List VecT} {n j cap : Nat} {w W0 wo Wf : World} {A : Option Addr} (hj : cs.length = j) (hcl : cs'.length = j) (hz : W0.heap.size = w.heap.size + 2) (hbw : Below w.heap.size w W0) (hown : wo.ownsRow W0.heap.size 54 7 (.slice A j cap) j (cs'.flatMap VecT.c))
    (hpf : PFr (fun _ => False) W0 (.slice none 0 0) wo (.slice A j cap)) (hmd : ∀ v, v ∈ cs' → Md (· < W0.heap.size) (.slice A j cap) wo fun w'' => VecT.In w''.heap.size w'' v) (hsm : ∀ (k : Nat) (v v' : VecT), cs[k]? = some v → cs'[k]? = some v' → VecT.Sm v v')
    (hf : Below w.heap.size wo Wf) (hk : ∀ q, W0.heap.size ≤ q → q < wo.heap.size → Wf.heap[q]? = wo.heap[q]?) :
    CbPost n cs w (.returned (.agg #[.int .i64 n, .slice A j j, .bool true, .slice none 0 0])) Wf := by
  have z0 := hpf.size
  have z1 := hf.size
  refine ⟨A, j, cs', hcl.trans hj.symm, by rw [hcl], hbw.trans ((hpf.toBelow (by omega) (fun k e => e.elim)).trans hf), fun w'' hk2 => ⟨?_, fun v hv => ?_⟩, hsm⟩
  · obtain ⟨A2, cap2, e, h, _⟩ := own_grow (own_keep hown fun q h1 h2 => (hk2.1 q (by omega) (by omega)).trans (hk q h1 h2)) hcl (fun _ _ => rfl)
    cases e
    exact ⟨by omega, Nat.le_trans (by have := h.1; omega) h.2.1, h.2.2⟩
  · exact hmd v hv w'' (Nat.le_trans z1 hk2.2) (fun q h1 h2 _ => (hk2.1 q (by omega) (by omega)).trans (hk q (by omega) h1))
end Go.Proofs.YtkadahfknccjfaaGreatDoor
