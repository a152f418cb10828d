/-
  Package engine: the rows of batches.
  Small vectors, and vectors that are the same. No code is walked here.
-/
import Derived.Test.YtkadahfknccjfaaGreatDoorQCloneA
import Derived.Test.YtkadahfknccjfaaGreatDoorQLawC
import Derived.Test.YtkadahfknccjfaaGreatDoorQBatG0
import Derived.Test.YtkadahfknccjfaaGreatDoorQBatI
import Derived.Test.YtkadahfknccjfaaGreatDoorQBatN
import Derived.Test.YtkadahfknccjfaaGreatDoorQBatP
import Derived.Deep.DeepCutAuto
namespace Go.Proofs.YtkadahfknccjfaaGreatDoor
open Go.RowKit
theorem ckL_zero {t : FT} : ∀ {l : List VT}, (∀ x, x ∈ l → checkS t x = 0) → ckL t l = 0
  | [], _ => rfl
  | x :: r, h => by
    rw [ckL, if_neg (by rw [h x (by simp)]; simp)]
    exact ckL_zero fun y hy => h y (by simp [hy])
theorem newS_zero {t : FT} {l : List VT} (hp : plainS t = 0) (hl : l.length ≤ 1024) (hc : ∀ x, x ∈ l → checkS t x = 0) : newS t l = 0 := by
  unfold newS
  rw [if_neg (by rw [hp]; simp), if_neg (by omega)]
  exact ckL_zero hc
theorem plains_mem : ∀ {ts : List FT}, plainsS ts = 0 → ∀ t, t ∈ ts → plainS t = 0
  | [], _, t, ht => by cases ht
  | x :: r, h, t, ht => by
    unfold plainsS at h
    by_cases hc : plainS x ≠ 0
    · rw [if_pos hc] at h; exact absurd h hc
    · rw [if_neg hc] at h
      rcases List.mem_cons.1 ht with rfl | ht
      · exact Classical.not_not.1 hc
      · exact plains_mem h t ht
theorem typesS_plain {ts : List FT} (h : typesS ts = 0) : ∀ t, t ∈ ts → plainS t = 0 := by
  unfold typesS at h
  split at h
  · omega
  · exact plains_mem h
/-- Rows that have the types. -/
def RowsOk (ts : List FT) (rows : List VT) : Prop := ∀ r, r ∈ rows → r.l.length = ts.length ∧ ∀ (k : Nat) (t : FT) (x : VT), ts[k]? = some t → r.l[k]? = some x → checkS t x = 0
theorem RowsOk.chunk {ts : List FT} {rows : List VT} (h : RowsOk ts rows) (n i : Nat) : RowsOk ts (chunkAt rows n i) := fun r hr => h r (chunkAt_mem hr)
theorem col_check {ts : List FT} {rows : List VT} (H : RowsOk ts rows) {k : Nat} {t : FT} (ht : ts[k]? = some t) : ∀ x, x ∈ Col rows k → checkS t x = 0 := fun x hx => by
  obtain ⟨r, hr, rfl⟩ := List.mem_map.1 hx
  obtain ⟨h1, h2⟩ := H r hr
  have hk : k < r.l.length := by rw [h1]; exact (List.getElem?_eq_some_iff.1 ht).1
  exact h2 k t _ ht (by rw [getD_of (List.getElem?_eq_getElem hk)]; exact List.getElem?_eq_getElem hk)
theorem cols_vec {ts : List FT} {rows : List VT} {cs : List VecT} (H : RowsOk ts rows) (ht0 : typesS ts = 0) (hn : rows.length ≤ 1024) (hof : ColsOf id ts rows cs) (k : Nat) (v : VecT) (hv : cs[k]? = some v) :
    vecS v rows.length = 0 ∧ ∃ t, ts[k]? = some t ∧ FT.Sm v.t t ∧ ∀ (q : Nat) (y : VT), rows[q]? = some y → VT.Sm (y.l.getD k zeroV) (atV v q) := by
  obtain ⟨t, ht, hvo⟩ := hof k v hv
  have hc := col_check H ht
  have hl := Col_len rows k
  have h := vec_ok (t := t) (l := Col rows k) (v := v) hvo (newS_zero (typesS_plain ht0 t (mem_of_get? ht)) (by omega) hc)
  rw [hl] at h
  exact ⟨h.1, t, ht, hvo.ty.symm, fun q y hy => at_sm hvo (Col_get hy k) (hc _ (mem_of_get? (Col_get hy k)))⟩
theorem chunk_rowL {ts : List FT} {rows : List VT} {cs : List VecT} (H : RowsOk ts rows) (ht0 : typesS ts = 0) (hn : rows.length ≤ 1024) (hof : ColsOf id ts rows cs) (hcs : cs.length = ts.length) {q : Nat} {y : VT} (hy : rows[q]? = some y) : SmL y.l (rowL cs q) := by
  have hyl := (H y (mem_of_get? hy)).1
  refine ⟨by rw [hyl]; simp [rowL, hcs], fun i x z hx hz => ?_⟩
  unfold rowL at hz
  rw [List.getElem?_map] at hz
  cases hv : cs[i]? with
  | none => rw [hv] at hz; cases hz
  | some v =>
    rw [hv] at hz
    cases hz
    obtain ⟨_, t, _, _, h⟩ := cols_vec H ht0 hn hof i v hv
    have := h q y hy
    rw [getD_of hx] at this
    exact this
/-- What the loop over the batches has at its head. -/
def RsRel (rows : List VT) (size K : Nat) (W0 : World) (ov i : Value) (wr : World) : Prop :=
  ∃ (j : Nat) (R : List VT), j ≤ K ∧ i = .int .i64 j ∧ R.length = min (j * size) rows.length ∧ wr.ownsRow W0.heap.size 42 1 ov R.length (R.map rowV) ∧ PFr (fun _ => False) W0 (.slice none 0 0) wr ov ∧
    (∀ r, r ∈ R → Md (· < W0.heap.size) ov wr fun w'' => VT.Rows w''.heap.size w'' r.a.A r.a.cap r.l) ∧ ∀ (q : Nat) (r y : VT), R[q]? = some r → rows[q]? = some y → SmL y.l r.l
theorem RsRel.step {rows R R2 : List VT} {size K j : Nat} {W0 wo wx w4 : World} {ov ov' : Value} (hj : j < K) (hl : R.length = min (j * size) rows.length) (hlt : j * size < rows.length) (hown : wo.ownsRow W0.heap.size 42 1 ov R.length (R.map rowV)) (hpf : PFr (fun _ => False) W0 (.slice none 0 0) wo ov)
    (hmd : ∀ r, r ∈ R → Md (· < W0.heap.size) ov wo fun w'' => VT.Rows w''.heap.size w'' r.a.A r.a.cap r.l) (hP : ∀ (q : Nat) (r y : VT), R[q]? = some r → rows[q]? = some y → SmL y.l r.l)
    (hb1 : Below wo.heap.size wo wx) (hmod : ∀ w'', Keeps wo.heap.size wx w'' → ∀ r, r ∈ R2 → VT.Rows w''.heap.size w'' r.a.A r.a.cap r.l) (hl2 : R2.length = (chunkAt rows size j).length) (hP2 : ∀ (q : Nat) (r y : VT), R2[q]? = some r → (chunkAt rows size j)[q]? = some y → SmL y.l r.l)
    (hown4 : w4.ownsRow W0.heap.size 42 1 ov' (R.length + R2.length) (R.map rowV ++ R2.map rowV)) (hg4 : wx.grownBy w4 ov.ownBlock) (hm4 : Moved wx ov ov') : RsRel rows size K W0 ov' (.int .i64 ((j : Int) + 1)) w4 := by
  have hol := hown.lt
  have z0 := hpf.size
  have z1 := hb1.size
  have e1 : (j + 1) * size = j * size + size := Nat.succ_mul j size
  rw [chunkAt_len] at hl2
  have pX : PFr (fun _ => False) wx ov w4 ov' := PFr.grown hg4 hm4
  have pO : PFr (fun _ => False) wo ov wx ov := PFr.below hb1
  have hmX : ∀ r, r ∈ R2 → Md (· < W0.heap.size) ov wx fun w'' => VT.Rows w''.heap.size w'' r.a.A r.a.cap r.l := fun r hr w'' hz hk =>
    hmod w'' ⟨fun q h1 h2 => hk q h2 (by omega) (fun e => by have := (hol q e.symm).2; omega), hz⟩ r hr
  refine ⟨j + 1, R ++ R2, by omega, by simp, by simp [hl, hl2]; omega, ?_, hpf.trans (pO.trans pX), fun u hu => ?_, fun k a y ha hy => ?_⟩
  · rw [List.map_append, List.length_append]
    exact hown4
  · rcases List.mem_append.1 hu with hu | hu
    · exact ((hmd u hu).step (pO.more fun _ h => h.elim)).step (pX.more fun _ h => h.elim)
    · exact (hmX u hu).step (pX.more fun _ h => h.elim)
  · by_cases hk : k < R.length
    · exact hP k a y (by rw [List.getElem?_append_left hk] at ha; exact ha) hy
    · rw [List.getElem?_append_right (by omega)] at ha
      refine hP2 (k - R.length) a y ha ?_
      have hk2 := (List.getElem?_eq_some_iff.1 ha).1
      unfold chunkAt
      rw [List.getElem?_take, if_pos (by omega), List.getElem?_drop, show j * size + (k - R.length) = k by omega]
      exact hy
theorem RRow_src {B : Nat} {w : World} {A : Option Addr} {cap : Nat} {l : List VT} (h : VT.RRow B w A cap l) : SrcAt w A (l.map rowV) := by
  cases l with
  | nil => exact .inl rfl
  | cons y r =>
    obtain ⟨ad, e, _, _⟩ := h.2.2.2 0 y rfl
    refine .inr ⟨ad, e, fun j u hu => ?_⟩
    rw [List.getElem?_map] at hu
    cases hj : (y :: r)[j]? with
    | none => rw [hj] at hu; cases hu
    | some x =>
      rw [hj] at hu
      cases hu
      obtain ⟨ad2, e2, _, hat⟩ := h.2.2.2 j x hj
      rw [e] at e2
      cases e2
      exact hat
def RsPost (rows : List VT) (w : World) (e : Ending) (w' : World) : Prop :=
  ∃ (A : Option Addr) (cap : Nat) (R : List VT), e = .returned (.tuple #[.slice A R.length cap, .int .i64 0]) ∧ Below w.heap.size w w' ∧ VT.RRow w'.heap.size w' A cap R ∧ R.length = rows.length ∧ ∀ (q : Nat) (r y : VT), R[q]? = some r → rows[q]? = some y → SmL y.l r.l
set_option maxRecDepth 100000 in
set_option maxHeartbeats 8000000 in
theorem eRows_ok (TA LA : Option Addr) (tcap lcap flen K size : Nat) (ts : List FT) (rows : List VT) (bs : List BatT) (B : Nat) (w : World) (htr : FT.TRow B w TA tcap ts) (hrow : GRow BatT.c 4 B w LA lcap bs) (hin : ∀ b, b ∈ bs → BatT.In B w b) (hT : Tabs B w) (hB : B ≤ w.heap.size)
    (hflen : Hid (ts.length = flen)) (hK : Hid (bs.length = K)) (ht0 : typesS ts = 0) (hok : RowsOk ts rows) (hs : size ≤ 1024) (hmax : rows.length ≤ 1048576) (hof : BsOf id ts rows size bs) (hbl : BsLen rows size K) :
    Calls Tryz.prog 7 #[.slice TA flen tcap, .slice LA K lcap] w (RsPost rows w) := by
  obtain ⟨ir, hir, irz, irs, irb⟩ := info_parts infoVals
  have h120 : flen ≤ 120 := by have := typesS_ok ht0; have := hflen.out; omega
  have hct := Lib.hid (echeckTypes_any TA tcap flen ts B w htr hB hflen)
  have hKl : K ≤ 9223372036854775807 := by rw [← hK.out]; exact Nat.le_trans hrow.1 hrow.2.1
  have Htr := Lib.hid htr
  have Hrow := Lib.hid hrow
  have Hin := Lib.hid hin
  have HT := Lib.hid hT
  have Ht0 := Lib.hid ht0
  have Hok := Lib.hid hok
  have Hof := Lib.hid hof
  have Hbl := Lib.hid hbl
  clear htr hrow hin hT ht0 hok hof hbl
  go_enter Tryz.func7, Tryz.ntmps7
  go_wp2_with fail
  refine hct.out.mono ?_
  rintro e w1 ⟨rfl, hb1⟩
  rw [Ht0.out]
  clear hct
  go_wp2
  go_loopw [7, 18] (fun ov i wr => RsRel rows size K w1 ov i wr) (fun _ i _ => K - (intOf i).toNat)
  case atStart => exact ⟨0, [], Nat.zero_le _, rfl, by simp, World.ownsRow_nil _ _ _ _, PFr.refl _ _ _, fun b hb => (by cases hb), fun q r y h _ => by simp at h⟩
  case round =>
    obtain ⟨j, R, hj, rfl, hl, hown, hpf, hmd, hP⟩ := hrel
    have hz := hpf.size
    have hb1r : Below w1.heap.size w1 wr := hpf.toBelow (Nat.le_refl _) (fun k e => e.elim)
    have hbwr : Below w.heap.size w wr := hb1.trans (hb1r.mono hb1.size)
    have hS : Same B w wr := Same.mono (Same.of_below hbwr) hB
    by_cases hlt : j < K
    · obtain ⟨b, ad, hx, rfl, hab, hat⟩ := (Hrow.out.keep hS).get (show j < bs.length by rw [hK.out]; exact hlt)
      obtain ⟨hbn, hbc, hco⟩ := Hof.out j b hx
      have hbin := Hin.out b (mem_of_get? hx)
      have hlt2 : j * size < rows.length := by
        rcases Hbl.out.2 with h | h
        · omega
        · have : j * size ≤ (K - 1) * size := Nat.mul_le_mul_right size (by omega)
          omega
      obtain ⟨bn, CA, ccap, cs⟩ := b
      simp only at hbn hbc hco
      have hlen : Hid (cs.length = flen) := hbc.trans hflen.out
      have hcn : bn ≤ 1024 := by rw [hbn, chunkAt_len]; omega
      have hokc := Hok.out.chunk size j
      have hcl : (chunkAt rows size j).length ≤ 1024 := by rw [← hbn]; exact hcn
      have hcv := fun k v hv => cols_vec hokc Ht0.out hcl hco k v hv
      have d0 : wr.cell? (ad.add (j * 4)) = some (.int .i64 bn) := hat 0 _ rfl
      have d1 : wr.cell? ⟨(ad.add (j * 4)).block, (ad.add (j * 4)).off + 1, none⟩ = some (.slice CA flen ccap) := by rw [← add_off2 _ 1 (by decide), ← hlen.out]; exact hat 1 _ rfl
      have d2 : wr.cell? ⟨(ad.add (j * 4)).block, (ad.add (j * 4)).off + 2, none⟩ = some (.bool true) := by rw [← add_off2 _ 2 (by decide)]; exact hat 2 _ rfl
      have d3 : wr.cell? ⟨(ad.add (j * 4)).block, (ad.add (j * 4)).off + 3, none⟩ = some (.slice none 0 0) := by rw [← add_off2 _ 3 (by decide)]; exact hat 3 _ rfl
      obtain ⟨W1, hW1⟩ : ∃ W1, wr.alloc (.cells #[.int .i64 bn, .slice CA flen ccap, .bool true, .slice none 0 0] 32) = W1 := ⟨_, rfl⟩
      have hb1' : Below wr.heap.size wr W1 := by rw [← hW1]; exact bel1 _ _
      have Q1 : W1.heap[wr.heap.size]? = some (.cells #[.int .i64 bn, .slice CA flen ccap, .bool true, .slice none 0 0] 32 (0, 0)) := by rw [← hW1]; exact heap_alloc_new wr _
      have hl1 : wr.heap.size < W1.heap.size := (Array.getElem?_eq_some_iff.1 Q1).1
      have hSW : ∀ W, Below wr.heap.size wr W → Same B w W ∧ B ≤ W.heap.size := fun W h => ⟨hS.trans (Same.mono (Same.of_below h) (by have := hbwr.size; omega)), by have := h.size; have := hbwr.size; omega⟩
      have hcb := Lib.hid (eCheckBatch_ok TA CA tcap ccap bn flen ts cs B W1 (Htr.out.keep (hSW W1 hb1').1) (hbin.1.keep (hSW W1 hb1').1) (fun v hv => (hbin.2 v hv).keep (hSW W1 hb1').1) (HT.out.keep (hSW W1 hb1').1) (hSW W1 hb1').2 hflen hlen Ht0.out h120 hcn
        (fun v hv => by
          obtain ⟨k, hk⟩ := List.getElem?_of_mem hv
          have := (hcv k v hk).1
          rw [← hbn] at this
          exact this)
        (fun k v t hv ht => by
          obtain ⟨_, t', ht', hsm, _⟩ := hcv k v hv
          rw [ht] at ht'
          cases ht'
          exact hsm))
      have hhas : ∀ i, i < bn → ∀ v, v ∈ cs → v.Has i := fun i hi v hv => by
        obtain ⟨k, hk⟩ := List.getElem?_of_mem hv
        have := (hcv k v hk).1
        rw [← hbn] at this
        obtain ⟨_, sz, e, hsz, hf, _⟩ := vecS_ok this
        have : bn = sz := by omega
        subst this
        exact form_has hf hsz hi
      have hck : ∀ i, i < bn → ∀ v, v ∈ cs → checkS v.t (atV v i) = 0 := fun i hi v hv => by
        obtain ⟨k, hk⟩ := List.getElem?_of_mem hv
        have := (hcv k v hk).1
        rw [← hbn] at this
        obtain ⟨_, sz, e, hsz, hf, h⟩ := vecS_ok this
        have : bn = sz := by omega
        subst this
        exact h i hi
      have Hro := Lib.hid (fun W (h : Below wr.heap.size wr W) => erowsOf_any CA ccap bn flen cs B W (hbin.1.keep (hSW W h).1) (fun v hv => (hbin.2 v hv).keep (hSW W h).1) (hSW W h).2 hlen h120 hcn hhas)
      have HW1 := Lib.hid hW1
      have HQ1 := Lib.hid Q1
      have Hl1 := Lib.hid hl1
      have Hx := Lib.hid hx
      have Hck := Lib.hid hck
      have HSW := Lib.hid hSW
      have Hbn := Lib.hid hbn
      have Hco := Lib.hid hco
      have Hcs : Hid (cs.length = ts.length) := hbc
      have Hokc := Lib.hid hokc
      have Hown := Lib.hid hown
      have Hpf := Lib.hid hpf
      have Hmd := Lib.hid hmd
      have HP := Lib.hid hP
      have Hl := Lib.hid hl
      clear hW1 Q1 hl1 hx hck hhas hSW hbn hbc hco hokc hcv hat hbin hown hpf hmd hP hl hS
      go_wp2_with fail
      rw [HW1.out]
      refine hcb.out.mono ?_
      rintro e w2 ⟨rfl, hb2⟩
      have hbr2 : Below wr.heap.size wr w2 := hb1'.trans (hb2.mono hb1'.size)
      have Q2 := (hb2.block wr.heap.size Hl1.out).trans HQ1.out
      have e0 := cell_of_row w2 wr.heap.size 0 _ _ _ Q2
      have e1 := cell_of_row w2 wr.heap.size 1 _ _ _ Q2
      have e2 := cell_of_row w2 wr.heap.size 2 _ _ _ Q2
      have e3 := cell_of_row w2 wr.heap.size 3 _ _ _ Q2
      simp at e0 e1 e2 e3
      clear d0 d1 d2 d3 hcb Q2
      go_wp2_with fail
      refine (Hro.out w2 hbr2).mono ?_
      rintro e w3 ⟨A1, cap1, R1, hl1', rfl, hb3, hmod3, hP3, _⟩
      have hr3 := hmod3 w3 (Keeps.refl _ _) ((Same.mono (Same.of_below hb3) (HSW.out w2 hbr2).2))
      have hcp := Lib.hid (ecopyRows_any A1 cap1 bn R1 w3.heap.size w3 hr3 (Nat.le_refl _) hl1' hcn
        (fun r hr => by
          obtain ⟨q, hq⟩ := List.getElem?_of_mem hr
          rw [hP3 q r hq]
          unfold rowL
          rw [List.length_map, hlen.out]
          exact h120)
        (fun r hr x hx => by
          obtain ⟨q, hq⟩ := List.getElem?_of_mem hr
          rw [hP3 q r hq] at hx
          obtain ⟨v, hv, rfl⟩ := List.mem_map.1 hx
          have hqb : q < bn := by rw [← hl1']; exact (List.getElem?_eq_some_iff.1 hq).1
          exact check_sml (Hck.out q hqb v hv)))
      rw [hl1']
      have hbr3 : Below wr.heap.size wr w3 := hbr2.trans (hb3.mono hbr2.size)
      have HP3 := Lib.hid hP3
      have Hl1' := Lib.hid hl1'
      clear e0 e1 e2 e3 hmod3 hP3 hr3 hl1'
      go_wp2_with fail
      refine hcp.out.mono ?_
      rintro e w4 ⟨A2, cap2, R2, hl2, rfl, hb4, hmod4, hP4, _⟩
      have hbr4 : Below wr.heap.size wr w4 := hbr3.trans (hb4.mono hbr3.size)
      have hr4 := hmod4 w4 (Keeps.refl _ _) (fun k hk => by omega)
      have hsrc := Lib.hid (RRow_src hr4)
      have hownY := own_below Hown.out hbr4
      have hRl : R.length ≤ 1048576 := by have := Hl.out; omega
      have h3 : Hid (R.length + R2.length ≤ maxLen) := by show _ ≤ _; unfold maxLen; omega
      have h4 : Hid ((R.length + R2.length) * 24 ≤ 140737488355328) := by show _ ≤ _; omega
      have h5 : Hid (w1.heap.size ≤ w4.heap.size) := by show _ ≤ _; have := hbr4.size; omega
      have hone : Hid (∀ u, u ∈ R2.map rowV → u.oneCell' = true) := fun u hu => by
        obtain ⟨x, _, rfl⟩ := List.mem_map.1 hu
        rfl
      have hl2l : Hid ((R2.map rowV).length = R2.length * 1) := by show _ = _; simp
      have Hmod4 := Lib.hid hmod4
      have HP4 := Lib.hid hP4
      have Hl2 := Lib.hid hl2
      clear hcp hmod4 hP4 hl2 hr4
      go_wp2_with (at_builtin; refine wpList_append_row _ rfl _ _ 23 rfl w1.heap.size 42 ir _ 1 24 Tryz.underlying23 hir irz irs irb rfl (by decide) _ R.length (R.map rowV) rfl hownY A2 R2.length cap2 (R2.map rowV) rfl hl2l.out hsrc.out hone.out h3.out h4.out h5.out ?_; intro ov' w5 hown5 hg5 hm5)
      have HST : Hid (RsRel rows size K w1 ov' (.int .i64 ((j : Int) + 1)) w5) := RsRel.step hlt Hl.out hlt2 Hown.out Hpf.out Hmd.out HP.out hbr4 (fun w'' hk r hr => (Hmod4.out w'' (hk.mono (by have := hbr3.size; omega)) (fun k hk => by omega)).2.2.1 r hr) (by rw [Hl2.out]; exact Hbn.out)
        (fun q r y hq hy => by
          have hqb : q < bn := by rw [← Hl2.out]; exact (List.getElem?_eq_some_iff.1 hq).1
          have hq1 : R1[q]? = some (R1[q]'(by rw [Hl1'.out]; exact hqb)) := List.getElem?_eq_getElem _
          have h1 := HP4.out q r hq _ hq1
          rw [HP3.out q _ hq1] at h1
          exact (chunk_rowL Hokc.out Ht0.out hcl Hco.out Hcs.out hy).trans h1) hown5 hg5 hm5
      clear hown5 hg5 hm5 hownY
      go_wp2
      go_roundw
      case rel => exact HST.out
      case measure => simp [intOf]; omega
    · obtain rfl : j = K := by omega
      obtain ⟨A, cap, rfl, hcr, hnil⟩ := own_list hown rfl
      have hca := hcr.1
      have hcm := hcr.2.1
      have hclip := Lib.hid (clipRow_any A R.length cap wr hca hcm hnil)
      have hRl : R.length = rows.length := by have := Hbl.out.1; omega
      have Hown := Lib.hid hown
      have Hmd := Lib.hid hmd
      have HP := Lib.hid hP
      have HRl := Lib.hid hRl
      have Hcr := Lib.hid hcr
      have Hcm := Lib.hid hcm
      have Hca := Lib.hid hca
      have Hbwr := Lib.hid hbwr
      clear hown hpf hmd hP hcr hnil hca hcm hl hRl hS
      go_wp2_with fail
      refine hclip.out.mono ?_
      rintro e w' ⟨rfl, rfl⟩
      go_wp2
      go_ret2
      exact ⟨A, R.length, R, rfl, Hbwr.out, ⟨Nat.le_refl _, Nat.le_trans Hca.out Hcm.out, fun x hx => (Hmd.out x hx).at, Hcr.out.2.2⟩, HRl.out, HP.out⟩
end Go.Proofs.YtkadahfknccjfaaGreatDoor
namespace Go.Proofs.YtkadahfknccjfaaGreatDoor
open Go.RowKit
theorem VT.Sml.sm : ∀ {x y : VT}, VT.Sml x → VT.Sm x y → VT.Sml y := by
  refine fun {x} => VT.ind (P := fun x => ∀ y, VT.Sml x → VT.Sm x y → VT.Sml y) (fun a l ih y hx hy => ?_) x _
  obtain ⟨b, m⟩ := y
  obtain ⟨_, _, _, _, hl, hk⟩ := hy.inv
  obtain ⟨h1, h2⟩ := hx.inv
  refine .mk b m (by omega) fun z hz => ?_
  obtain ⟨i, hi⟩ := List.getElem?_of_mem hz
  have hlt := (List.getElem?_eq_some_iff.1 hi).1
  have hli : l[i]? = some (l[i]'(by omega)) := List.getElem?_eq_getElem _
  exact ih _ (mem_of_get? hli) z (h2 _ (mem_of_get? hli)) (hk i _ z hli hi)
theorem FT.Sml.sm : ∀ {x y : FT}, FT.Sml x → FT.Sm x y → FT.Sml y := by
  refine fun {x} => FT.ind (P := fun x => ∀ y, FT.Sml x → FT.Sm x y → FT.Sml y) (fun a l ih y hx hy => ?_) x _
  obtain ⟨b, m⟩ := y
  obtain ⟨_, _, hl, _, hk⟩ := hy.inv
  obtain ⟨h1, h2⟩ := hx.inv
  refine .mk b m (by omega) fun z hz => ?_
  obtain ⟨i, hi⟩ := List.getElem?_of_mem hz
  have hlt := (List.getElem?_eq_some_iff.1 hi).1
  have hli : l[i]? = some (l[i]'(by omega)) := List.getElem?_eq_getElem _
  exact ih _ (mem_of_get? hli) z (h2 _ (mem_of_get? hli)) (hk i _ z hli hi)
theorem vecof_sml {t : FT} {l : List VT} {v : VecT} (hv : VecOf t l v) (ht : FT.Sml t) (hl : l.length ≤ 1024) (hx : ∀ x, x ∈ l → VT.Sml x) : FT.Sml v.t ∧ (∀ x, x ∈ v.vs → VT.Sml x) ∧ v.ns.length ≤ 1024 ∧ v.is.length ≤ 1024 ∧ v.ss.length ≤ 1024 ∧ v.vs.length ≤ 1024 := by
  obtain ⟨h1, ⟨ws, h2, _, h3⟩, h4, h5, h6⟩ := hv
  refine ⟨ht.sm h1, fun x hxm => ?_, by rw [h2]; simp [wI, h3]; omega, by rw [h4]; split <;> simp; exact hl, by rw [h5]; split <;> simp; exact hl, ?_⟩
  · split at h6
    · obtain ⟨i, hi⟩ := List.getElem?_of_mem hxm
      have hlt := (List.getElem?_eq_some_iff.1 hi).1
      have hli : l[i]? = some (l[i]'(by have := h6.1; omega)) := List.getElem?_eq_getElem _
      exact (hx _ (mem_of_get? hli)).sm (h6.2 i _ x hli hi)
    · rw [h6] at hxm; cases hxm
  · split at h6
    · have := h6.1; omega
    · rw [h6]; simp
theorem VecOf.copy {t : FT} {l : List VT} {v v' : VecT} (hv : VecOf t l v) (h : VecT.Sm v v') : VecOf t l v' := by
  obtain ⟨h1, ⟨ws, h2, h3, h4⟩, h5, h6, h7⟩ := hv
  refine ⟨h1.trans h.t, ⟨ws, h.ns.symm.trans h2, h3, h4⟩, h.is.symm.trans h5, h.ss.symm.trans h6, ?_⟩
  split at h7
  · rw [if_pos (by assumption)]
    exact h7.trans h.vs
  · rw [if_neg (by assumption)]
    have := h.vs.1
    rw [h7] at this
    exact List.eq_nil_of_length_eq_zero this.symm
theorem ColsOf.copy {F : List VT → List VT} {ts : List FT} {rows : List VT} {cs cs' : List VecT} (h : ColsOf F ts rows cs) (hl : cs'.length = cs.length) (hs : ∀ (k : Nat) (v v' : VecT), cs[k]? = some v → cs'[k]? = some v' → VecT.Sm v v') : ColsOf F ts rows cs' := fun k v' hv' => by
  have hlt := (List.getElem?_eq_some_iff.1 hv').1
  have hk : cs[k]? = some (cs[k]'(by omega)) := List.getElem?_eq_getElem _
  obtain ⟨t, ht, hv⟩ := h k _ hk
  exact ⟨t, ht, hv.copy (hs k _ v' hk hv')⟩
theorem cols_sml {ts : List FT} {rows : List VT} {cs : List VecT} (H : RowsOk ts rows) (ht0 : typesS ts = 0) (hn : rows.length ≤ 1024) (hof : ColsOf id ts rows cs) : ∀ v, v ∈ cs → FT.Sml v.t ∧ (∀ x, x ∈ v.vs → VT.Sml x) ∧ v.ns.length ≤ 1024 ∧ v.is.length ≤ 1024 ∧ v.ss.length ≤ 1024 ∧ v.vs.length ≤ 1024 := fun v hv => by
  obtain ⟨k, hk⟩ := List.getElem?_of_mem hv
  obtain ⟨t, ht, hvo⟩ := hof k v hk
  exact vecof_sml (l := Col rows k) hvo (plain_sml (typesS_plain ht0 t (mem_of_get? ht))) (by rw [Col_len]; exact hn) fun x hx => check_sml (col_check H ht x hx)
end Go.Proofs.YtkadahfknccjfaaGreatDoor
