/-
  Lists of rows: the data, and what stays as it is while the list grows. No code is walked here.
  Package engine: the rows of a batch.
  Package engine: rows copied.
-/
import Derived.Test.YtkadahfknccjfaaGreatDoorQBatL
import Derived.Deep.DeepCutAuto
namespace Go.Proofs.YtkadahfknccjfaaGreatDoor
open Go.RowKit
def rowV (r : VT) : Value := .slice r.a.A r.l.length r.a.cap
theorem infoVals : (Tryz.prog.info? 42).map (fun i => (i.zero, i.size, i.bytes)) = some (some (.slice none 0 0), 1, 24) := by kernel_rfl
def RwRel (P : Nat → VT → Prop) (n B : Nat) (w W0 : World) (ov i : Value) (wr : World) : Prop :=
  ∃ (j : Nat) (R : List VT), j ≤ n ∧ i = .int .i64 j ∧ R.length = j ∧ wr.ownsRow W0.heap.size 42 1 ov j (R.map rowV) ∧ PFr (fun _ => False) W0 (.slice none 0 0) wr ov ∧
    (∀ r, r ∈ R → Md (· < W0.heap.size) ov wr fun w'' => Same B w w'' → VT.Rows w''.heap.size w'' r.a.A r.a.cap r.l) ∧ ∀ (q : Nat) (r : VT), R[q]? = some r → P q r
theorem RwRel.start {P : Nat → VT → Prop} {n B : Nat} {w W0 : World} : RwRel P n B w W0 (.slice none 0 0) (.int .i64 ((0 : Nat) : Int)) W0 :=
  ⟨0, [], Nat.zero_le _, rfl, rfl, World.ownsRow_nil _ _ _ _, PFr.refl _ _ _, fun b hb => (by cases hb), fun q r h => by simp at h⟩
theorem RwRel.step {P : Nat → VT → Prop} {n B j : Nat} {w W0 wo wx w4 : World} {ov ov' : Value} {R : List VT} {r : VT} (o : Obj) (hj : j < n) (hl : R.length = j) (hown : wo.ownsRow W0.heap.size 42 1 ov j (R.map rowV)) (hpf : PFr (fun _ => False) W0 (.slice none 0 0) wo ov)
    (hmd : ∀ r, r ∈ R → Md (· < W0.heap.size) ov wo fun w'' => Same B w w'' → VT.Rows w''.heap.size w'' r.a.A r.a.cap r.l) (hP : ∀ (q : Nat) (r : VT), R[q]? = some r → P q r)
    (hb1 : Below wo.heap.size wo wx) (hmod : ∀ w'', Keeps wo.heap.size wx w'' → Same B w w'' → VT.Rows w''.heap.size w'' r.a.A r.a.cap r.l) (hr : P j r)
    (hown4 : w4.ownsRow W0.heap.size 42 1 ov' (j + 1) (R.map rowV ++ [rowV r])) (hg4 : (wx.alloc o).grownBy w4 ov.ownBlock) (hm4 : Moved (wx.alloc o) ov ov') : RwRel P n B w W0 ov' (.int .i64 ((j : Int) + 1)) w4 := by
  have hol := hown.lt
  have z0 := hpf.size
  have z1 := hb1.size
  have pX : PFr (fun _ => False) wx ov w4 ov' := (PFr.below (bel1 wx o)).trans (PFr.grown hg4 hm4)
  have pO : PFr (fun _ => False) wo ov wx ov := PFr.below hb1
  have hmX : Md (· < W0.heap.size) ov wx fun w'' => Same B w w'' → VT.Rows w''.heap.size w'' r.a.A r.a.cap r.l := fun w'' hz hk hS =>
    hmod w'' ⟨fun q h1 h2 => hk q h2 (by omega) (fun e => by have := (hol q e.symm).2; omega), hz⟩ hS
  refine ⟨j + 1, R ++ [r], by omega, by simp, by simp [hl], ?_, hpf.trans (pO.trans pX), fun u hu => ?_, fun k a ha => ?_⟩
  · rw [List.map_append]
    exact hown4
  · rcases List.mem_append.1 hu with hu | hu
    · exact ((hmd u hu).step (pO.more fun _ h => h.elim)).step (pX.more fun _ h => h.elim)
    · rw [List.mem_singleton] at hu
      subst hu
      exact hmX.step (pX.more fun _ h => h.elim)
  · by_cases hk : k < R.length
    · exact hP k a (by rw [List.getElem?_append_left hk] at ha; exact ha)
    · rw [List.getElem?_append_right (by omega)] at ha
      have hk0 : k - R.length = 0 := by
        have := (List.getElem?_eq_some_iff.1 ha).1
        simp at this
        omega
      rw [hk0] at ha
      simp at ha
      subst ha
      have : k = j := by omega
      subst this
      exact hr
/-- What rowsOf and copyRows come to. -/
def RwPost (P : Nat → VT → Prop) (n B : Nat) (w : World) (e : Ending) (w' : World) : Prop :=
  ∃ (A : Option Addr) (cap : Nat) (R : List VT), R.length = n ∧ e = .returned (.slice A R.length cap) ∧ Below w.heap.size w w' ∧
    (∀ w'', Keeps w.heap.size w' w'' → Same B w w'' → VT.RRow w''.heap.size w'' A cap R) ∧ (∀ (q : Nat) (r : VT), R[q]? = some r → P q r) ∧ (A = none → R.length = 0 ∧ cap = 0)
theorem RwRel.fin {P : Nat → VT → Prop} {n B cap : Nat} {w W0 wr wf : World} {A : Option Addr} {R : List VT} (hl : R.length = n) (hbw : Below w.heap.size w W0) (hown : wr.ownsRow W0.heap.size 42 1 (.slice A n cap) n (R.map rowV)) (hpf : PFr (fun _ => False) W0 (.slice none 0 0) wr (.slice A n cap))
    (hmd : ∀ r, r ∈ R → Md (· < W0.heap.size) (.slice A n cap) wr fun w'' => Same B w w'' → VT.Rows w''.heap.size w'' r.a.A r.a.cap r.l) (hP : ∀ (q : Nat) (r : VT), R[q]? = some r → P q r) (cap' : Nat) (hc : n ≤ cap') (hcm : cap' ≤ maxLen) (h0 : A = none → n = 0 ∧ cap' = 0) (hf : Below wr.heap.size wr wf) :
    RwPost P n B w (.returned (.slice A n cap')) wf := by
  have z0 := hpf.size
  have z1 := hf.size
  have z2 := hbw.size
  refine ⟨A, cap', R, hl, by rw [hl], hbw.trans ((hpf.toBelow z2 (fun k e => e.elim)).trans (hf.mono (by omega))), fun w'' hk hS => ?_, hP, fun h => by have := h0 h; omega⟩
  have hk' : ∀ q, W0.heap.size ≤ q → q < wr.heap.size → w''.heap[q]? = wr.heap[q]? := fun q h1 h2 => (hk.1 q (by omega) (by omega)).trans (hf.block q h2)
  obtain ⟨A2, cap2, e, h, _⟩ := own_list (own_keep hown hk') hl
  cases e
  exact ⟨by omega, hcm, fun x hx => hmd x hx w'' (Nat.le_trans z1 hk.2) (fun q h1 h2 _ => hk' q (by omega) h1) hS, h.2.2⟩
/-- A row that was made and filled, as values. -/
theorem Filled.rows {n g : Nat} {us : List VT} {w : World} (h : Filled 61 5 n g (us.flatMap vCells) w) (hl : us.length = n) (hm : n ≤ maxLen) : VT.Row w.heap.size w (some ⟨g, 0, none⟩) n us := by
  refine ⟨by omega, hm, fun i x hx => ⟨⟨g, 0, none⟩, rfl, h.lt, ?_⟩⟩
  have hadd : (⟨g, 0, none⟩ : Addr).add (i * 5) = ⟨g, i * 5, none⟩ := by unfold Addr.add; split <;> simp_all
  have hc : ∀ j u, j < 5 → (vCells x)[j]? = some u → w.cell? ⟨g, i * 5 + j, none⟩ = some u := fun j u hj hu => h.cell (by rw [flat_atc 5 us (fun _ _ => rfl) i x j hx hj]; exact hu)
  rw [hadd]
  exact ⟨hc 0 _ (by decide) rfl, hc 1 _ (by decide) rfl, hc 2 _ (by decide) rfl, hc 3 _ (by decide) rfl, hc 4 _ (by decide) rfl⟩
end Go.Proofs.YtkadahfknccjfaaGreatDoor
namespace Go.Proofs.YtkadahfknccjfaaGreatDoor
open Go.RowKit
set_option maxRecDepth 100000 in
set_option maxHeartbeats 8000000 in
theorem erowsOf_any (CA : Option Addr) (ccap n len : Nat) (cs : List VecT) (B : Nat) (w : World) (hrow : GRow VecT.c 7 B w CA ccap cs) (hin : ∀ v, v ∈ cs → VecT.In B w v) (hB : B ≤ w.heap.size) (hlen : Hid (cs.length = len)) (h120 : len ≤ 120) (hn : n ≤ 1024) (hhas : ∀ i, i < n → ∀ v, v ∈ cs → v.Has i) :
    Calls Tryz.prog 22 #[.agg #[.int .i64 n, .slice CA len ccap, .bool true, .slice none 0 0]] w (RwPost (fun q r => r.l = rowL cs q) n B w) := by
  obtain ⟨ir, hir, irz, irs, irb⟩ := info_parts infoVals
  obtain ⟨W0, hW0⟩ : ∃ W0, w.alloc (.cells #[.int .i64 n, .slice CA len ccap, .bool true, .slice none 0 0] 32) = W0 := ⟨_, rfl⟩
  have hbw : Below w.heap.size w W0 := by rw [← hW0]; exact bel1 _ _
  have P0 : W0.heap[w.heap.size]? = some (.cells #[.int .i64 n, .slice CA len ccap, .bool true, .slice none 0 0] 32 (0, 0)) := by rw [← hW0]; exact heap_alloc_new w _
  have hlt0 : w.heap.size < W0.heap.size := (Array.getElem?_eq_some_iff.1 P0).1
  have hk : Hid (∀ W, Below W0.heap.size W0 W → W.cell? ⟨w.heap.size, 0, none⟩ = some (.int .i64 n) ∧ W.cell? ⟨w.heap.size, 1, none⟩ = some (.slice CA len ccap) ∧ W.cell? ⟨w.heap.size, 2, none⟩ = some (.bool true) ∧ W.cell? ⟨w.heap.size, 3, none⟩ = some (.slice none 0 0)) := fun W h => by
    have Q := (h.block w.heap.size hlt0).trans P0
    exact ⟨cell_of_row W _ 0 _ _ _ Q, cell_of_row W _ 1 _ _ _ Q, cell_of_row W _ 2 _ _ _ Q, cell_of_row W _ 3 _ _ _ Q⟩
  obtain ⟨p0, p1, p2, p3⟩ := hk.out W0 (Below.refl _ _)
  have hcn := Lib.hid (ecounting_any CA ccap n len W0 hn)
  have HW0 := Lib.hid hW0
  have Hrow := Lib.hid hrow
  have Hin := Lib.hid hin
  have Hhas := Lib.hid hhas
  have Hlt0 := Lib.hid hlt0
  clear hW0 P0 hrow hin hhas hlt0
  go_enter Tryz.func22, Tryz.ntmps22
  go_upto_region 2 with (fail)
  rw [HW0.out]
  go_wp2_with fail
  refine hcn.out.mono ?_
  rintro e w1 ⟨g, rfl, hg, hfil, hb1⟩
  have hbw1 : Below w.heap.size w w1 := hbw.trans (hb1.mono hbw.size)
  have Hfil := Lib.hid hfil
  clear p0 p1 p2 p3 hcn hfil
  go_wp2
  go_loopw [3, 9] (fun ov i wr => RwRel (fun q r => r.l = rowL cs q) n B w w1 ov i wr) (fun _ i _ => n - (intOf i).toNat)
  case atStart => exact RwRel.start
  case round =>
    obtain ⟨j, R, hj, rfl, hl, hown, hpf, hmd, hP⟩ := hrel
    have hz := hpf.size
    have hb1r : Below w1.heap.size w1 wr := hpf.toBelow (Nat.le_refl _) (fun k e => e.elim)
    have hb0r : Below W0.heap.size W0 wr := hb1.trans (hb1r.mono hb1.size)
    have hbwr : Below w.heap.size w wr := hbw.trans (hb0r.mono hbw.size)
    by_cases hlt : j < n
    · have c0 := (Hfil.out.keep (hb1r.block _ Hfil.out.lt)).cell (i := j) (u := .int .i64 j) (by simp [cntL, hlt])
      obtain ⟨p0, p1, p2, p3⟩ := hk.out wr hb0r
      have hS : Same B w wr := Same.mono (Same.of_below hbwr) hB
      have hrw := Lib.hid (erow_any CA ccap n len j cs B wr (Hrow.out.keep hS) (fun v hv => (Hin.out v hv).keep hS) (Nat.le_trans hB hbwr.size) hlen h120 (Hhas.out j hlt))
      have Hown := Lib.hid hown
      have Hpf := Lib.hid hpf
      have Hmd := Lib.hid hmd
      have HP := Lib.hid hP
      have Hl := Lib.hid hl
      clear hown hpf hmd hP hl
      go_wp2_with fail
      refine hrw.out.mono ?_
      rintro e w2 ⟨g2, rfl, hg2, hf2, hb2⟩
      have hownY := own_below Hown.out hb2
      have hz2 := hb2.size
      have h3 : Hid (j + 1 ≤ maxLen) := by show _ ≤ _; unfold maxLen; omega
      have h4 : Hid ((j + 1) * 24 ≤ 140737488355328) := by show _ ≤ _; omega
      have h5 : Hid (∀ o, w1.heap.size ≤ (w2.alloc o).heap.size) := fun o => by simp; omega
      have hrl : (rowL cs j).length = len := by unfold rowL; rw [List.length_map]; exact hlen.out
      have hrv : rowV (.node ⟨0, 0, 0, ByteArray.empty, some ⟨g2, 0, none⟩, len⟩ (rowL cs j)) = .slice (some ⟨g2, 0, none⟩) len len := by unfold rowV; rw [VT.a_node, VT.l_node, hrl]
      have Hmod : Hid (∀ w'', Keeps wr.heap.size w2 w'' → Same B w w'' → VT.Rows w''.heap.size w'' (some ⟨g2, 0, none⟩) len (rowL cs j)) := fun w'' hk hS'' => by
        refine ⟨(hf2.keep (hk.1 g2 hg2 hf2.lt)).rows hrl (by unfold maxLen; omega), fun x hx => ?_⟩
        obtain ⟨v, hv, rfl⟩ := List.mem_map.1 hx
        exact ((at_in (Hin.out v hv) (Hhas.out j hlt v hv)).keep hS'').more (by have := hk.2; have := hbwr.size; omega)
      have Hrv := Lib.hid hrv
      clear hrw hrl hf2 hrv
      go_wp2_with (at_builtin; refine wpList_append_own2 _ rfl _ _ 23 rfl w1.heap.size 42 ir _ 1 24 Tryz.underlying23 hir irz irs irb rfl (by decide) _ j (R.map rowV) rfl (hownY.alloc _) ⟨w2.heap.size, 0, none⟩ 1 1 [.slice (some ⟨g2, 0, none⟩) len len] rfl (by decide) rfl (fun q u' h => new_cells _ _ _ q u' h) (by simp [Value.oneCell']) h3.out h4.out (h5.out _) ?_; intro ov' w4 hown4 hg4 hm4)
      have HST := Lib.hid (RwRel.step (P := fun q r => r.l = rowL cs q) (r := .node ⟨0, 0, 0, ByteArray.empty, some ⟨g2, 0, none⟩, len⟩ (rowL cs j)) _ hlt Hl.out Hown.out Hpf.out Hmd.out HP.out hb2 Hmod.out rfl (by rw [Hrv.out]; exact hown4) hg4 hm4)
      clear hown4 hg4 hm4 hownY
      go_wp2
      go_roundw
      case rel => exact HST.out
      case measure => simp [intOf]; omega
    · obtain rfl : j = n := by omega
      obtain ⟨A, cap, rfl, hcr, hnil⟩ := own_list hown hl
      have hfin := Lib.hid (RwRel.fin hl hbw1 hown hpf hmd hP cap (by have := hcr.1; omega) hcr.2.1 hnil (Below.refl _ _))
      clear hown hpf hmd hP hcr hnil
      go_wp2
      go_ret
      exact hfin.out
end Go.Proofs.YtkadahfknccjfaaGreatDoor
namespace Go.Proofs.YtkadahfknccjfaaGreatDoor
open Go.RowKit
set_option maxRecDepth 100000 in
set_option maxHeartbeats 8000000 in
theorem ecopyRows_any (RA : Option Addr) (rcap len : Nat) (rows : List VT) (B : Nat) (w : World) (hr : VT.RRow B w RA rcap rows) (hB : B ≤ w.heap.size) (hlen : Hid (rows.length = len)) (h1024 : len ≤ 1024) (hw : ∀ r, r ∈ rows → r.l.length ≤ 120) (hsm : ∀ r, r ∈ rows → ∀ x, x ∈ r.l → VT.Sml x) :
    Calls Tryz.prog 21 #[.slice RA len rcap] w (RwPost (fun q r => ∀ y, rows[q]? = some y → SmL y.l r.l) len 0 w) := by
  obtain ⟨ir, hir, irz, irs, irb⟩ := info_parts infoVals
  obtain ⟨i0, hi, iz, isz, iby⟩ := info_parts infoValue
  have Hr := Lib.hid hr
  have Hw := Lib.hid hw
  have Hsm := Lib.hid hsm
  clear hr hw hsm
  go_enter Tryz.func21, Tryz.ntmps21
  go_wp2
  go_loopw [3, 11] (fun ov i wr => RwRel (fun q r => ∀ y, rows[q]? = some y → SmL y.l r.l) len 0 w w ov i wr) (fun _ i _ => len - (intOf i).toNat)
  case atStart => exact RwRel.start
  case round =>
    obtain ⟨wo, rfl⟩ : ∃ wo : World, wo = wr := ⟨_, rfl⟩
    obtain ⟨j, R, hj, rfl, hl, hown, hpf, hmd, hP⟩ := hrel
    have hz := hpf.size
    have hbo : Below w.heap.size w wo := hpf.toBelow (Nat.le_refl _) (fun k e => e.elim)
    have hSo : Same B w wo := Same.mono (Same.of_below hbo) hB
    by_cases hlt : j < len
    · obtain ⟨r, ad, hx, rfl, hab, c0⟩ := (Hr.out.keep hSo).get (show j < rows.length by rw [hlen.out]; exact hlt)
      have hrm := mem_of_get? hx
      have hrr := Hr.out.2.2.1 r hrm
      have hrl := Hw.out r hrm
      have hrs := Hsm.out r hrm
      obtain ⟨⟨rk, rn, rsc, rs, rA, rc⟩, rl⟩ := r
      simp only [VT.a_node, VT.l_node] at c0 hrr hrl hrs
      obtain ⟨m, hm⟩ : ∃ m, rl.length = m := ⟨_, rfl⟩
      rw [hm] at c0 hrl
      obtain ⟨Z, hZ⟩ : ∃ Z, madeCells (Value.cells (.agg #[.int .i64 0, .int .i64 0, .int .i64 0, .string ByteArray.empty, .slice none 0 0])) (m * i0.size) = Z := ⟨_, rfl⟩
      have hmk : ∀ W : World, (Instr.makeSlice 42 (.int .i64 (m : Int)) (.int .i64 (m : Int))).run Tryz.prog W = .ok (.slice (some ⟨W.heap.size, 0, none⟩) m m) (W.alloc (.cells Z 61)) := fun W => by
        have := run_makeSlice W 42 61 i0 _ Tryz.underlying42 hi iz .i64 .i64 (m : Int) (m : Int) (by omega) (by omega) (by rw [isz]; simp; omega) (by rw [iby]; omega) (by omega)
        simp only [Int.toNat_natCast] at this
        rw [hZ] at this
        exact this
      have hZs : Z.size = m * 5 := by rw [← hZ, size_madeCells, isz]
      clear hZ
      obtain ⟨W1, hW1⟩ : ∃ W1, wo.alloc (.cells Z 61) = W1 := ⟨_, rfl⟩
      have hb1 : Below wo.heap.size wo W1 := by rw [← hW1]; exact bel1 _ _
      have hf1 : Filled 61 5 m wo.heap.size [] W1 := ⟨Z, by rw [← hW1]; exact heap_alloc_new wo _, hZs, rfl⟩
      have HW1 := Lib.hid hW1
      have Hf1 := Lib.hid hf1
      have Hm := Lib.hid hm
      have Hrr := Lib.hid hrr
      have Hrs := Lib.hid hrs
      have Hx := Lib.hid hx
      have Hown := Lib.hid hown
      have Hpf := Lib.hid hpf
      have Hmd := Lib.hid hmd
      have HP := Lib.hid hP
      have Hl := Lib.hid hl
      clear hW1 hf1 hm hrr hrs hx hown hpf hmd hP hl hZs hrm
      go_upto_region 6 with (fail)
      rw [HW1.out]
      clear c0 hmk
      go_wp2
      go_loopw [20] (fun i wr => ∃ (q : Nat) (us : List VT), q ≤ m ∧ i = .int .i64 q ∧ us.length = q ∧ Filled 61 5 m wo.heap.size (us.flatMap vCells) wr ∧ Below wo.heap.size wo wr ∧ (∀ (k : Nat) x y, rl[k]? = some x → us[k]? = some y → VT.Sm x y) ∧ ∀ y, y ∈ us → VT.InS (New (wo.heap.size + 1) wr) wr y) (fun i _ => m - (intOf i).toNat)
      case atStart => exact ⟨0, [], Nat.zero_le _, rfl, rfl, Hf1.out, hb1, (fun k x y _ h => by simp at h), fun y h => by cases h⟩
      case round =>
        obtain ⟨q, us, hq, rfl, hul, hf, hbr, hsm2, hinu⟩ := hrel
        have hzr := hbr.size
        have hflt := hf.lt
        have hSr : Same B w wr := hSo.trans (Same.mono (Same.of_below hbr) (by have := hbo.size; omega))
        by_cases hqlt : q < m
        · obtain ⟨x, yad, hxx, hyA, hxb, e0, e1, e2, e3, e4⟩ := (Hrr.out.1.keep hSr).get (show q < rl.length by rw [Hm.out]; exact hqlt)
          have hxin := Hrr.out.2 x (mem_of_get? hxx)
          have hxs := Hrs.out x (mem_of_get? hxx)
          obtain ⟨W4, hW4⟩ : ∃ W4, wr.alloc (.cells #[.int .i64 x.a.k, .int .i64 x.a.n, .int .i64 x.a.sc, .string x.a.s, .slice x.a.A x.l.length x.a.cap] 61) = W4 := ⟨_, rfl⟩
          have hb4 : Below wr.heap.size wr W4 := by rw [← hW4]; exact bel1 _ _
          have hcp := Lib.hid (vCopy_any x B W4 (hxin.keep (hSr.trans (Same.mono (Same.of_below hb4) (by have := hbo.size; omega)))) (by have := hb4.size; have := hbo.size; omega) hxs)
          have HW4 := Lib.hid hW4
          have Hxx := Lib.hid hxx
          have Hf := Lib.hid hf
          have Hsm2 := Lib.hid hsm2
          have Hinu := Lib.hid hinu
          have Hul := Lib.hid hul
          rw [hyA] at *
          clear hW4 hxx hf hsm2 hinu hul hxin hxs hyA
          go_wp2_with fail
          rw [HW4.out]
          refine hcp.out.mono ?_
          rintro e w5 ⟨y, rfl, hb5, hyin, hxy⟩
          have hbr5 : Below wr.heap.size wr w5 := hb4.trans (hb5.mono hb4.size)
          have hf5 := Hf.out.keep (hbr5.block _ hflt)
          obtain ⟨z0, r0⟩ := hf5.room (show q * 5 < m * 5 by omega)
          obtain ⟨z1, r1⟩ := hf5.room (show q * 5 + 1 < m * 5 by omega)
          obtain ⟨z2, r2⟩ := hf5.room (show q * 5 + 2 < m * 5 by omega)
          obtain ⟨z3, r3⟩ := hf5.room (show q * 5 + 3 < m * 5 by omega)
          obtain ⟨z4, r4⟩ := hf5.room (show q * 5 + 4 < m * 5 by omega)
          have fz := hf5.frozen
          have Hf5 := Lib.hid hf5
          have hz4 := hb4.size
          have hz5 := hbr5.size
          clear hf5 hcp
          go_wp2
          generalize hWf : World.setCell _ _ _ = Wf
          have hfs := Hf5.out.step (vs := vCells y) (by rw [vc_len, Hul.out]; show q * 5 + 5 ≤ _; omega)
          rw [vc_len, Hul.out] at hfs
          have hWs : w5.setCells wo.heap.size (q * 5) (vCells y) = Wf := by
            rw [← hWf]
            simp only [World.setCells, vCells, Nat.add_assoc, Nat.reduceAdd]
          rw [hWs] at hfs
          have hko : ∀ k, k ≠ wo.heap.size → Wf.heap[k]? = w5.heap[k]? := fun k hk => by
            rw [← hWs]
            exact (sets_frame (vCells y) (q * 5) w5).2.2.2.2 k hk
          have hsz : Wf.heap.size = w5.heap.size := by
            rw [← hWs]
            exact (sets_frame (vCells y) (q * 5) w5).2.2.2.1
          have hbf : Below wo.heap.size wo Wf := by
            obtain ⟨f1, f2, f3, f4, f5⟩ := sets_frame (g := wo.heap.size) (vCells y) (q * 5) w5
            rw [hWs] at f1 f2 f3 f4 f5
            have hb := hbr.trans (hbr5.mono hzr)
            exact ⟨f1.trans hb.os, f2.trans hb.tape, f3.trans hb.output, by have := hb.size; omega, fun k hk => (f5 k (by omega)).trans (hb.block k hk)⟩
          go_roundw
          case rel =>
            refine ⟨q + 1, us ++ [y], by omega, by simp, by simp [Hul.out], by rw [List.flatMap_append, List.flatMap_singleton]; exact hfs, hbf, fun k a b ha hb => ?_, fun u hu => ?_⟩
            · by_cases hk : k < us.length
              · exact Hsm2.out k a b ha (by rw [List.getElem?_append_left hk] at hb; exact hb)
              · rw [List.getElem?_append_right (by omega)] at hb
                have hk0 : k - us.length = 0 := by
                  have := (List.getElem?_eq_some_iff.1 hb).1
                  simp at this
                  omega
                rw [hk0] at hb
                simp at hb
                subst hb
                have hkq : k = q := by have := Hul.out; omega
                subst hkq
                rw [Hxx.out] at ha
                cases ha
                exact hxy
            · rcases List.mem_append.1 hu with hu | hu
              · exact (Hinu.out u hu).keep (fun k hk => (hko k (by have := hk.1; omega)).trans (hbr5.block k hk.2)) (fun k hk => ⟨hk.1, by have := hk.2; omega⟩)
              · rw [List.mem_singleton] at hu
                subst hu
                exact hyin.keep (fun k hk => hko k (by have := hk.1; omega)) (fun k hk => ⟨by have := hk.1; omega, by have := hk.2; omega⟩)
          case measure => simp [intOf]; omega
        · obtain rfl : q = m := by omega
          have hownY := own_below Hown.out hbr
          have h3 : Hid (j + 1 ≤ maxLen) := by show _ ≤ _; unfold maxLen; omega
          have h4 : Hid ((j + 1) * 24 ≤ 140737488355328) := by show _ ≤ _; omega
          have h5 : Hid (∀ o, w.heap.size ≤ (wr.alloc o).heap.size) := fun o => by simp; omega
          have hrv : rowV (.node ⟨0, 0, 0, ByteArray.empty, some ⟨wo.heap.size, 0, none⟩, q⟩ us) = .slice (some ⟨wo.heap.size, 0, none⟩) q q := by unfold rowV; rw [VT.a_node, VT.l_node, hul]
          have Hmod : Hid (∀ w'', Keeps wo.heap.size wr w'' → Same 0 w w'' → VT.Rows w''.heap.size w'' (some ⟨wo.heap.size, 0, none⟩) q us) := fun w'' hk hS'' => by
            refine ⟨(hf.keep (hk.1 _ (Nat.le_refl _) hflt)).rows hul (by unfold maxLen; omega), fun x hx => ?_⟩
            exact ((hinu x hx).keep (S' := fun q => q < w''.heap.size) (fun q hq => hk.1 q (by have := hq.1; omega) hq.2) (fun q hq => by have := hq.2; have := hk.2; omega)).toIn fun q hq => hq
          have Hss : Hid (∀ y, rows[j]? = some y → SmL y.l us) := fun y hy => by
            rw [Hx.out] at hy
            cases hy
            exact ⟨by show rl.length = us.length; rw [Hm.out, hul], hsm2⟩
          have Hrv := Lib.hid hrv
          have Hbr := Lib.hid hbr
          clear hf hsm2 hinu hul hrv hbr hSr
          go_wp2_with (at_builtin; refine wpList_append_own2 _ rfl _ _ 23 rfl w.heap.size 42 ir _ 1 24 Tryz.underlying23 hir irz irs irb rfl (by decide) _ j (R.map rowV) rfl (hownY.alloc _) ⟨wr.heap.size, 0, none⟩ 1 1 [.slice (some ⟨wo.heap.size, 0, none⟩) q q] rfl (by decide) rfl (fun q u' h => new_cells _ _ _ q u' h) (by simp [Value.oneCell']) h3.out h4.out (h5.out _) ?_; intro ov' w4 hown4 hg4 hm4)
          have HST := Lib.hid (RwRel.step (P := fun q r => ∀ y, rows[q]? = some y → SmL y.l r.l) (r := .node ⟨0, 0, 0, ByteArray.empty, some ⟨wo.heap.size, 0, none⟩, q⟩ us) _ hlt Hl.out Hown.out Hpf.out Hmd.out HP.out Hbr.out Hmod.out Hss.out (by rw [Hrv.out]; exact hown4) hg4 hm4)
          clear hown4 hg4 hm4 hownY
          go_wp2
          go_roundw
          case rel => exact HST.out
          case measure => simp [intOf]; omega
    · obtain rfl : j = len := by omega
      obtain ⟨A, cap, rfl, hcr, hnil⟩ := own_list hown hl
      have hca : j ≤ cap := by have := hcr.1; omega
      have hclip := Lib.hid (clipRow_any A j cap wo hca hcr.2.1 hnil)
      have hfin := Lib.hid (RwRel.fin hl (Below.refl _ _) hown hpf hmd hP j (Nat.le_refl _) (Nat.le_trans hca hcr.2.1) (fun h => ⟨(hnil h).1, (hnil h).1⟩) (Below.refl _ _))
      clear hown hpf hmd hP hcr hnil
      go_wp2_with fail
      refine hclip.out.mono ?_
      rintro e w' ⟨rfl, rfl⟩
      go_wp2
      go_ret
      exact hfin.out
end Go.Proofs.YtkadahfknccjfaaGreatDoor
