/-
  A batch of rows: package engine.
  A batch of rows: the reference of package engine.
-/
import Derived.Test.YtkadahfknccjfaaGreatDoorQStill
import Derived.Test.YtkadahfknccjfaaGreatDoorQBatH
import Derived.Test.YtkadahfknccjfaaGreatDoorQCloneA
import Derived.Deep.RegionLaw
import Derived.Deep.DeepCutAuto
namespace Go.Proofs.YtkadahfknccjfaaGreatDoor
open Go.RowKit
set_option maxRecDepth 100000 in
set_option maxHeartbeats 8000000 in
theorem enewBatch_any (TA RA : Option Addr) (tcap rcap flen len : Nat) (ts : List FT) (rows : List VT) (B : Nat) (w : World) (htr : FT.TRow B w TA tcap ts) (hr : VT.RRow B w RA rcap rows) (hB : B ≤ w.heap.size) (hflen : Hid (ts.length = flen)) (hlen : Hid (rows.length = len)) (h120 : flen ≤ 120) (h1024 : len ≤ 1024)
    (hw : ∀ r, r ∈ rows → r.l.length = flen) (hsm : ∀ r, r ∈ rows → ∀ x, x ∈ r.l → VT.Sml x) :
    Calls Tryz.prog 13 #[.slice TA flen tcap, .slice RA len rcap] w (BatPost id ts rows B w) := by
  obtain ⟨iv, hiv, ivz, ivs, ivb⟩ := info_parts infoValue
  obtain ⟨ic, hic, icz, ics, icb⟩ := info_parts infoVector
  obtain ⟨W0, hW0⟩ : ∃ W0, (w.alloc (.cells #[.int .i64 0, .slice none 0 0, .bool false, .slice none 0 0] 32)).alloc (.cells #[.int .i64 len, .slice none 0 0, .bool true, .slice none 0 0] 32) = W0 := ⟨_, rfl⟩
  have hbw : Below w.heap.size w W0 := by rw [← hW0]; exact bel2 _ _ _
  have hz0 : W0.heap.size = w.heap.size + 2 := by rw [← hW0]; simp
  have P0 : W0.heap[w.heap.size]? = some (.cells #[.int .i64 0, .slice none 0 0, .bool false, .slice none 0 0] 32 (0, 0)) := by rw [← hW0, Below.heap_alloc _ _ _ (by simp)]; exact heap_alloc_new w _
  have P1 : W0.heap[w.heap.size + 1]? = some (.cells #[.int .i64 len, .slice none 0 0, .bool true, .slice none 0 0] 32 (0, 0)) := by rw [← hW0]; exact blk_new _ _ _ (by simp)
  have HW0 := Lib.hid hW0
  have Hbw := Lib.hid hbw
  have Hz0 := Lib.hid hz0
  have HP0 := Lib.hid P0
  have HP1 := Lib.hid P1
  have Htr := Lib.hid htr
  have Hr := Lib.hid hr
  have Hw := Lib.hid hw
  have Hsm := Lib.hid hsm
  clear hW0 hbw hz0 P0 P1 htr hr hw hsm
  go_enter Tryz.func13, Tryz.ntmps13
  go_upto_region 2 with (fail)
  rw [HW0.out]
  go_wp2
  go_loopw [16] (fun i wr => NbRel id ts rows B w W0 (w.heap.size + 1) len flen i wr) (fun i _ => flen - (intOf i).toNat)
  case atStart => exact ⟨0, none, 0, [], Nat.zero_le _, rfl, rfl, HP1.out, World.ownsRow_nil _ _ _ _, PFr.refl _ _ _, fun v hv => (by cases hv), fun k v hv => by simp at hv⟩
  case round =>
    obtain ⟨wo, rfl⟩ : ∃ wo : World, wo = wr := ⟨_, rfl⟩
    obtain ⟨j, CA, ccap, cs, hj, rfl, hcl, hP, hown, hpf, hmd, hco⟩ := hrel
    have hzo := hpf.size
    have hbo : Below w.heap.size w wo := Hbw.out.trans (hpf.toBelow (by have := Hz0.out; omega) (fun k e => by omega))
    have hSo : Same B w wo := Same.mono (Same.of_below hbo) hB
    by_cases hlt : j < flen
    · obtain ⟨t, tad, ht, rfl, htb, f0, f1, f2⟩ := (Htr.out.keep hSo).get (show j < ts.length by rw [hflen.out]; exact hlt)
      have htin : FT.In B w t := Htr.out.2.2.1 t (mem_of_get? ht)
      obtain ⟨W1, hW1⟩ : ∃ W1, wo.alloc (.cells #[.int .i64 t.a.k, .int .i64 t.a.sc, .slice t.a.A t.l.length t.a.cap] 50) = W1 := ⟨_, rfl⟩
      have hb1 : Below wo.heap.size wo W1 := by rw [← hW1]; exact bel1 _ _
      have hw1 : wo.heap.size < W1.heap.size := by rw [← hW1]; simp
      have Q1 : W1.heap[wo.heap.size]? = some (.cells #[.int .i64 t.a.k, .int .i64 t.a.sc, .slice t.a.A t.l.length t.a.cap] 50 (0, 0)) := by rw [← hW1]; exact heap_alloc_new wo _
      have HW1 := Lib.hid hW1
      have HQ1 := Lib.hid Q1
      have Hhw1 := Lib.hid hw1
      have Hht := Lib.hid ht
      have HP := Lib.hid hP
      have Hown := Lib.hid hown
      have Hpf := Lib.hid hpf
      have Hmd := Lib.hid hmd
      have Hco := Lib.hid hco
      have Hcl := Lib.hid hcl
      have Hzo := Lib.hid hzo
      clear hW1 Q1 hw1 ht hP hown hpf hmd hco hcl hzo
      go_upto_region 5 with (fail)
      rw [HW1.out]
      go_wp2
      go_loopw [8, 23] (fun sv i wr => ClR (Col rows j) W1.heap.size W1 len sv i wr) (fun _ i _ => len - (intOf i).toNat)
      case atStart => exact ⟨0, Nat.zero_le _, rfl, World.ownsRow_nil _ _ _ _, Below.refl _ _⟩
      case round =>
        clear f0 f1 f2
        obtain ⟨q, hq, rfl, hown2, hbq⟩ := hrel
        have hbq0 : Below wo.heap.size wo wr := hb1.trans (hbq.mono hb1.size)
        have hSq : Same B w wr := hSo.trans (Same.mono (Same.of_below hbq0) (by have := hbo.size; omega))
        by_cases hqlt : q < len
        · obtain ⟨y, ad, hy, rfl, hyb, d0⟩ := (Hr.out.keep hSq).get (show q < rows.length by rw [hlen.out]; exact hqlt)
          have hyr := Hr.out.2.2.1 y (mem_of_get? hy)
          have hyl := Hw.out y (mem_of_get? hy)
          obtain ⟨x, yad, hx, hyA, hxb, e0, e1, e2, e3, e4⟩ := (hyr.1.keep hSq).get (show j < y.l.length by rw [hyl]; exact hlt)
          have hcx : (Col rows j)[q]? = some x := by rw [Col_get hy, getD_of hx]
          obtain ⟨⟨yk, yn, ysc, ys, yA, ycap⟩, yl⟩ := y
          simp only [VT.a_node, VT.l_node] at d0 hyA hyl
          rw [hyl] at d0
          subst hyA
          have Hcx := Lib.hid hcx
          have Hown2 := Lib.hid hown2
          have h3 : Hid (q + 1 ≤ maxLen) := by show _ ≤ _; unfold maxLen; omega
          have h4 : Hid ((q + 1) * 64 ≤ 140737488355328) := by show _ ≤ _; omega
          have hzq := hbq.size
          have h5 : Hid (∀ o, W1.heap.size ≤ (wr.alloc o).heap.size) := fun o => by simp; omega
          clear hcx hown2 hy hyr hx hyl
          go_wp2_with (at_builtin; refine wpList_append_own2 _ rfl _ _ 42 rfl W1.heap.size 61 iv _ 5 64 Tryz.underlying42 hiv ivz ivs ivb rfl (by decide) _ q (((Col rows j).take q).flatMap vCells) rfl (Hown2.out.alloc _) ⟨wr.heap.size, 0, none⟩ 1 1 (vCells x) rfl (by decide) rfl (fun q u' h => new_cells _ _ _ q u' h) (vCells_one x) h3.out h4.out (h5.out _) ?_; intro sv' w3 hown3 hg3 hm3)
          have Hst := Lib.hid (ClR.step rfl Hcx.out hqlt Hown2.out hbq (Below.refl _ _) _ hown3 hg3)
          clear hown3 hg3 hm3
          go_wp2
          go_roundw
          case rel => exact Hst.out
          case measure => simp [intOf]; omega
        · obtain rfl : q = len := by omega
          have hCl : (Col rows j).length = q := by rw [Col_len]; exact hlen.out
          rw [List.take_of_length_le (by rw [hCl]; exact Nat.le_refl _)] at hown2
          obtain ⟨A', cap', rfl, ha, hb', hc', hat⟩ := own_values hown2 hCl
          have hrow : VT.Row wr.heap.size wr A' cap' (Col rows j) := ⟨by rw [hCl]; exact ha, hb', fun i x hx => by
            obtain ⟨ad, e1, _, _, _, e2, e3, e4⟩ := hat i x hx
            exact ⟨ad, e1, e3, e4⟩⟩
          have hcin : ∀ x, x ∈ Col rows j → VT.In B w x ∧ VT.Sml x := fun x hx => by
            obtain ⟨y, hy, rfl⟩ := List.mem_map.1 hx
            have hyl := Hw.out y hy
            have hlt' : j < y.l.length := by rw [hyl]; exact hlt
            have hm : y.l.getD j zeroV ∈ y.l := by rw [getD_of (List.getElem?_eq_getElem hlt')]; exact List.getElem_mem hlt'
            exact ⟨(Hr.out.2.2.1 y hy).2 _ hm, Hsm.out y hy _ hm⟩
          have hP' := (hbq0.block (w.heap.size + 1) (by have := Hzo.out; have := Hz0.out; omega)).trans HP.out
          have hQ' := (hbq.block wo.heap.size Hhw1.out).trans HQ1.out
          have hkS : Hid (∀ W, Below wr.heap.size wr W → W.cell? ⟨w.heap.size + 1, 1, none⟩ = some (.slice CA j ccap) ∧ W.frozen? ⟨w.heap.size + 1, 1, none⟩ = false ∧ W.cell? ⟨wo.heap.size, 0, none⟩ = some (.int .i64 t.a.k) ∧ W.cell? ⟨wo.heap.size, 1, none⟩ = some (.int .i64 t.a.sc) ∧ W.cell? ⟨wo.heap.size, 2, none⟩ = some (.slice t.a.A t.l.length t.a.cap)) := fun W h => by
            have E1 := (h.block (w.heap.size + 1) (by have := hbq0.size; have := Hzo.out; have := Hz0.out; omega)).trans hP'
            have E2 := (h.block wo.heap.size (by have := hbq.size; have := Hhw1.out; omega)).trans hQ'
            exact ⟨cell_of_row W _ 1 _ _ _ E1, by simp [World.frozen?, E1], cell_of_row W _ 0 _ _ _ E2, cell_of_row W _ 1 _ _ _ E2, cell_of_row W _ 2 _ _ _ E2⟩
          have hkA : Hid (∀ wx o, Below wr.heap.size wr wx → (wx.alloc o).cell? ⟨w.heap.size + 1, 1, none⟩ = some (.slice CA j ccap)) := fun wx o h => (hkS.out _ (h.alloc h.size o)).1
          have Hst : Hid (∀ wx o W, Below wr.heap.size wr wx → (wx.alloc o).grownBy W (Value.slice CA j ccap).ownBlock → W.cell? ⟨w.heap.size + 1, 1, none⟩ = some (.slice CA j ccap) ∧ W.frozen? ⟨w.heap.size + 1, 1, none⟩ = false ∧ W.cell? ⟨wo.heap.size, 0, none⟩ = some (.int .i64 t.a.k) ∧ W.cell? ⟨wo.heap.size, 1, none⟩ = some (.int .i64 t.a.sc) ∧ W.cell? ⟨wo.heap.size, 2, none⟩ = some (.slice t.a.A t.l.length t.a.cap)) := fun wx o W h hg => by
            have z1 := h.size
            have z2 := hbq0.size
            have z3 := Hzo.out
            have z4 := Hz0.out
            have z5 := Hhw1.out
            have z6 := hbq.size
            have hol := Hown.out.lt
            have E1 := (hg.block (w.heap.size + 1) (by simp; omega) (fun e => by have := (hol _ e.symm).1; omega)).trans ((Below.heap_alloc wx o _ (by omega)).trans ((h.block (w.heap.size + 1) (by omega)).trans hP'))
            have E2 := (hg.block wo.heap.size (by simp; omega) (fun e => by have := (hol _ e.symm).2; omega)).trans ((Below.heap_alloc wx o _ (by omega)).trans ((h.block wo.heap.size (by omega)).trans hQ'))
            exact ⟨cell_of_row W _ 1 _ _ _ E1, by simp [World.frozen?, E1], cell_of_row W _ 0 _ _ _ E2, cell_of_row W _ 1 _ _ _ E2, cell_of_row W _ 2 _ _ _ E2⟩
          have hnv : Hid (∀ W, Below wr.heap.size wr W → Calls Tryz.prog 38 #[.agg #[.int .i64 t.a.k, .int .i64 t.a.sc, .slice t.a.A t.l.length t.a.cap], .slice A' q cap'] W fun e w' => ∃ v : VecT, e = .returned (.agg #[.int .i64 v.t.a.k, .int .i64 v.t.a.sc, .slice v.t.a.A v.t.l.length v.t.a.cap, .slice v.NA v.ns.length v.ncap, .slice v.IA v.is.length v.icap, .slice v.SA v.ss.length v.scap, .slice v.VA v.vs.length v.vcap]) ∧ Below wr.heap.size wr w' ∧ (∀ w'', Keeps wr.heap.size w' w'' → Same B w w'' → VecT.In w''.heap.size w'' v) ∧ VecOf t (id (Col rows j)) v ∧ w'.cell? ⟨w.heap.size + 1, 1, none⟩ = some (.slice CA j ccap) ∧ w'.frozen? ⟨w.heap.size + 1, 1, none⟩ = false ∧ ∀ o, (w'.alloc o).cell? ⟨w.heap.size + 1, 1, none⟩ = some (.slice CA j ccap)) := fun W h => by
            have z1 := h.size
            have z2 := hbq0.size
            have z3 := hbo.size
            have hSW : Same B w W := hSq.trans (Same.mono (Same.of_below h) (by omega))
            exact (enewVector_any t A' q cap' W (Col rows j) W.heap.size ((hrow.keep (Same.of_below h)).more z1) (Nat.le_refl _) hCl h1024 (fun x hx => ⟨((hcin x hx).1.keep hSW).more (by omega), (hcin x hx).2⟩)).mono fun e w' ⟨v, he, hb, hvt, hin, hof, _⟩ => ⟨v, he, h.trans (hb.mono z1), fun w'' hk hS => hin w'' (hk.mono z1) ((htin.keep hS).more (by have := hk.2; have := hb.size; omega)), hof, (hkS.out w' (h.trans (hb.mono z1))).1, (hkS.out w' (h.trans (hb.mono z1))).2.1, fun o => hkA.out w' o (h.trans (hb.mono z1))⟩
          have hownX : Hid (∀ wx, Below wr.heap.size wr wx → wx.ownsRow W0.heap.size 54 7 (.slice CA j ccap) j (cs.flatMap VecT.c)) := fun wx h => own_below (own_below Hown.out hbq0) h
          have h3 : Hid (j + 1 ≤ maxLen) := by show _ ≤ _; unfold maxLen; omega
          have h4 : Hid ((j + 1) * 136 ≤ 140737488355328) := by show _ ≤ _; omega
          have h5 : Hid (∀ wx o, Below wr.heap.size wr wx → W0.heap.size ≤ (wx.alloc o).heap.size) := fun wx o h => by have := h.size; have := hbq0.size; have := Hzo.out; simp; omega
          obtain ⟨c1, g1, t0, t1, t2⟩ := hkS.out wr (Below.refl _ _)
          have Hbq0 := Lib.hid hbq0
          clear hown2 hat hrow hcin hP' hQ' hc' hbq0 hbq hSq
          go_wp2_with fail
          go_region_law (first
            | (refine step_append_own (by rfl) _ _ _ (by rfl) W0.heap.size 54 ic _ 7 136 Tryz.underlying29 hic icz ics icb rfl (by decide) (.slice CA j ccap) j (cs.flatMap VecT.c) (by rfl) ((hownX.out _ hbx).alloc _) ⟨wx.heap.size, 0, none⟩ 1 1 (VecT.c v) (by rfl) (by decide) (by rfl) (fun q u' h => new_cells _ _ _ q u' h) (VecT.c_one v) h3.out h4.out (h5.out _ _ hbx) ?_; intro gg cap4 w4 hown4 hg4 hm4; obtain ⟨cg1, fg1, _⟩ := Hst.out _ _ _ hbx hg4)
            | (go_simp; go_at_call 38; (with_reducible refine (hnv.out _ ?_).mono ?_); (first | assumption | exact Below.drew (Below.refl _ _) | exact Below.refl _ _); rintro e wx ⟨v, rfl, hbx, hmod, hof, cx1, fx1, cy1⟩; dsimp only))
          all_goals
            go_wp2
            have HST := Lib.hid (NbRel.step (F := id) _ hlt Hcl.out HP.out Hown.out Hpf.out Hmd.out Hco.out (by have := Hz0.out; omega) Hbq0.out hbx hmod Hht.out hof hown4 hg4 hm4)
            go_roundw
            case rel => exact HST.out
            case measure => simp [intOf]; omega
    · obtain rfl : j = flen := by omega
      have hbr1 : Below (w.heap.size + 1) W0 wo := hpf.toBelow (by have := Hz0.out; omega) (fun k e => by omega)
      have hR := (hbr1.block w.heap.size (by omega)).trans HP0.out
      have r0 := cell_of_row wo w.heap.size 0 _ _ _ hR
      have r1 := cell_of_row wo w.heap.size 1 _ _ _ hR
      have r2 := cell_of_row wo w.heap.size 2 _ _ _ hR
      have r3 := cell_of_row wo w.heap.size 3 _ _ _ hR
      have fz : ∀ i, wo.frozen? ⟨w.heap.size, i, none⟩ = false := fun i => by simp [World.frozen?, hR]
      have b0 := cell_of_row wo (w.heap.size + 1) 0 _ _ _ hP
      have b1 := cell_of_row wo (w.heap.size + 1) 1 _ _ _ hP
      have b2 := cell_of_row wo (w.heap.size + 1) 2 _ _ _ hP
      have b3 := cell_of_row wo (w.heap.size + 1) 3 _ _ _ hP
      simp at r0 r1 r2 r3 b0 b1 b2 b3
      have Hown := Lib.hid hown
      have Hpf := Lib.hid hpf
      have Hmd := Lib.hid hmd
      have Hco := Lib.hid hco
      have Hcl := Lib.hid hcl
      clear hP hown hpf hmd hco hcl hR hbr1 hzo
      go_wp2
      refine bodyPost_ret (v := .agg #[.int .i64 len, .slice CA j ccap, .bool true, .slice none 0 0]) (by simp [results, Tryz.results13, go_sem, *]) rfl ?_
      generalize hWf : World.setCell _ _ _ = Wf
      have hcl := Hcl.out
      subst hcl
      exact NbRel.fin hflen.out.symm hlen.out Hz0.out Hbw.out Hown.out Hpf.out Hmd.out Hco.out (by rw [← hWf]; exact (((((Below.refl _ _).setCell (by simp) _).setCell (by simp) _).setCell (by simp) _).setCell (by simp) _)) (fun q h1 h2 => by
        rw [← hWf]
        iterate 4 rw [Deep.blk_setCell_other _ _ _ _ (by have := Hz0.out; simp; omega)])
end Go.Proofs.YtkadahfknccjfaaGreatDoor
namespace Go.Proofs.YtkadahfknccjfaaGreatDoor
open Go.RowKit
set_option maxRecDepth 100000 in
set_option maxHeartbeats 8000000 in
theorem rnewBatch_any (TA RA : Option Addr) (tcap rcap flen len : Nat) (ts : List FT) (rows : List VT) (B : Nat) (w : World) (htr : FT.TRow B w TA tcap ts) (hr : VT.RRow B w RA rcap rows) (hB : B ≤ w.heap.size) (hflen : Hid (ts.length = flen)) (hlen : Hid (rows.length = len)) (h120 : flen ≤ 120) (h1024 : len ≤ 1024)
    (hw : ∀ r, r ∈ rows → r.l.length = flen) (hsm : ∀ r, r ∈ rows → ∀ x, x ∈ r.l → VT.Sml x) :
    Calls Tryz.prog 17 #[.slice TA flen tcap, .slice RA len rcap] w (BatPost (List.map nz) ts rows B w) := by
  obtain ⟨iv, hiv, ivz, ivs, ivb⟩ := info_parts infoValue
  obtain ⟨ic, hic, icz, ics, icb⟩ := info_parts infoVector
  obtain ⟨W0, hW0⟩ : ∃ W0, (w.alloc (.cells #[.int .i64 0, .slice none 0 0, .bool false, .slice none 0 0] 32)).alloc (.cells #[.int .i64 len, .slice none 0 0, .bool true, .slice none 0 0] 32) = W0 := ⟨_, rfl⟩
  have hbw : Below w.heap.size w W0 := by rw [← hW0]; exact bel2 _ _ _
  have hz0 : W0.heap.size = w.heap.size + 2 := by rw [← hW0]; simp
  have P0 : W0.heap[w.heap.size]? = some (.cells #[.int .i64 0, .slice none 0 0, .bool false, .slice none 0 0] 32 (0, 0)) := by rw [← hW0, Below.heap_alloc _ _ _ (by simp)]; exact heap_alloc_new w _
  have P1 : W0.heap[w.heap.size + 1]? = some (.cells #[.int .i64 len, .slice none 0 0, .bool true, .slice none 0 0] 32 (0, 0)) := by rw [← hW0]; exact blk_new _ _ _ (by simp)
  have HW0 := Lib.hid hW0
  have Hbw := Lib.hid hbw
  have Hz0 := Lib.hid hz0
  have HP0 := Lib.hid P0
  have HP1 := Lib.hid P1
  have Htr := Lib.hid htr
  have Hr := Lib.hid hr
  have Hw := Lib.hid hw
  have Hsm := Lib.hid hsm
  clear hW0 hbw hz0 P0 P1 htr hr hw hsm
  go_enter Tryz.func17, Tryz.ntmps17
  go_upto_region 2 with (fail)
  rw [HW0.out]
  go_wp2
  go_loopw [16] (fun i wr => NbRel (List.map nz) ts rows B w W0 (w.heap.size + 1) len flen i wr) (fun i _ => flen - (intOf i).toNat)
  case atStart => exact ⟨0, none, 0, [], Nat.zero_le _, rfl, rfl, HP1.out, World.ownsRow_nil _ _ _ _, PFr.refl _ _ _, fun v hv => (by cases hv), fun k v hv => by simp at hv⟩
  case round =>
    obtain ⟨wo, rfl⟩ : ∃ wo : World, wo = wr := ⟨_, rfl⟩
    obtain ⟨j, CA, ccap, cs, hj, rfl, hcl, hP, hown, hpf, hmd, hco⟩ := hrel
    have hzo := hpf.size
    have hbo : Below w.heap.size w wo := Hbw.out.trans (hpf.toBelow (by have := Hz0.out; omega) (fun k e => by omega))
    have hSo : Same B w wo := Same.mono (Same.of_below hbo) hB
    by_cases hlt : j < flen
    · obtain ⟨t, tad, ht, rfl, htb, f0, f1, f2⟩ := (Htr.out.keep hSo).get (show j < ts.length by rw [hflen.out]; exact hlt)
      have htin : FT.In B w t := Htr.out.2.2.1 t (mem_of_get? ht)
      obtain ⟨W1, hW1⟩ : ∃ W1, wo.alloc (.cells #[.int .i64 t.a.k, .int .i64 t.a.sc, .slice t.a.A t.l.length t.a.cap] 50) = W1 := ⟨_, rfl⟩
      have hb1 : Below wo.heap.size wo W1 := by rw [← hW1]; exact bel1 _ _
      have hw1 : wo.heap.size < W1.heap.size := by rw [← hW1]; simp
      have Q1 : W1.heap[wo.heap.size]? = some (.cells #[.int .i64 t.a.k, .int .i64 t.a.sc, .slice t.a.A t.l.length t.a.cap] 50 (0, 0)) := by rw [← hW1]; exact heap_alloc_new wo _
      have HW1 := Lib.hid hW1
      have HQ1 := Lib.hid Q1
      have Hhw1 := Lib.hid hw1
      have Hht := Lib.hid ht
      have HP := Lib.hid hP
      have Hown := Lib.hid hown
      have Hpf := Lib.hid hpf
      have Hmd := Lib.hid hmd
      have Hco := Lib.hid hco
      have Hcl := Lib.hid hcl
      have Hzo := Lib.hid hzo
      clear hW1 Q1 hw1 ht hP hown hpf hmd hco hcl hzo
      go_upto_region 5 with (fail)
      rw [HW1.out]
      go_wp2
      go_loopw [8, 23] (fun sv i wr => ClR (Col rows j) W1.heap.size W1 len sv i wr) (fun _ i _ => len - (intOf i).toNat)
      case atStart => exact ⟨0, Nat.zero_le _, rfl, World.ownsRow_nil _ _ _ _, Below.refl _ _⟩
      case round =>
        clear f0 f1 f2
        obtain ⟨q, hq, rfl, hown2, hbq⟩ := hrel
        have hbq0 : Below wo.heap.size wo wr := hb1.trans (hbq.mono hb1.size)
        have hSq : Same B w wr := hSo.trans (Same.mono (Same.of_below hbq0) (by have := hbo.size; omega))
        by_cases hqlt : q < len
        · obtain ⟨y, ad, hy, rfl, hyb, d0⟩ := (Hr.out.keep hSq).get (show q < rows.length by rw [hlen.out]; exact hqlt)
          have hyr := Hr.out.2.2.1 y (mem_of_get? hy)
          have hyl := Hw.out y (mem_of_get? hy)
          obtain ⟨x, yad, hx, hyA, hxb, e0, e1, e2, e3, e4⟩ := (hyr.1.keep hSq).get (show j < y.l.length by rw [hyl]; exact hlt)
          have hcx : (Col rows j)[q]? = some x := by rw [Col_get hy, getD_of hx]
          obtain ⟨⟨yk, yn, ysc, ys, yA, ycap⟩, yl⟩ := y
          simp only [VT.a_node, VT.l_node] at d0 hyA hyl
          rw [hyl] at d0
          subst hyA
          have Hcx := Lib.hid hcx
          have Hown2 := Lib.hid hown2
          have h3 : Hid (q + 1 ≤ maxLen) := by show _ ≤ _; unfold maxLen; omega
          have h4 : Hid ((q + 1) * 64 ≤ 140737488355328) := by show _ ≤ _; omega
          have hzq := hbq.size
          have h5 : Hid (∀ o, W1.heap.size ≤ (wr.alloc o).heap.size) := fun o => by simp; omega
          clear hcx hown2 hy hyr hx hyl
          go_wp2_with (at_builtin; refine wpList_append_own2 _ rfl _ _ 42 rfl W1.heap.size 61 iv _ 5 64 Tryz.underlying42 hiv ivz ivs ivb rfl (by decide) _ q (((Col rows j).take q).flatMap vCells) rfl (Hown2.out.alloc _) ⟨wr.heap.size, 0, none⟩ 1 1 (vCells x) rfl (by decide) rfl (fun q u' h => new_cells _ _ _ q u' h) (vCells_one x) h3.out h4.out (h5.out _) ?_; intro sv' w3 hown3 hg3 hm3)
          have Hst := Lib.hid (ClR.step rfl Hcx.out hqlt Hown2.out hbq (Below.refl _ _) _ hown3 hg3)
          clear hown3 hg3 hm3
          go_wp2
          go_roundw
          case rel => exact Hst.out
          case measure => simp [intOf]; omega
        · obtain rfl : q = len := by omega
          have hCl : (Col rows j).length = q := by rw [Col_len]; exact hlen.out
          rw [List.take_of_length_le (by rw [hCl]; exact Nat.le_refl _)] at hown2
          obtain ⟨A', cap', rfl, ha, hb', hc', hat⟩ := own_values hown2 hCl
          have hrow : VT.Row wr.heap.size wr A' cap' (Col rows j) := ⟨by rw [hCl]; exact ha, hb', fun i x hx => by
            obtain ⟨ad, e1, _, _, _, e2, e3, e4⟩ := hat i x hx
            exact ⟨ad, e1, e3, e4⟩⟩
          have hcin : ∀ x, x ∈ Col rows j → VT.In B w x ∧ VT.Sml x := fun x hx => by
            obtain ⟨y, hy, rfl⟩ := List.mem_map.1 hx
            have hyl := Hw.out y hy
            have hlt' : j < y.l.length := by rw [hyl]; exact hlt
            have hm : y.l.getD j zeroV ∈ y.l := by rw [getD_of (List.getElem?_eq_getElem hlt')]; exact List.getElem_mem hlt'
            exact ⟨(Hr.out.2.2.1 y hy).2 _ hm, Hsm.out y hy _ hm⟩
          have hP' := (hbq0.block (w.heap.size + 1) (by have := Hzo.out; have := Hz0.out; omega)).trans HP.out
          have hQ' := (hbq.block wo.heap.size Hhw1.out).trans HQ1.out
          have hkS : Hid (∀ W, Below wr.heap.size wr W → W.cell? ⟨w.heap.size + 1, 1, none⟩ = some (.slice CA j ccap) ∧ W.frozen? ⟨w.heap.size + 1, 1, none⟩ = false ∧ W.cell? ⟨wo.heap.size, 0, none⟩ = some (.int .i64 t.a.k) ∧ W.cell? ⟨wo.heap.size, 1, none⟩ = some (.int .i64 t.a.sc) ∧ W.cell? ⟨wo.heap.size, 2, none⟩ = some (.slice t.a.A t.l.length t.a.cap)) := fun W h => by
            have E1 := (h.block (w.heap.size + 1) (by have := hbq0.size; have := Hzo.out; have := Hz0.out; omega)).trans hP'
            have E2 := (h.block wo.heap.size (by have := hbq.size; have := Hhw1.out; omega)).trans hQ'
            exact ⟨cell_of_row W _ 1 _ _ _ E1, by simp [World.frozen?, E1], cell_of_row W _ 0 _ _ _ E2, cell_of_row W _ 1 _ _ _ E2, cell_of_row W _ 2 _ _ _ E2⟩
          have hkA : Hid (∀ wx o, Below wr.heap.size wr wx → (wx.alloc o).cell? ⟨w.heap.size + 1, 1, none⟩ = some (.slice CA j ccap)) := fun wx o h => (hkS.out _ (h.alloc h.size o)).1
          have Hst : Hid (∀ wx o W, Below wr.heap.size wr wx → (wx.alloc o).grownBy W (Value.slice CA j ccap).ownBlock → W.cell? ⟨w.heap.size + 1, 1, none⟩ = some (.slice CA j ccap) ∧ W.frozen? ⟨w.heap.size + 1, 1, none⟩ = false ∧ W.cell? ⟨wo.heap.size, 0, none⟩ = some (.int .i64 t.a.k) ∧ W.cell? ⟨wo.heap.size, 1, none⟩ = some (.int .i64 t.a.sc) ∧ W.cell? ⟨wo.heap.size, 2, none⟩ = some (.slice t.a.A t.l.length t.a.cap)) := fun wx o W h hg => by
            have z1 := h.size
            have z2 := hbq0.size
            have z3 := Hzo.out
            have z4 := Hz0.out
            have z5 := Hhw1.out
            have z6 := hbq.size
            have hol := Hown.out.lt
            have E1 := (hg.block (w.heap.size + 1) (by simp; omega) (fun e => by have := (hol _ e.symm).1; omega)).trans ((Below.heap_alloc wx o _ (by omega)).trans ((h.block (w.heap.size + 1) (by omega)).trans hP'))
            have E2 := (hg.block wo.heap.size (by simp; omega) (fun e => by have := (hol _ e.symm).2; omega)).trans ((Below.heap_alloc wx o _ (by omega)).trans ((h.block wo.heap.size (by omega)).trans hQ'))
            exact ⟨cell_of_row W _ 1 _ _ _ E1, by simp [World.frozen?, E1], cell_of_row W _ 0 _ _ _ E2, cell_of_row W _ 1 _ _ _ E2, cell_of_row W _ 2 _ _ _ E2⟩
          have hnv : Hid (∀ W, Below wr.heap.size wr W → Calls Tryz.prog 41 #[.agg #[.int .i64 t.a.k, .int .i64 t.a.sc, .slice t.a.A t.l.length t.a.cap], .slice A' q cap'] W fun e w' => ∃ v : VecT, e = .returned (.agg #[.int .i64 v.t.a.k, .int .i64 v.t.a.sc, .slice v.t.a.A v.t.l.length v.t.a.cap, .slice v.NA v.ns.length v.ncap, .slice v.IA v.is.length v.icap, .slice v.SA v.ss.length v.scap, .slice v.VA v.vs.length v.vcap]) ∧ Below wr.heap.size wr w' ∧ (∀ w'', Keeps wr.heap.size w' w'' → Same B w w'' → VecT.In w''.heap.size w'' v) ∧ VecOf t ((List.map nz) (Col rows j)) v ∧ w'.cell? ⟨w.heap.size + 1, 1, none⟩ = some (.slice CA j ccap) ∧ w'.frozen? ⟨w.heap.size + 1, 1, none⟩ = false ∧ ∀ o, (w'.alloc o).cell? ⟨w.heap.size + 1, 1, none⟩ = some (.slice CA j ccap)) := fun W h => by
            have z1 := h.size
            have z2 := hbq0.size
            have z3 := hbo.size
            have hSW : Same B w W := hSq.trans (Same.mono (Same.of_below h) (by omega))
            exact (rvector_any2 t A' q cap' W (Col rows j) W.heap.size B (htin.keep hSW) ((hrow.keep (Same.of_below h)).more z1) (Nat.le_refl _) (by omega) hCl h1024 (fun x hx => (hcin x hx).1.keep hSW)).mono fun e w' ⟨v, he, hb, hin, hof⟩ => ⟨v, he, h.trans (hb.mono z1), fun w'' hk hS => hin w'' (hk.mono z1) (fun k hk => (hS k hk).trans (hSW k hk).symm), hof, (hkS.out w' (h.trans (hb.mono z1))).1, (hkS.out w' (h.trans (hb.mono z1))).2.1, fun o => hkA.out w' o (h.trans (hb.mono z1))⟩
          have hownX : Hid (∀ wx, Below wr.heap.size wr wx → wx.ownsRow W0.heap.size 54 7 (.slice CA j ccap) j (cs.flatMap VecT.c)) := fun wx h => own_below (own_below Hown.out hbq0) h
          have h3 : Hid (j + 1 ≤ maxLen) := by show _ ≤ _; unfold maxLen; omega
          have h4 : Hid ((j + 1) * 136 ≤ 140737488355328) := by show _ ≤ _; omega
          have h5 : Hid (∀ wx o, Below wr.heap.size wr wx → W0.heap.size ≤ (wx.alloc o).heap.size) := fun wx o h => by have := h.size; have := hbq0.size; have := Hzo.out; simp; omega
          obtain ⟨c1, g1, t0, t1, t2⟩ := hkS.out wr (Below.refl _ _)
          have Hbq0 := Lib.hid hbq0
          clear hown2 hat hrow hcin hP' hQ' hc' hbq0 hbq hSq
          go_wp2_with fail
          go_region_law (first
            | (refine step_append_own (by rfl) _ _ _ (by rfl) W0.heap.size 54 ic _ 7 136 Tryz.underlying29 hic icz ics icb rfl (by decide) (.slice CA j ccap) j (cs.flatMap VecT.c) (by rfl) ((hownX.out _ hbx).alloc _) ⟨wx.heap.size, 0, none⟩ 1 1 (VecT.c v) (by rfl) (by decide) (by rfl) (fun q u' h => new_cells _ _ _ q u' h) (VecT.c_one v) h3.out h4.out (h5.out _ _ hbx) ?_; intro gg cap4 w4 hown4 hg4 hm4; obtain ⟨cg1, fg1, _⟩ := Hst.out _ _ _ hbx hg4)
            | (go_simp; go_at_call 41; (with_reducible refine (hnv.out _ ?_).mono ?_); (first | assumption | exact Below.drew (Below.refl _ _) | exact Below.refl _ _); rintro e wx ⟨v, rfl, hbx, hmod, hof, cx1, fx1, cy1⟩; dsimp only))
          all_goals
            go_wp2
            have HST := Lib.hid (NbRel.step (F := (List.map nz)) _ hlt Hcl.out HP.out Hown.out Hpf.out Hmd.out Hco.out (by have := Hz0.out; omega) Hbq0.out hbx hmod Hht.out hof hown4 hg4 hm4)
            go_roundw
            case rel => exact HST.out
            case measure => simp [intOf]; omega
    · obtain rfl : j = flen := by omega
      have hbr1 : Below (w.heap.size + 1) W0 wo := hpf.toBelow (by have := Hz0.out; omega) (fun k e => by omega)
      have hR := (hbr1.block w.heap.size (by omega)).trans HP0.out
      have r0 := cell_of_row wo w.heap.size 0 _ _ _ hR
      have r1 := cell_of_row wo w.heap.size 1 _ _ _ hR
      have r2 := cell_of_row wo w.heap.size 2 _ _ _ hR
      have r3 := cell_of_row wo w.heap.size 3 _ _ _ hR
      have fz : ∀ i, wo.frozen? ⟨w.heap.size, i, none⟩ = false := fun i => by simp [World.frozen?, hR]
      have b0 := cell_of_row wo (w.heap.size + 1) 0 _ _ _ hP
      have b1 := cell_of_row wo (w.heap.size + 1) 1 _ _ _ hP
      have b2 := cell_of_row wo (w.heap.size + 1) 2 _ _ _ hP
      have b3 := cell_of_row wo (w.heap.size + 1) 3 _ _ _ hP
      simp at r0 r1 r2 r3 b0 b1 b2 b3
      have Hown := Lib.hid hown
      have Hpf := Lib.hid hpf
      have Hmd := Lib.hid hmd
      have Hco := Lib.hid hco
      have Hcl := Lib.hid hcl
      clear hP hown hpf hmd hco hcl hR hbr1 hzo
      go_wp2
      refine bodyPost_ret (v := .agg #[.int .i64 len, .slice CA j ccap, .bool true, .slice none 0 0]) (by simp [results, Tryz.results17, go_sem, *]) rfl ?_
      generalize hWf : World.setCell _ _ _ = Wf
      have hcl := Hcl.out
      subst hcl
      exact NbRel.fin hflen.out.symm hlen.out Hz0.out Hbw.out Hown.out Hpf.out Hmd.out Hco.out (by rw [← hWf]; exact (((((Below.refl _ _).setCell (by simp) _).setCell (by simp) _).setCell (by simp) _).setCell (by simp) _)) (fun q h1 h2 => by
        rw [← hWf]
        iterate 4 rw [Deep.blk_setCell_other _ _ _ _ (by have := Hz0.out; simp; omega)])
end Go.Proofs.YtkadahfknccjfaaGreatDoor
