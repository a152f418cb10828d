/-
  Package engine: NewVector.
-/
import Derived.Test.YtcpbbagppkcilaaDoorQStill
import Derived.Test.YtcpbbagppkcilaaDoorQNewF0
import Derived.Test.YtcpbbagppkcilaaDoorQVecN
import Derived.Deep.RegionLaw
import Derived.Deep.DeepCutAuto
namespace Go.Proofs.YtcpbbagppkcilaaDoor
open Go.RowKit
set_option maxRecDepth 100000 in
set_option maxHeartbeats 4000000 in
theorem eNewVector_any (t : FT) (A2 : Option Addr) (cap2 : Nat) (l : List VT) (B : Nat) (w : World) (ht : FT.In B w t) (hl : VT.Rows B w A2 cap2 l) (hT : Tabs B w) (hB : B ≤ w.heap.size) :
    Calls Tryd.prog 5 #[.agg #[.int .i64 t.a.k, .int .i64 t.a.sc, .slice t.a.A t.l.length t.a.cap], .slice A2 l.length cap2] w (NvecPost t l w) := by
  obtain ⟨R, hR⟩ : ∃ R, newS t l = R := ⟨_, rfl⟩
  have hR0 := hR
  unfold newS at hR
  obtain ⟨size, hsz⟩ : ∃ n, l.length = n := ⟨_, rfl⟩
  have hszm : size ≤ 9223372036854775807 := by rw [← hsz]; exact Nat.le_trans hl.1.1 hl.1.2.1
  rw [hsz] at hR ⊢
  obtain ⟨W0, hW0⟩ : ∃ W0, (w.alloc (.cells #[.int .i64 t.a.k, .int .i64 t.a.sc, .slice t.a.A t.l.length t.a.cap] 24)).alloc (.cells #[.int .i64 0, .int .i64 0, .slice none 0 0, .slice none 0 0, .slice none 0 0, .slice none 0 0, .slice none 0 0] 30) = W0 := ⟨_, rfl⟩
  have hbw : Below w.heap.size w W0 := by rw [← hW0]; exact bel2 _ _ _
  have hz0 : W0.heap.size = w.heap.size + 2 := by rw [← hW0]; simp
  have P0 : W0.heap[w.heap.size]? = some (.cells #[.int .i64 t.a.k, .int .i64 t.a.sc, .slice t.a.A t.l.length t.a.cap] 24 (0, 0)) := by rw [← hW0, Below.heap_alloc _ _ _ (by simp)]; exact heap_alloc_new w _
  have P1 : W0.heap[w.heap.size + 1]? = some (.cells #[.int .i64 0, .int .i64 0, .slice none 0 0, .slice none 0 0, .slice none 0 0, .slice none 0 0, .slice none 0 0] 30 (0, 0)) := by rw [← hW0]; exact blk_new _ _ _ (by simp)
  have hk : Hid (∀ W, Below W0.heap.size W0 W → Below W0.heap.size W0 W ∧ W.cell? ⟨w.heap.size, 0, none⟩ = some (.int .i64 t.a.k) ∧ W.cell? ⟨w.heap.size, 1, none⟩ = some (.int .i64 t.a.sc) ∧ W.cell? ⟨w.heap.size, 2, none⟩ = some (.slice t.a.A t.l.length t.a.cap)) := fun W h => by
    have Q0 := (h.block w.heap.size (by omega)).trans P0
    exact ⟨h, cell_of_row W w.heap.size 0 _ _ _ Q0, cell_of_row W w.heap.size 1 _ _ _ Q0, cell_of_row W w.heap.size 2 _ _ _ Q0⟩
  have hq : Hid (∀ W, Below W0.heap.size W0 W → W.cell? ⟨w.heap.size + 1, 0, none⟩ = some (.int .i64 0) ∧ W.cell? ⟨w.heap.size + 1, 1, none⟩ = some (.int .i64 0) ∧ W.cell? ⟨w.heap.size + 1, 2, none⟩ = some (.slice none 0 0) ∧ W.cell? ⟨w.heap.size + 1, 3, none⟩ = some (.slice none 0 0) ∧ W.cell? ⟨w.heap.size + 1, 4, none⟩ = some (.slice none 0 0) ∧ W.cell? ⟨w.heap.size + 1, 5, none⟩ = some (.slice none 0 0) ∧ W.cell? ⟨w.heap.size + 1, 6, none⟩ = some (.slice none 0 0) ∧ ∀ i, W.frozen? ⟨w.heap.size + 1, i, none⟩ = false) := fun W h => by
    have Q0 := (h.block (w.heap.size + 1) (by omega)).trans P1
    exact ⟨cell_of_row W (w.heap.size + 1) 0 _ _ _ Q0, cell_of_row W (w.heap.size + 1) 1 _ _ _ Q0, cell_of_row W (w.heap.size + 1) 2 _ _ _ Q0, cell_of_row W (w.heap.size + 1) 3 _ _ _ Q0, cell_of_row W (w.heap.size + 1) 4 _ _ _ Q0, cell_of_row W (w.heap.size + 1) 5 _ _ _ Q0, cell_of_row W (w.heap.size + 1) 6 _ _ _ Q0, fun i => by simp [World.frozen?, Q0]⟩
  have hS0 : ∀ W, Below W0.heap.size W0 W → Same B w W ∧ B ≤ W.heap.size := fun W h => by
    have hb := hbw.trans (h.mono (by omega))
    exact ⟨Same.mono (Same.of_below hb) hB, Nat.le_trans hB hb.size⟩
  have hpt := Lib.hid (eplainType_any t B W0 (ht.keep (hS0 W0 (Below.refl _ _)).1) (hS0 W0 (Below.refl _ _)).2)
  have HS0 := Lib.hid hS0
  have HW0 := Lib.hid hW0
  have Hz0 := Lib.hid hz0
  have Ht := Lib.hid ht
  have Hl := Lib.hid hl
  have HT := Lib.hid hT
  have HR0 := Lib.hid hR0
  have Hsz := Lib.hid hsz
  clear hW0 hz0 P0 P1 hS0 ht hl hT hR0 hsz
  by_cases hp : plainS t = 0
  rotate_left
  · rw [if_pos hp] at hR
    have n0 : (plainS t != 0) = true := by simpa using hp
    have HR := Lib.hid hR
    have Hp := Lib.hid hp
    clear hp hR
    go_enter Tryd.func5, Tryd.ntmps5
    go_wp2_with fail
    rw [HW0.out]
    refine hpt.out.mono ?_
    rintro e w1 ⟨rfl, hb1⟩
    obtain ⟨q0, q1, q2, q3, q4, q5, q6, fz⟩ := hq.out w1 hb1
    go_wp2
    refine bodyPost_ret (v := .tuple #[.agg #[.int .i64 0, .int .i64 0, .slice none 0 0, .slice none 0 0, .slice none 0 0, .slice none 0 0, .slice none 0 0], .int .i64 (plainS t)]) (by simp [results, Tryd.results5, go_sem, *]) rfl ?_
    refine nvec_none (HR0.out.trans HR.out.symm) Hp.out ?_
    exact ((((((((hbw.trans (hb1.mono (by have := Hz0.out; omega))).setCell (by simp) _).setCell (by simp) _).setCell (by simp) _).setCell (by simp) _).setCell (by simp) _).setCell (by simp) _).setCell (by simp) _)
  rw [hp, if_neg (by simp)] at hR
  have Hp := Lib.hid hp
  clear hp
  by_cases hn1 : 1024 < size
  · have HR := Lib.hid (show R = 7 by rw [← hR, if_pos hn1])
    clear hR
    go_enter Tryd.func5, Tryd.ntmps5
    go_wp2_with fail
    rw [HW0.out]
    refine hpt.out.mono ?_
    rintro e w1 ⟨rfl, hb1⟩
    rw [Hp.out]
    obtain ⟨q0, q1, q2, q3, q4, q5, q6, fz⟩ := hq.out w1 hb1
    go_wp2
    refine bodyPost_ret (v := .tuple #[.agg #[.int .i64 0, .int .i64 0, .slice none 0 0, .slice none 0 0, .slice none 0 0, .slice none 0 0, .slice none 0 0], .int .i64 (7)]) (by simp [results, Tryd.results5, go_sem, *]) rfl ?_
    refine nvec_none (HR0.out.trans HR.out) (by decide) ?_
    exact ((((((((hbw.trans (hb1.mono (by have := Hz0.out; omega))).setCell (by simp) _).setCell (by simp) _).setCell (by simp) _).setCell (by simp) _).setCell (by simp) _).setCell (by simp) _).setCell (by simp) _)
  rw [if_neg hn1] at hR
  have HR := Lib.hid hR
  clear hR
  go_enter Tryd.func5, Tryd.ntmps5
  go_wp2_with fail
  rw [HW0.out]
  refine hpt.out.mono ?_
  rintro e w1 ⟨rfl, hb1⟩
  rw [Hp.out]
  obtain ⟨_, p0, p1, p2⟩ := hk.out w1 hb1
  go_wp2
  go_loopw [23] (fun i wr => ∃ j : Nat, j ≤ size ∧ i = .int .i64 j ∧ Below W0.heap.size W0 wr ∧ Hid (ckL t (l.drop j) = R)) (fun i _ => size - (intOf i).toNat)
  case atStart => exact ⟨0, Nat.zero_le _, rfl, hb1, by rw [List.drop_zero]; exact HR⟩
  case round =>
    obtain ⟨j, hj, rfl, hbr, HRj⟩ := hrel
    clear p0 p1 p2
    obtain ⟨_, p0, p1, p2⟩ := hk.out wr hbr
    by_cases hlt : j < size
    · obtain ⟨x, ad, hx, rfl, hbx, d0, d1, d2, d3, d4⟩ := (Hl.out.1.keep (HS0.out wr hbr).1).get (show j < l.length by rw [Hsz.out]; exact hlt)
      have HR2 := HRj.out
      rw [drop_of_get? hx, ckL] at HR2
      obtain ⟨o1, ho1⟩ : ∃ o1, Obj.cells #[.int .i64 x.a.k, .int .i64 x.a.n, .int .i64 x.a.sc, .string x.a.s, .slice x.a.A x.l.length x.a.cap] 50 = o1 := ⟨_, rfl⟩
      obtain ⟨W3, hW3⟩ : ∃ W3, wr.alloc o1 = W3 := ⟨_, rfl⟩
      have hb3 : Below W0.heap.size W0 W3 := by rw [← hW3]; exact hbr.alloc hbr.size _
      have hch := Lib.hid (vCheck_any t x B W3 (Ht.out.keep (HS0.out W3 hb3).1) ((Hl.out.2 x (mem_of_get? hx)).keep (HS0.out W3 hb3).1) (HT.out.keep (HS0.out W3 hb3).1) (HS0.out W3 hb3).2)
      have HW3 := Lib.hid hW3
      have Ho1 := Lib.hid ho1
      have p0' := fun o => cell_old p0 o
      have p1' := fun o => cell_old p1 o
      have p2' := fun o => cell_old p2 o
      clear hW3 ho1 HRj hx
      by_cases h0 : checkS t x = 0
      · have H0 := Lib.hid h0
        have HR3 := Lib.hid (show ckL t (l.drop (j + 1)) = R by rw [← HR2, if_neg (by simp [h0])])
        clear h0 HR2
        go_wp2_with fail
        rw [Ho1.out, HW3.out]
        refine hch.out.mono ?_
        rintro e w6 ⟨rfl, hb6⟩
        rw [H0.out]
        go_wp2
        go_roundw
        case rel => exact ⟨j + 1, by omega, by go_num, hb3.trans (hb6.mono hb3.size), HR3⟩
        case measure => simp [intOf]; omega
      · have n0 : (checkS t x != 0) = true := by simpa using h0
        have HR3 := Lib.hid (show checkS t x = R by rw [← HR2, if_pos h0])
        have H0 := Lib.hid h0
        clear h0 HR2
        go_wp2_with fail
        rw [Ho1.out, HW3.out]
        refine hch.out.mono ?_
        rintro e w6 ⟨rfl, hb6⟩
        have hb7 := hb3.trans (hb6.mono hb3.size)
        obtain ⟨q0, q1, q2, q3, q4, q5, q6, fz⟩ := hq.out w6 hb7
        clear d0 d1 d2 d3 d4 p0 p1 p2 p0' p1' p2'
        go_wp2
        refine bodyPost_ret (v := .tuple #[.agg #[.int .i64 0, .int .i64 0, .slice none 0 0, .slice none 0 0, .slice none 0 0, .slice none 0 0, .slice none 0 0], .int .i64 (checkS t x)]) (by simp [results, Tryd.results5, go_sem, *]) rfl ?_
        refine nvec_none (HR0.out.trans HR3.out.symm) H0.out ?_
        exact ((((((((hbw.trans (hb7.mono (by have := Hz0.out; omega))).setCell (by simp) _).setCell (by simp) _).setCell (by simp) _).setCell (by simp) _).setCell (by simp) _).setCell (by simp) _).setCell (by simp) _)
    · have HR3 : Hid (R = 0) := by
        show R = 0
        have := HRj.out
        rw [List.drop_of_length_le (by rw [Hsz.out]; omega)] at this
        exact this.symm
      have hckL : ckL t l = 0 := HR.out.trans HR3.out
      have hcp := Lib.hid (ecopyType_any t B wr (Ht.out.keep (HS0.out wr hbr).1) (HS0.out wr hbr).2 (plain_sml Hp.out))
      have HckL := Lib.hid hckL
      clear hckL HRj
      go_wp2_with fail
      refine hcp.out.mono ?_
      rintro e w2 ⟨u, rfl, hb2, huin, hsm, _⟩
      have hb2' : Below W0.heap.size W0 w2 := hbr.trans (hb2.mono hbr.size)
      have hnv := Lib.hid (enewVector_any u A2 size cap2 w2 l B (Hl.out.1.keep (HS0.out w2 hb2').1) (HS0.out w2 hb2').2 Hsz.out (by omega) (fun x hx => ⟨(Hl.out.2 x hx).keep (HS0.out w2 hb2').1, check_sml (ckL_ok HckL.out x hx)⟩))
      have Huin := Lib.hid huin
      have Hsm := Lib.hid hsm
      clear p0 p1 p2 huin hsm
      go_wp2_with fail
      refine hnv.out.mono ?_
      rintro e w3 ⟨v, rfl, hb3, rfl, hvin, hvof, hvnil⟩
      have hb3' : Below W0.heap.size W0 w3 := hb2'.trans (hb3.mono hb2'.size)
      obtain ⟨W4, hW4⟩ : ∃ W4, w3.alloc (.cells #[.int .i64 v.t.a.k, .int .i64 v.t.a.sc, .slice v.t.a.A v.t.l.length v.t.a.cap, .slice v.NA v.ns.length v.ncap, .slice v.IA v.is.length v.icap, .slice v.SA v.ss.length v.scap, .slice v.VA v.vs.length v.vcap] 30) = W4 := ⟨_, rfl⟩
      have hb4 : Below w3.heap.size w3 W4 := by rw [← hW4]; exact bel1 _ _
      have hz4 : W4.heap.size = w3.heap.size + 1 := by rw [← hW4]; simp
      have Q4 : W4.heap[w3.heap.size]? = some (.cells #[.int .i64 v.t.a.k, .int .i64 v.t.a.sc, .slice v.t.a.A v.t.l.length v.t.a.cap, .slice v.NA v.ns.length v.ncap, .slice v.IA v.is.length v.icap, .slice v.SA v.ss.length v.scap, .slice v.VA v.vs.length v.vcap] 30 (0, 0)) := by rw [← hW4]; exact heap_alloc_new w3 _
      have c0 := cell_of_row W4 w3.heap.size 0 _ _ _ Q4
      have c1 := cell_of_row W4 w3.heap.size 1 _ _ _ Q4
      have c2 := cell_of_row W4 w3.heap.size 2 _ _ _ Q4
      have c3 := cell_of_row W4 w3.heap.size 3 _ _ _ Q4
      have c4 := cell_of_row W4 w3.heap.size 4 _ _ _ Q4
      have c5 := cell_of_row W4 w3.heap.size 5 _ _ _ Q4
      have c6 := cell_of_row W4 w3.heap.size 6 _ _ _ Q4
      have f4 : ∀ i, W4.frozen? ⟨w3.heap.size, i, none⟩ = false := fun i => by simp [World.frozen?, Q4]
      simp at c0 c1 c2 c3 c4 c5 c6
      have hu3 : FT.In w3.heap.size w3 v.t := (Huin.out.keep (S' := fun q => q < w3.heap.size) (fun q hq => hb3.block q hq.2) (fun q hq => by have := hq.2; have := hb3.size; omega)).toIn fun q hq => hq
      have hvin0 := hvin w3 (Keeps.refl _ _) hu3
      have cI := fun W => clipI_any v.IA v.is.length v.icap W hvin0.is.1 hvin0.is.2.1 hvnil.i
      have cS := fun W => clipS_any v.SA v.ss.length v.scap W hvin0.ss.1 hvin0.ss.2.1 hvnil.s
      have cV : ∀ W, Calls Tryd.prog 22 #[.slice v.VA v.vs.length v.vcap] W (fun e w' => e = .returned (.slice v.VA v.vs.length v.vs.length) ∧ w' = W) := fun W => (clipV_any v.VA v.vs.length v.vcap W hvin0.vs.1.1 hvin0.vs.1.2.1 hvnil.v).mono (fun e w' h => ⟨h.1, h.2.symm⟩)
      have HW4 := Lib.hid hW4
      have Hvin := Lib.hid hvin
      have Hvof := Lib.hid hvof
      have HcI := Lib.hid cI
      have HcS := Lib.hid cS
      have HcV := Lib.hid cV
      have HQ4 := Lib.hid Q4
      have Hvin0 := Lib.hid hvin0
      clear hW4 hvin hvof hvnil cI cS cV Q4 hvin0 hu3
      go_upto_region 14 with (fail)
      rw [HW4.out]
      go_cut [] (fun wx => wx = (((W4.setCell ⟨w3.heap.size, 4, none⟩ (.slice v.IA v.is.length v.is.length)).setCell ⟨w3.heap.size, 5, none⟩ (.slice v.SA v.ss.length v.ss.length)).setCell ⟨w3.heap.size, 6, none⟩ (.slice v.VA v.vs.length v.vs.length)).drew)
      case first =>
        go_region_law (first
          | (go_simp; go_at_call 20; refine (HcI.out _).mono ?_; rintro e wx ⟨rfl, rfl⟩; dsimp only)
          | (go_simp; go_at_call 21; refine (HcS.out _).mono ?_; rintro e wx ⟨rfl, rfl⟩; dsimp only)
          | (go_simp; go_at_call 22; refine (HcV.out _).mono ?_; rintro e wx ⟨rfl, rfl⟩; dsimp only))
        all_goals (go_wp2_with fail; go_meet; exact rfl)
      case rest =>
        obtain ⟨W5, hW5⟩ : ∃ W5, (((W4.setCell ⟨w3.heap.size, 4, none⟩ (.slice v.IA v.is.length v.is.length)).setCell ⟨w3.heap.size, 5, none⟩ (.slice v.SA v.ss.length v.ss.length)).setCell ⟨w3.heap.size, 6, none⟩ (.slice v.VA v.vs.length v.vs.length)).drew = W5 := ⟨_, rfl⟩
        rw [hW5] at hcut
        subst hcut
        have hz3 := hb3'.size
        have hz0 := Hz0.out
        have hz2 := hb2'.size
        have hzr := hbr.size
        have hz32 := hb3.size
        have x7 := setCell_row _ w3.heap.size 6 (.slice v.VA v.vs.length v.vs.length) _ _ _ (setCell_row _ w3.heap.size 5 (.slice v.SA v.ss.length v.ss.length) _ _ _ (setCell_row _ w3.heap.size 4 (.slice v.IA v.is.length v.is.length) _ _ _ HQ4.out))
        have Q5 : wc.heap[w3.heap.size]? = some (.cells #[.int .i64 v.t.a.k, .int .i64 v.t.a.sc, .slice v.t.a.A v.t.l.length v.t.a.cap, .slice v.NA v.ns.length v.ncap, .slice v.IA v.is.length v.is.length, .slice v.SA v.ss.length v.ss.length, .slice v.VA v.vs.length v.vs.length] 30 (0, 0)) := by
          rw [← hW5]
          show (World.setCell _ _ _).heap[w3.heap.size]? = _
          rw [x7]
          simp
        have hb5 : Below W0.heap.size W0 wc := by
          rw [← hW5]
          exact ((((hb3'.trans (hb4.mono hb3'.size)).setCell (by simp; omega) _).setCell (by simp; omega) _).setCell (by simp; omega) _).drew
        have ho5 : ∀ q, q < w3.heap.size → wc.heap[q]? = w3.heap[q]? := fun q hq => by
          rw [← hW5]
          show (World.setCell _ _ _).heap[q]? = _
          iterate 3 rw [Deep.blk_setCell_other _ _ _ _ (by simp; omega)]
          exact hb4.block q hq
        clear c0 c1 c2 c3 c4 c5 c6 f4 x7 hW5 HQ4 HW4
        have c0 := cell_of_row wc w3.heap.size 0 _ _ _ Q5
        have c1 := cell_of_row wc w3.heap.size 1 _ _ _ Q5
        have c2 := cell_of_row wc w3.heap.size 2 _ _ _ Q5
        have c3 := cell_of_row wc w3.heap.size 3 _ _ _ Q5
        have c4 := cell_of_row wc w3.heap.size 4 _ _ _ Q5
        have c5 := cell_of_row wc w3.heap.size 5 _ _ _ Q5
        have c6 := cell_of_row wc w3.heap.size 6 _ _ _ Q5
        obtain ⟨q0, q1, q2, q3, q4, q5, q6, fz⟩ := hq.out wc hb5
        simp at c0 c1 c2 c3 c4 c5 c6
        have Ho5 := Lib.hid ho5
        have hz5 : w3.heap.size < wc.heap.size := (Array.getElem?_eq_some_iff.1 Q5).1
        clear Q5 ho5 hz3 hz0 hz2 hzr hz32
        go_wp2
        refine bodyPost_ret (v := .tuple #[.agg #[.int .i64 v.t.a.k, .int .i64 v.t.a.sc, .slice v.t.a.A v.t.l.length v.t.a.cap, .slice v.NA v.ns.length v.ncap, .slice v.IA v.is.length v.is.length, .slice v.SA v.ss.length v.ss.length, .slice v.VA v.vs.length v.vs.length], .int .i64 0]) (by simp [results, Tryd.results5, go_sem, *]) rfl ?_
        generalize hWf : World.setCell _ _ _ = Wf
        have hz3 := hb3'.size
        have hz0 := Hz0.out
        have hz2 := hb2'.size
        have hzr := hbr.size
        have hz32 := hb3.size
        have hof : ∀ q, w.heap.size + 2 ≤ q → q < w3.heap.size → Wf.heap[q]? = w3.heap[q]? := fun q h1 h2 => by
          rw [← hWf]
          iterate 7 rw [Deep.blk_setCell_other _ _ _ _ (by simp; omega)]
          exact Ho5.out q h2
        have hbf : Below w.heap.size w Wf := by
          rw [← hWf]
          exact ((((((((hbw.trans (hb5.mono (by omega))).setCell (by simp) _).setCell (by simp) _).setCell (by simp) _).setCell (by simp) _).setCell (by simp) _).setCell (by simp) _).setCell (by simp) _)
        have hzf : w3.heap.size ≤ Wf.heap.size := by
          rw [← hWf]
          simp [World.setCell]
          omega
        have huf : FT.In Wf.heap.size Wf v.t := (Huin.out.keep (S' := fun q => q < Wf.heap.size) (fun q hq => (hof q (by have := hq.1; omega) (by have := hq.2; omega)).trans (hb3.block q hq.2)) (fun q hq => by have := hq.2; omega)).toIn fun q hq => hq
        exact ⟨{ v with icap := v.is.length, scap := v.ss.length, vcap := v.vs.length }, by rw [HR0.out, HR3.out], hbf, (Hvin.out Wf ⟨fun q h1 h2 => hof q (by omega) h2, hzf⟩ huf).clip, fun _ => Hvof.out.clip Hsm.out, fun h => absurd (HR0.out.trans HR3.out) h⟩
end Go.Proofs.YtcpbbagppkcilaaDoor
