/-
  Reference of package engine: NewVector.
-/
import Derived.Test.YtcpbbagppkcilaaDoorQNewF0
import Derived.Test.YtcpbbagppkcilaaDoorQVecN
import Derived.Test.YtcpbbagppkcilaaDoorQRvE
namespace Go.Proofs.YtcpbbagppkcilaaDoor
open Go.RowKit
/-- What NewVector of the reference comes to. -/
def RnPost (t : FT) (l : List VT) (w : World) (e : Ending) (w' : World) : Prop :=
  ∃ v : VecT, e = .returned (.tuple #[.agg #[.int .i64 v.t.a.k, .int .i64 v.t.a.sc, .slice v.t.a.A v.t.l.length v.t.a.cap, .slice v.NA v.ns.length v.ncap, .slice v.IA v.is.length v.icap, .slice v.SA v.ss.length v.scap, .slice v.VA v.vs.length v.vcap], .int .i64 (newS t l)]) ∧ Below w.heap.size w w' ∧ VecT.In w'.heap.size w' v ∧ (newS t l = 0 → VecOf t (l.map nz) v) ∧ (newS t l ≠ 0 → v = zeroVec)
theorem rnvec_none {t : FT} {l : List VT} {w w' : World} {R : Int} (h : newS t l = R) (hR : R ≠ 0) (hb : Below w.heap.size w w') :
    RnPost t l w (.returned (.tuple #[.agg #[.int .i64 0, .int .i64 0, .slice none 0 0, .slice none 0 0, .slice none 0 0, .slice none 0 0, .slice none 0 0], .int .i64 R])) w' :=
  ⟨zeroVec, by rw [h]; rfl, hb, zeroVec_in _ _, fun h0 => absurd (h.symm.trans h0) hR, fun _ => rfl⟩
set_option maxRecDepth 100000 in
set_option maxHeartbeats 4000000 in
theorem rNewVector_any (t : FT) (A2 : Option Addr) (cap2 : Nat) (l : List VT) (B : Nat) (w : World) (ht : FT.In B w t) (hl : VT.Rows B w A2 cap2 l) (hT : Tabs B w) (hB : B ≤ w.heap.size) :
    Calls Tryd.prog 6 #[.agg #[.int .i64 t.a.k, .int .i64 t.a.sc, .slice t.a.A t.l.length t.a.cap], .slice A2 l.length cap2] w (RnPost t l w) := by
  obtain ⟨R, hR⟩ : ∃ R, newS t l = R := ⟨_, rfl⟩
  have hR0 := hR
  unfold newS at hR
  obtain ⟨size, hsz⟩ : ∃ n, l.length = n := ⟨_, rfl⟩
  have hszm : size ≤ 9223372036854775807 := by rw [← hsz]; exact Nat.le_trans hl.1.1 hl.1.2.1
  rw [hsz] at hR ⊢
  obtain ⟨W0, hW0⟩ : ∃ W0, (w.alloc (.cells #[.int .i64 t.a.k, .int .i64 t.a.sc, .slice t.a.A t.l.length t.a.cap] 24)).alloc (.cells #[.int .i64 0, .int .i64 0, .slice none 0 0, .slice none 0 0, .slice none 0 0, .slice none 0 0, .slice none 0 0] 30) = W0 := ⟨_, rfl⟩
  have hbw : Below w.heap.size w W0 := by rw [← hW0]; exact bel2 _ _ _
  have hz0 : W0.heap.size = w.heap.size + 2 := by rw [← hW0]; simp
  have P0 : W0.heap[w.heap.size]? = some (.cells #[.int .i64 t.a.k, .int .i64 t.a.sc, .slice t.a.A t.l.length t.a.cap] 24 (0, 0)) := by rw [← hW0, Below.heap_alloc _ _ _ (by simp)]; exact heap_alloc_new w _
  have P1 : W0.heap[w.heap.size + 1]? = some (.cells #[.int .i64 0, .int .i64 0, .slice none 0 0, .slice none 0 0, .slice none 0 0, .slice none 0 0, .slice none 0 0] 30 (0, 0)) := by rw [← hW0]; exact blk_new _ _ _ (by simp)
  have hk : Hid (∀ W, Below W0.heap.size W0 W → Below W0.heap.size W0 W ∧ W.cell? ⟨w.heap.size, 0, none⟩ = some (.int .i64 t.a.k) ∧ W.cell? ⟨w.heap.size, 1, none⟩ = some (.int .i64 t.a.sc) ∧ W.cell? ⟨w.heap.size, 2, none⟩ = some (.slice t.a.A t.l.length t.a.cap)) := fun W h => by
    have Q0 := (h.block w.heap.size (by omega)).trans P0
    exact ⟨h, cell_of_row W w.heap.size 0 _ _ _ Q0, cell_of_row W w.heap.size 1 _ _ _ Q0, cell_of_row W w.heap.size 2 _ _ _ Q0⟩
  have hq : Hid (∀ W, Below W0.heap.size W0 W → W.cell? ⟨w.heap.size + 1, 0, none⟩ = some (.int .i64 0) ∧ W.cell? ⟨w.heap.size + 1, 1, none⟩ = some (.int .i64 0) ∧ W.cell? ⟨w.heap.size + 1, 2, none⟩ = some (.slice none 0 0) ∧ W.cell? ⟨w.heap.size + 1, 3, none⟩ = some (.slice none 0 0) ∧ W.cell? ⟨w.heap.size + 1, 4, none⟩ = some (.slice none 0 0) ∧ W.cell? ⟨w.heap.size + 1, 5, none⟩ = some (.slice none 0 0) ∧ W.cell? ⟨w.heap.size + 1, 6, none⟩ = some (.slice none 0 0) ∧ ∀ i, W.frozen? ⟨w.heap.size + 1, i, none⟩ = false) := fun W h => by
    have Q0 := (h.block (w.heap.size + 1) (by omega)).trans P1
    exact ⟨cell_of_row W (w.heap.size + 1) 0 _ _ _ Q0, cell_of_row W (w.heap.size + 1) 1 _ _ _ Q0, cell_of_row W (w.heap.size + 1) 2 _ _ _ Q0, cell_of_row W (w.heap.size + 1) 3 _ _ _ Q0, cell_of_row W (w.heap.size + 1) 4 _ _ _ Q0, cell_of_row W (w.heap.size + 1) 5 _ _ _ Q0, cell_of_row W (w.heap.size + 1) 6 _ _ _ Q0, fun i => by simp [World.frozen?, Q0]⟩
  have hS0 : ∀ W, Below W0.heap.size W0 W → Same B w W ∧ B ≤ W.heap.size := fun W h => by
    have hb := hbw.trans (h.mono (by omega))
    exact ⟨Same.mono (Same.of_below hb) hB, Nat.le_trans hB hb.size⟩
  have hpt := Lib.hid (rplain8_any t B W0 (ht.keep (hS0 W0 (Below.refl _ _)).1) (hS0 W0 (Below.refl _ _)).2)
  have HS0 := Lib.hid hS0
  have HW0 := Lib.hid hW0
  have Hz0 := Lib.hid hz0
  have Ht := Lib.hid ht
  have Hl := Lib.hid hl
  have HT := Lib.hid hT
  have HR0 := Lib.hid hR0
  have Hsz := Lib.hid hsz
  clear hW0 hz0 P0 P1 hS0 ht hl hT hR0 hsz
  by_cases hp : plainS t = 0
  rotate_left
  · rw [if_pos hp] at hR
    have n0 : (plainS t != 0) = true := by simpa using hp
    have HR := Lib.hid hR
    have Hp := Lib.hid hp
    clear hp hR
    go_enter Tryd.func6, Tryd.ntmps6
    go_wp2_with fail
    rw [HW0.out]
    refine hpt.out.mono ?_
    rintro e w1 ⟨rfl, hb1⟩
    obtain ⟨q0, q1, q2, q3, q4, q5, q6, fz⟩ := hq.out w1 hb1
    go_wp2
    refine bodyPost_ret (v := .tuple #[.agg #[.int .i64 0, .int .i64 0, .slice none 0 0, .slice none 0 0, .slice none 0 0, .slice none 0 0, .slice none 0 0], .int .i64 (plainS t)]) (by simp [results, Tryd.results6, go_sem, *]) rfl ?_
    refine rnvec_none (HR0.out.trans HR.out.symm) Hp.out ?_
    exact ((((((((hbw.trans (hb1.mono (by have := Hz0.out; omega))).setCell (by simp) _).setCell (by simp) _).setCell (by simp) _).setCell (by simp) _).setCell (by simp) _).setCell (by simp) _).setCell (by simp) _)
  rw [hp, if_neg (by simp)] at hR
  have Hp := Lib.hid hp
  clear hp
  by_cases hn1 : 1024 < size
  · have HR := Lib.hid (show R = 7 by rw [← hR, if_pos hn1])
    clear hR
    go_enter Tryd.func6, Tryd.ntmps6
    go_wp2_with fail
    rw [HW0.out]
    refine hpt.out.mono ?_
    rintro e w1 ⟨rfl, hb1⟩
    rw [Hp.out]
    obtain ⟨q0, q1, q2, q3, q4, q5, q6, fz⟩ := hq.out w1 hb1
    go_wp2
    refine bodyPost_ret (v := .tuple #[.agg #[.int .i64 0, .int .i64 0, .slice none 0 0, .slice none 0 0, .slice none 0 0, .slice none 0 0, .slice none 0 0], .int .i64 (7)]) (by simp [results, Tryd.results6, go_sem, *]) rfl ?_
    refine rnvec_none (HR0.out.trans HR.out) (by decide) ?_
    exact ((((((((hbw.trans (hb1.mono (by have := Hz0.out; omega))).setCell (by simp) _).setCell (by simp) _).setCell (by simp) _).setCell (by simp) _).setCell (by simp) _).setCell (by simp) _).setCell (by simp) _)
  rw [if_neg hn1] at hR
  have HR := Lib.hid hR
  clear hR
  go_enter Tryd.func6, Tryd.ntmps6
  go_wp2_with fail
  rw [HW0.out]
  refine hpt.out.mono ?_
  rintro e w1 ⟨rfl, hb1⟩
  rw [Hp.out]
  obtain ⟨_, p0, p1, p2⟩ := hk.out w1 hb1
  go_wp2
  go_loopw [22] (fun i wr => ∃ j : Nat, j ≤ size ∧ i = .int .i64 j ∧ Below W0.heap.size W0 wr ∧ Hid (ckL t (l.drop j) = R)) (fun i _ => size - (intOf i).toNat)
  case atStart => exact ⟨0, Nat.zero_le _, rfl, hb1, by rw [List.drop_zero]; exact HR⟩
  case round =>
    obtain ⟨j, hj, rfl, hbr, HRj⟩ := hrel
    clear p0 p1 p2
    obtain ⟨_, p0, p1, p2⟩ := hk.out wr hbr
    by_cases hlt : j < size
    · obtain ⟨x, ad, hx, rfl, hbx, d0, d1, d2, d3, d4⟩ := (Hl.out.1.keep (HS0.out wr hbr).1).get (show j < l.length by rw [Hsz.out]; exact hlt)
      have HR2 := HRj.out
      rw [drop_of_get? hx, ckL] at HR2
      obtain ⟨o1, ho1⟩ : ∃ o1, Obj.cells #[.int .i64 x.a.k, .int .i64 x.a.n, .int .i64 x.a.sc, .string x.a.s, .slice x.a.A x.l.length x.a.cap] 50 = o1 := ⟨_, rfl⟩
      obtain ⟨W3, hW3⟩ : ∃ W3, wr.alloc o1 = W3 := ⟨_, rfl⟩
      have hb3 : Below W0.heap.size W0 W3 := by rw [← hW3]; exact hbr.alloc hbr.size _
      have hch := Lib.hid (rCheck_any t x B W3 (Ht.out.keep (HS0.out W3 hb3).1) ((Hl.out.2 x (mem_of_get? hx)).keep (HS0.out W3 hb3).1) (HT.out.keep (HS0.out W3 hb3).1) (HS0.out W3 hb3).2)
      have HW3 := Lib.hid hW3
      have Ho1 := Lib.hid ho1
      have p0' := fun o => cell_old p0 o
      have p1' := fun o => cell_old p1 o
      have p2' := fun o => cell_old p2 o
      clear hW3 ho1 HRj hx
      by_cases h0 : checkS t x = 0
      · have H0 := Lib.hid h0
        have HR3 := Lib.hid (show ckL t (l.drop (j + 1)) = R by rw [← HR2, if_neg (by simp [h0])])
        clear h0 HR2
        go_wp2_with fail
        rw [Ho1.out, HW3.out]
        refine hch.out.mono ?_
        rintro e w6 ⟨rfl, hb6⟩
        rw [H0.out]
        go_wp2
        go_roundw
        case rel => exact ⟨j + 1, by omega, by go_num, hb3.trans (hb6.mono hb3.size), HR3⟩
        case measure => simp [intOf]; omega
      · have n0 : (checkS t x != 0) = true := by simpa using h0
        have HR3 := Lib.hid (show checkS t x = R by rw [← HR2, if_pos h0])
        have H0 := Lib.hid h0
        clear h0 HR2
        go_wp2_with fail
        rw [Ho1.out, HW3.out]
        refine hch.out.mono ?_
        rintro e w6 ⟨rfl, hb6⟩
        have hb7 := hb3.trans (hb6.mono hb3.size)
        obtain ⟨q0, q1, q2, q3, q4, q5, q6, fz⟩ := hq.out w6 hb7
        clear d0 d1 d2 d3 d4 p0 p1 p2 p0' p1' p2'
        go_wp2
        refine bodyPost_ret (v := .tuple #[.agg #[.int .i64 0, .int .i64 0, .slice none 0 0, .slice none 0 0, .slice none 0 0, .slice none 0 0, .slice none 0 0], .int .i64 (checkS t x)]) (by simp [results, Tryd.results6, go_sem, *]) rfl ?_
        refine rnvec_none (HR0.out.trans HR3.out.symm) H0.out ?_
        exact ((((((((hbw.trans (hb7.mono (by have := Hz0.out; omega))).setCell (by simp) _).setCell (by simp) _).setCell (by simp) _).setCell (by simp) _).setCell (by simp) _).setCell (by simp) _).setCell (by simp) _)
    · have HR3 : Hid (R = 0) := by
        show R = 0
        have := HRj.out
        rw [List.drop_of_length_le (by rw [Hsz.out]; omega)] at this
        exact this.symm
      have hckL : ckL t l = 0 := HR.out.trans HR3.out
      have hvc := Lib.hid (rvector_any t A2 size cap2 wr l B (Ht.out.keep (HS0.out wr hbr).1) (Hl.out.1.keep (HS0.out wr hbr).1) (HS0.out wr hbr).2 Hsz.out (by omega) (fun x hx => (Hl.out.2 x hx).keep (HS0.out wr hbr).1))
      clear hckL HRj
      go_wp2_with fail
      refine hvc.out.mono ?_
      rintro e w2 ⟨v, rfl, hb2, hvin, hvof⟩
      have hb2' : Below W0.heap.size W0 w2 := hbr.trans (hb2.mono hbr.size)
      obtain ⟨q0, q1, q2, q3, q4, q5, q6, fz⟩ := hq.out w2 hb2'
      have Hvin := Lib.hid hvin
      have Hvof := Lib.hid hvof
      clear p0 p1 p2 hvin hvof
      go_wp2
      refine bodyPost_ret (v := .tuple #[.agg #[.int .i64 v.t.a.k, .int .i64 v.t.a.sc, .slice v.t.a.A v.t.l.length v.t.a.cap, .slice v.NA v.ns.length v.ncap, .slice v.IA v.is.length v.icap, .slice v.SA v.ss.length v.scap, .slice v.VA v.vs.length v.vcap], .int .i64 0]) (by simp [results, Tryd.results6, go_sem, *]) rfl ?_
      refine ⟨v, by rw [HR0.out, HR3.out], ?_, ?_, fun _ => Hvof.out, fun h => absurd (HR0.out.trans HR3.out) h⟩
      · skip
        exact ((((((((hbw.trans (hb2'.mono (by have := Hz0.out; omega))).setCell (by simp) _).setCell (by simp) _).setCell (by simp) _).setCell (by simp) _).setCell (by simp) _).setCell (by simp) _).setCell (by simp) _)
      · refine Hvin.out _ ⟨fun q h1 _ => ?_, by simp [World.setCell]⟩ fun q hq => ?_
        · have := hbr.size
          have := Hz0.out
          iterate 7 rw [Deep.blk_setCell_other _ _ _ _ (by simp; omega)]
        · iterate 7 rw [Deep.blk_setCell_other _ _ _ _ (by simp; omega)]
          exact hb2.block q (by have := hbr.size; have := Hz0.out; omega)
end Go.Proofs.YtcpbbagppkcilaaDoor
