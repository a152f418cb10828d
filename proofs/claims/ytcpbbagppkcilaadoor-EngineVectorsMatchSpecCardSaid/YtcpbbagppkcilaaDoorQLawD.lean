/-
  The law on vectors, walked.
-/
import Derived.Test.YtcpbbagppkcilaaDoorQLawC
import Derived.Test.YtcpbbagppkcilaaDoorQNewF
import Derived.Test.YtcpbbagppkcilaaDoorQRvF
namespace Go.Proofs.YtcpbbagppkcilaaDoor
open Go.RowKit
theorem SmL.symm {l m : List VT} (h : SmL l m) : SmL m l := ⟨h.1.symm, fun i x y hx hy => (h.2 i y x hy hx).symm⟩
theorem SmL.trans {l m n : List VT} (h : SmL l m) (h' : SmL m n) : SmL l n := ⟨h.1.trans h'.1, fun i x y hx hy => by
  have hi : i < m.length := by rw [← h.1]; exact (List.getElem?_eq_some_iff.1 hx).1
  exact (h.2 i x m[i] hx (List.getElem?_eq_getElem hi)).trans (h'.2 i m[i] y (List.getElem?_eq_getElem hi) hy)⟩
theorem SmL.refl (l : List VT) : SmL l l := ⟨rfl, fun i x y hx hy => by rw [hx] at hy; cases hy; exact VT.Sm.refl x⟩
theorem nz_smL {t : FT} {l : List VT} (h : ∀ x, x ∈ l → checkS t x = 0) : SmL l (l.map nz) := ⟨by simp, fun i x y hx hy => by
  rw [List.getElem?_map, hx] at hy
  cases hy
  exact nz_sm (h x (mem_of_get? hx))⟩
theorem new_sm {t : FT} {l : List VT} {a b : VecT} (h1 : newS t l = 0 → VecOf t l a) (h2 : newS t l ≠ 0 → a = zeroVec) (h3 : newS t l = 0 → VecOf t (l.map nz) b) (h4 : newS t l ≠ 0 → b = zeroVec) : VecT.Sm a b := by
  by_cases h : newS t l = 0
  · exact (h1 h).sm (h3 h) (nz_smL (newS_ok h).2.2)
  · rw [h2 h, h4 h]
    exact ⟨FT.Sm.refl _, rfl, rfl, rfl, SmL.refl _⟩
theorem VecT.In.more {B B' : Nat} {w : World} {v : VecT} (h : VecT.In B w v) (hB : B ≤ B') : VecT.In B' w v := ⟨h.t.more hB, h.ns.more hB, h.nb, h.is.more hB, h.ib, h.ss.more hB, h.sb, ⟨h.vs.1.more hB, fun x hx => (h.vs.2 x hx).more hB⟩⟩
theorem tabs_more {B B' : Nat} {w : World} (h : Tabs B w) (hB : B ≤ B') : Tabs B' w := ⟨Nat.lt_of_lt_of_le h.1 hB, Nat.lt_of_lt_of_le h.2.1 hB, h.2.2⟩
def vAr (a : VecT) : Array Value := #[.int .i64 a.t.a.k, .int .i64 a.t.a.sc, .slice a.t.a.A a.t.l.length a.t.a.cap, .slice a.NA a.ns.length a.ncap, .slice a.IA a.is.length a.icap, .slice a.SA a.ss.length a.scap, .slice a.VA a.vs.length a.vcap]
/-- The seven cells of a vector. -/
def Cells7 (a : VecT) (b : Nat) (w : World) : Prop := w.cell? ⟨b, 0, none⟩ = some (.int .i64 a.t.a.k) ∧ w.cell? ⟨b, 1, none⟩ = some (.int .i64 a.t.a.sc) ∧ w.cell? ⟨b, 2, none⟩ = some (.slice a.t.a.A a.t.l.length a.t.a.cap) ∧ w.cell? ⟨b, 3, none⟩ = some (.slice a.NA a.ns.length a.ncap) ∧ w.cell? ⟨b, 4, none⟩ = some (.slice a.IA a.is.length a.icap) ∧ w.cell? ⟨b, 5, none⟩ = some (.slice a.SA a.ss.length a.scap) ∧ w.cell? ⟨b, 6, none⟩ = some (.slice a.VA a.vs.length a.vcap)
theorem cells7 {a : VecT} {b : Nat} {w : World} {t : TypeId} (h : w.heap[b]? = some (.cells (vAr a) t (0, 0))) : Cells7 a b w :=
  ⟨cell_of_row w b 0 _ _ _ h, cell_of_row w b 1 _ _ _ h, cell_of_row w b 2 _ _ _ h, cell_of_row w b 3 _ _ _ h, cell_of_row w b 4 _ _ _ h, cell_of_row w b 5 _ _ _ h, cell_of_row w b 6 _ _ _ h⟩
set_option maxRecDepth 100000 in
set_option maxHeartbeats 8000000 in
theorem lawA_any (t : FT) (A2 : Option Addr) (cap2 : Nat) (l : List VT) (v : VecT) (n : Int) (B : Nat) (w : World) (ht : FT.In B w t) (hl : VT.Rows B w A2 cap2 l) (hv : VecT.In B w v) (hT : Tabs B w) (hB : B ≤ w.heap.size) :
    Calls Tryd.prog 3 #[.agg #[.int .i64 t.a.k, .int .i64 t.a.sc, .slice t.a.A t.l.length t.a.cap], .slice A2 l.length cap2, .agg #[.int .i64 v.t.a.k, .int .i64 v.t.a.sc, .slice v.t.a.A v.t.l.length v.t.a.cap, .slice v.NA v.ns.length v.ncap, .slice v.IA v.is.length v.icap, .slice v.SA v.ss.length v.scap, .slice v.VA v.vs.length v.vcap], .int .i64 n] w fun e w' => e = .returned (.bool true) ∧ Below w.heap.size w w' := by
  obtain ⟨W0, hW0⟩ : ∃ W0, (w.alloc (.cells #[.int .i64 t.a.k, .int .i64 t.a.sc, .slice t.a.A t.l.length t.a.cap] 24)).alloc (.cells #[.int .i64 v.t.a.k, .int .i64 v.t.a.sc, .slice v.t.a.A v.t.l.length v.t.a.cap, .slice v.NA v.ns.length v.ncap, .slice v.IA v.is.length v.icap, .slice v.SA v.ss.length v.scap, .slice v.VA v.vs.length v.vcap] 30) = W0 := ⟨_, rfl⟩
  have hbw : Below w.heap.size w W0 := by rw [← hW0]; exact bel2 _ _ _
  have hz0 : W0.heap.size = w.heap.size + 2 := by rw [← hW0]; simp
  have P0 : W0.heap[w.heap.size]? = some (.cells #[.int .i64 t.a.k, .int .i64 t.a.sc, .slice t.a.A t.l.length t.a.cap] 24 (0, 0)) := by rw [← hW0, Below.heap_alloc _ _ _ (by simp)]; exact heap_alloc_new w _
  have P1 : W0.heap[w.heap.size + 1]? = some (.cells (vAr v) 30 (0, 0)) := by rw [← hW0]; exact blk_new _ _ _ (by simp)
  have hk : Hid (∀ W, Below W0.heap.size W0 W → W.cell? ⟨w.heap.size, 0, none⟩ = some (.int .i64 t.a.k) ∧ W.cell? ⟨w.heap.size, 1, none⟩ = some (.int .i64 t.a.sc) ∧ W.cell? ⟨w.heap.size, 2, none⟩ = some (.slice t.a.A t.l.length t.a.cap) ∧ Cells7 v (w.heap.size + 1) W) := fun W h => by
    have Q0 := (h.block w.heap.size (by omega)).trans P0
    have Q1 := (h.block (w.heap.size + 1) (by omega)).trans P1
    exact ⟨cell_of_row W w.heap.size 0 _ _ _ Q0, cell_of_row W w.heap.size 1 _ _ _ Q0, cell_of_row W w.heap.size 2 _ _ _ Q0, cells7 Q1⟩
  have hS0 : ∀ W, Below W0.heap.size W0 W → Same B w W ∧ B ≤ W.heap.size := fun W h => by
    have hb := hbw.trans (h.mono (by omega))
    exact ⟨Same.mono (Same.of_below hb) hB, Nat.le_trans hB hb.size⟩
  have h00 := hS0 W0 (Below.refl _ _)
  have hnv := Lib.hid (eNewVector_any t A2 cap2 l B W0 (ht.keep h00.1) (hl.keep h00.1) (hT.keep h00.1) h00.2)
  have hll : l.length ≤ 9223372036854775807 := Nat.le_trans hl.1.1 hl.1.2.1
  have HS0 := Lib.hid hS0
  have HW0 := Lib.hid hW0
  have Hz0 := Lib.hid hz0
  have Ht := Lib.hid ht
  have Hl := Lib.hid hl
  have Hv := Lib.hid hv
  have HT := Lib.hid hT
  clear hW0 hz0 P0 P1 hS0 h00 ht hl hv hT
  go_enter Tryd.func3, Tryd.ntmps3
  go_wp2_with fail
  rw [HW0.out]
  refine hnv.out.mono ?_
  rintro e w1 ⟨a, rfl, hb1, hain, haof, hazero⟩
  obtain ⟨W1, hW1⟩ : ∃ W1, w1.alloc (.cells #[.int .i64 a.t.a.k, .int .i64 a.t.a.sc, .slice a.t.a.A a.t.l.length a.t.a.cap, .slice a.NA a.ns.length a.ncap, .slice a.IA a.is.length a.icap, .slice a.SA a.ss.length a.scap, .slice a.VA a.vs.length a.vcap] 30) = W1 := ⟨_, rfl⟩
  have hbW1 : Below w1.heap.size w1 W1 := by rw [← hW1]; exact bel1 _ _
  have hb01 : Below W0.heap.size W0 W1 := hb1.trans (hbW1.mono hb1.size)
  have hzW1 : W1.heap.size = w1.heap.size + 1 := by rw [← hW1]; simp
  have Q1 : W1.heap[w1.heap.size]? = some (.cells (vAr a) 30 (0, 0)) := by rw [← hW1]; exact heap_alloc_new w1 _
  obtain ⟨p0, p1, p2, _⟩ := hk.out w1 hb1
  have p0' := fun o => cell_old p0 o
  have p1' := fun o => cell_old p1 o
  have p2' := fun o => cell_old p2 o
  have hrn := Lib.hid (rNewVector_any t A2 cap2 l B W1 (Ht.out.keep (HS0.out W1 hb01).1) (Hl.out.keep (HS0.out W1 hb01).1) (HT.out.keep (HS0.out W1 hb01).1) (HS0.out W1 hb01).2)
  have HW1 := Lib.hid hW1
  have HzW1 := Lib.hid hzW1
  have HQ1 := Lib.hid Q1
  have Hain := Lib.hid hain
  have Haof := Lib.hid haof
  have Hazero := Lib.hid hazero
  clear hW1 hzW1 Q1 hain haof hazero
  go_wp2_with fail
  rw [HW1.out]
  refine hrn.out.mono ?_
  rintro e w2 ⟨b, rfl, hb2, hbin, hbof, hbzero⟩
  obtain ⟨W2, hW2⟩ : ∃ W2, w2.alloc (.cells #[.int .i64 b.t.a.k, .int .i64 b.t.a.sc, .slice b.t.a.A b.t.l.length b.t.a.cap, .slice b.NA b.ns.length b.ncap, .slice b.IA b.is.length b.icap, .slice b.SA b.ss.length b.scap, .slice b.VA b.vs.length b.vcap] 30) = W2 := ⟨_, rfl⟩
  have hbW2 : Below w2.heap.size w2 W2 := by rw [← hW2]; exact bel1 _ _
  have hb02 : Below W0.heap.size W0 W2 := (hb01.trans (hb2.mono hb01.size)).trans (hbW2.mono (Nat.le_trans hb01.size hb2.size))
  have hb12 : Below w1.heap.size w1 W2 := (hbW1.trans (hb2.mono hbW1.size)).trans (hbW2.mono (Nat.le_trans hbW1.size hb2.size))
  have hsm := new_sm Haof.out Hazero.out hbof hbzero
  have hvec := Lib.hid (lvectors_sm a b W2.heap.size W2 ((Hain.out.keep (Same.of_below hb12)).more hb12.size) ((hbin.keep (Same.of_below hbW2)).more hbW2.size) (Nat.le_refl _) hsm)
  have hz12 : w1.heap.size < W1.heap.size := by have := HzW1.out; omega
  have hq2 : Hid (∀ W, Below w2.heap.size w2 W → Cells7 a w1.heap.size W) := fun W h => cells7 ((h.block w1.heap.size (by have := hb2.size; omega)).trans ((hb2.block w1.heap.size hz12).trans HQ1.out))
  obtain ⟨a0, a1, a2, a3, a4, a5, a6⟩ := hq2.out w2 (Below.refl _ _)
  have a0' := fun o => cell_old a0 o
  have a1' := fun o => cell_old a1 o
  have a2' := fun o => cell_old a2 o
  have a3' := fun o => cell_old a3 o
  have a4' := fun o => cell_old a4 o
  have a5' := fun o => cell_old a5 o
  have a6' := fun o => cell_old a6 o
  have HW2 := Lib.hid hW2
  clear hW2 hbin hbof hbzero hsm p0 p1 p2 p0' p1' p2'
  by_cases h0 : newS t l = 0
  · have H0 := Lib.hid h0
    rw [h0]
    clear h0
    go_wp2_with fail
    rw [HW2.out]
    refine hvec.out.mono ?_
    rintro e w3 ⟨rfl, hb3⟩
    clear a0 a1 a2 a3 a4 a5 a6 a0' a1' a2' a3' a4' a5' a6'
    have hb23 : Below w2.heap.size w2 w3 := hbW2.trans (hb3.mono hbW2.size)
    have hb03 : Below W0.heap.size W0 w3 := hb02.trans (hb3.mono hb02.size)
    have hb13 : Below w1.heap.size w1 w3 := hb12.trans (hb3.mono hb12.size)
    obtain ⟨a0, a1, a2, a3, a4, a5, a6⟩ := hq2.out w3 hb23
    obtain ⟨hvs, hvl0⟩ := vec_ok (Haof.out H0.out) H0.out
    have hev1 := Lib.hid (eValues_any a (l.length : Int) w1.heap.size w3 (Hain.out.keep (Same.of_below hb13)) (tabs_more (HT.out.keep (HS0.out w3 hb03).1) (HS0.out w1 hb1).2) hb13.size)
    have Hvs := Lib.hid hvs
    have Hvl0 := Lib.hid hvl0
    clear hvs hvl0
    go_wp2_with fail
    refine hev1.out.mono ?_
    rintro e w4 ⟨UA, ucap, us, rfl, hb4, hus, husm⟩
    rw [Hvs.out]
    have hb04 : Below W0.heap.size W0 w4 := hb03.trans (hb4.mono hb03.size)
    have hvl1 := Lib.hid (lvalues_sm UA A2 ucap cap2 us l w4.heap.size w4 hus ⟨(Hl.out.1.keep (HS0.out w4 hb04).1).more (HS0.out w4 hb04).2, fun x hx => ((Hl.out.2 x hx).keep (HS0.out w4 hb04).1).more (HS0.out w4 hb04).2⟩ (Nat.le_refl _) (husm.symm.trans Hvl0.out))
    clear a0 a1 a2 a3 a4 a5 a6 hus husm
    go_wp2_with fail
    refine hvl1.out.mono ?_
    rintro e w5 ⟨rfl, hb5⟩
    have hb05 : Below W0.heap.size W0 w5 := hb04.trans (hb5.mono hb04.size)
    -- in W: hbW : Below W0.heap.size W0 W (the last world's name: w5)
    obtain ⟨_, _, _, v0, v1, v2, v3, v4, v5, v6⟩ := hk.out w5 hb05
    have hev := Lib.hid (eValues_any v n B w5 (Hv.out.keep (HS0.out w5 hb05).1) (HT.out.keep (HS0.out w5 hb05).1) (HS0.out w5 hb05).2)
    go_wp2_with fail
    refine hev.out.mono ?_
    rintro e w7 ⟨XA, xcap, xs, rfl, hb7, hxs, hxsm⟩
    have hb07 : Below W0.heap.size W0 w7 := (hb05).trans (hb7.mono (hb05).size)
    clear v0 v1 v2 v3 v4 v5 v6
    obtain ⟨_, _, _, v0, v1, v2, v3, v4, v5, v6⟩ := hk.out w7 hb07
    have hrv := Lib.hid (rValues_any v n B w7 (Hv.out.keep (HS0.out w7 hb07).1) (HT.out.keep (HS0.out w7 hb07).1) (HS0.out w7 hb07).2)
    have Hxs := Lib.hid hxs
    have Hxsm := Lib.hid hxsm
    clear hxs hxsm
    go_wp2_with fail
    refine hrv.out.mono ?_
    rintro e w8 ⟨YA, ycap, ys, rfl, hb8, hys, hysm⟩
    have hb08 : Below W0.heap.size W0 w8 := hb07.trans (hb8.mono hb07.size)
    have hvl := Lib.hid (lvalues_sm XA YA xcap ycap xs ys w8.heap.size w8 ⟨(Hxs.out.1.keep (Same.of_below hb8)).more hb8.size, fun x hx => ((Hxs.out.2 x hx).keep (Same.of_below hb8)).more hb8.size⟩ hys (Nat.le_refl _) (Hxsm.out.symm.trans hysm))
    clear v0 v1 v2 v3 v4 v5 v6 hys hysm
    go_wp2_with fail
    refine hvl.out.mono ?_
    rintro e w9 ⟨rfl, hb9⟩
    have hb09 : Below W0.heap.size W0 w9 := hb08.trans (hb9.mono hb08.size)
    obtain ⟨_, _, _, v0, v1, v2, v3, v4, v5, v6⟩ := hk.out w9 hb09
    have hcv := Lib.hid (eCheckVector_any v n B w9 (Hv.out.keep (HS0.out w9 hb09).1) (HT.out.keep (HS0.out w9 hb09).1) (HS0.out w9 hb09).2)
    go_wp2_with fail
    refine hcv.out.mono ?_
    rintro e w10 ⟨rfl, hb10⟩
    go_wp2
    go_ret
    exact ⟨rfl, hbw.trans ((hb09.trans (hb10.mono hb09.size)).mono (by have := Hz0.out; omega))⟩
  · have n0 : (newS t l == 0) = false := by simpa using h0
    clear h0
    go_wp2_with fail
    rw [HW2.out]
    refine hvec.out.mono ?_
    rintro e w3 ⟨rfl, hb3⟩
    clear a0 a1 a2 a3 a4 a5 a6 a0' a1' a2' a3' a4' a5' a6'
    have hb03 : Below W0.heap.size W0 w3 := hb02.trans (hb3.mono hb02.size)
    -- in W: hbW : Below W0.heap.size W0 W (the last world's name: w3)
    obtain ⟨_, _, _, v0, v1, v2, v3, v4, v5, v6⟩ := hk.out w3 hb03
    have hev := Lib.hid (eValues_any v n B w3 (Hv.out.keep (HS0.out w3 hb03).1) (HT.out.keep (HS0.out w3 hb03).1) (HS0.out w3 hb03).2)
    go_wp2_with fail
    refine hev.out.mono ?_
    rintro e w7 ⟨XA, xcap, xs, rfl, hb7, hxs, hxsm⟩
    have hb07 : Below W0.heap.size W0 w7 := (hb03).trans (hb7.mono (hb03).size)
    clear v0 v1 v2 v3 v4 v5 v6
    obtain ⟨_, _, _, v0, v1, v2, v3, v4, v5, v6⟩ := hk.out w7 hb07
    have hrv := Lib.hid (rValues_any v n B w7 (Hv.out.keep (HS0.out w7 hb07).1) (HT.out.keep (HS0.out w7 hb07).1) (HS0.out w7 hb07).2)
    have Hxs := Lib.hid hxs
    have Hxsm := Lib.hid hxsm
    clear hxs hxsm
    go_wp2_with fail
    refine hrv.out.mono ?_
    rintro e w8 ⟨YA, ycap, ys, rfl, hb8, hys, hysm⟩
    have hb08 : Below W0.heap.size W0 w8 := hb07.trans (hb8.mono hb07.size)
    have hvl := Lib.hid (lvalues_sm XA YA xcap ycap xs ys w8.heap.size w8 ⟨(Hxs.out.1.keep (Same.of_below hb8)).more hb8.size, fun x hx => ((Hxs.out.2 x hx).keep (Same.of_below hb8)).more hb8.size⟩ hys (Nat.le_refl _) (Hxsm.out.symm.trans hysm))
    clear v0 v1 v2 v3 v4 v5 v6 hys hysm
    go_wp2_with fail
    refine hvl.out.mono ?_
    rintro e w9 ⟨rfl, hb9⟩
    have hb09 : Below W0.heap.size W0 w9 := hb08.trans (hb9.mono hb08.size)
    obtain ⟨_, _, _, v0, v1, v2, v3, v4, v5, v6⟩ := hk.out w9 hb09
    have hcv := Lib.hid (eCheckVector_any v n B w9 (Hv.out.keep (HS0.out w9 hb09).1) (HT.out.keep (HS0.out w9 hb09).1) (HS0.out w9 hb09).2)
    go_wp2_with fail
    refine hcv.out.mono ?_
    rintro e w10 ⟨rfl, hb10⟩
    go_wp2
    go_ret
    exact ⟨rfl, hbw.trans ((hb09.trans (hb10.mono hb09.size)).mono (by have := Hz0.out; omega))⟩
end Go.Proofs.YtcpbbagppkcilaaDoor
