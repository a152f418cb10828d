/-
  The reference of package value: values that are missing.
-/
import Derived.Test.YtkadahfknccjfaaGreatDoorQData3
import Derived.Test.YtkadahfknccjfaaGreatDoorQSpec2
import Derived.Test.YtkadahfknccjfaaGreatDoorQRefE
import Derived.Test.YtkadahfknccjfaaGreatDoorQStill
namespace Go.Proofs.YtkadahfknccjfaaGreatDoor
open Go.RowKit
set_option maxRecDepth 100000 in
set_option maxHeartbeats 4000000 in
theorem rmissing_any : ∀ (v : VT) (t : FT) (B : Nat) (w : World), VT.In B w v → FT.In B w t → TOk t → VOk v → ofT t v = true → B ≤ w.heap.size →
    Calls Tryz.prog 61 #[.agg #[.int .i64 t.a.k, .int .i64 t.a.sc, .slice t.a.A t.l.length t.a.cap], .agg #[.int .i64 v.a.k, .int .i64 v.a.n, .int .i64 v.a.sc, .string v.a.s, .slice v.a.A v.l.length v.a.cap]] w
      fun e w' => e = .returned (.bool (misT t v)) ∧ Below w.heap.size w w' := by
  refine VT.ind fun a l ih t B w hin htin hto hvo hof hB => ?_
  obtain ⟨f, fl⟩ := t
  obtain ⟨id, nm, nd, tk, tsc, TA, tcap⟩ := f
  obtain ⟨k, n, sc, s, A, cap⟩ := a
  obtain ⟨_, _, _, hss, hr, hl⟩ := hin.parts
  obtain ⟨_, _, _, _, htr, htl⟩ := htin.parts
  obtain ⟨htk1, htk7, htk6, htsc, htox⟩ := hto.inv
  obtain ⟨hvl, hvs, hvox⟩ := hvo.inv
  simp only [VT.a_node, VT.l_node, FT.a_node, FT.l_node] at *
  have hitems : ∀ (j : Nat) (x : VT), l[j]? = some x → ∃ t, fldAt tk fl j = some t ∧ ofT t x = true := by
    intro j x hx
    unfold ofT at hof
    simp only [] at hof
    by_cases hk0 : k = 0
    · have := hvl (by omega) (by omega); subst this; simp at hx
    rw [if_neg hk0] at hof
    repeat' split at hof
    · cases hof
    · cases hof
    · cases hof
    · have := ofI_items l 0 hof j x hx
      simpa using this
  obtain ⟨len, hlen⟩ : ∃ len, l.length = len := ⟨_, rfl⟩
  have hll : len ≤ 9223372036854775807 := by rw [← hlen]; exact Nat.le_trans hr.1 hr.2.1
  obtain ⟨flen, hflen⟩ : ∃ flen, fl.length = flen := ⟨_, rfl⟩
  have hfll : flen ≤ 9223372036854775807 := by rw [← hflen]; exact Nat.le_trans htr.1 htr.2.1
  obtain ⟨R, hR⟩ : ∃ R, misT (.node ⟨id, nm, nd, tk, tsc, TA, tcap⟩ fl) (.node ⟨k, n, sc, s, A, cap⟩ l) = R := ⟨_, rfl⟩
  rw [hR]
  unfold misT at hR
  simp only [] at hR
  rw [hlen, hflen]
  have hlen' := Lib.hid hlen
  have hflen' := Lib.hid hflen
  clear hlen hflen
  have hlen := hlen'
  have hflen := hflen'
  clear hlen' hflen'
  have HR := Lib.hid hR
  clear hin htin hto hvo hvs htsc hss hR hvl htk6 hof
  by_cases h6 : tk = 6
  · have e6 : (tk == 6) = true := by simpa using h6
    have H6 := Lib.hid h6
    clear h6
    have hbw : Below w.heap.size w ((w.alloc (.cells #[.int .i64 tk, .int .i64 tsc, .slice TA flen tcap] 50)).alloc (.cells #[.int .i64 k, .int .i64 n, .int .i64 sc, .string s, .slice A len cap] 61)) := bel2 _ _ _
    obtain ⟨W0, hW0⟩ : ∃ W0, ((w.alloc (.cells #[.int .i64 tk, .int .i64 tsc, .slice TA flen tcap] 50)).alloc (.cells #[.int .i64 k, .int .i64 n, .int .i64 sc, .string s, .slice A len cap] 61)) = W0 := ⟨_, rfl⟩
    have hsz : w.heap.size + 1 < W0.heap.size := by rw [← hW0]; simp
    have hb0 : W0.cell? ⟨w.heap.size, 0, none⟩ = some (.int .i64 tk) := by rw [← hW0]; simp
    have hb2 : W0.cell? ⟨w.heap.size, 2, none⟩ = some (.slice TA flen tcap) := by rw [← hW0]; simp
    have hb4 : W0.cell? ⟨w.heap.size + 1, 4, none⟩ = some (.slice A len cap) := by rw [← hW0]; simp
    rw [hW0] at hbw
    have hS0 := Same.mono (Same.of_below hbw) hB
    have hrW := hr.keep hS0
    have htrW := htr.keep hS0
    have hlW := fun x (hx : x ∈ l) => (hl x hx).keep hS0
    have htlW := fun x (hx : x ∈ fl) => (htl x hx).keep hS0
    have HW0 := Lib.hid hW0
    clear hW0 hr htr hl htl hS0
    go_enter Tryz.func61, Tryz.ntmps61
    go_wp2_with fail
    rw [HW0.out]
    clear HW0
    go_loopw [11] (fun i wr => ∃ j : Nat, j ≤ len ∧ i = .int .i64 j ∧ Below W0.heap.size W0 wr ∧ Hid (misI tk fl j (l.drop j) = R)) (fun i _ => len - (intOf i).toNat)
    case atStart => exact ⟨0, Nat.zero_le _, rfl, Below.refl _ _, HR⟩
    case round =>
      obtain ⟨j, hj, rfl, hbr, HRj⟩ := hrel
      by_cases hlt : j < len
      · have hSr : Same B W0 wr := Same.mono (Same.of_below hbr) (by omega)
        obtain ⟨x, ad, hx, rfl, hb, d0, d1, d2, d3, d4⟩ := (hrW.keep hSr).get (show j < l.length by rw [hlen.out]; exact hlt)
        obtain ⟨tx, hfd, hofx⟩ := hitems j x hx
        have htx : fl[0]? = some tx := by have := hfd; unfold fldAt at this; rw [if_pos H6.out] at this; exact this
        obtain ⟨tx', tad, htx', rfl, htb, e0, e1, e2, e3, e4, e5⟩ := (htrW.keep hSr).get (show 0 < fl.length from (List.getElem?_eq_some_iff.1 htx).1)
        obtain rfl : tx' = tx := by rw [htx] at htx'; injection htx' with h; exact h.symm
        have hqf : 0 < flen := by rw [← hflen.out]; exact (List.getElem?_eq_some_iff.1 htx).1
        rw [show tad.add (0 * 6) = tad from rfl] at e0 e1 e2 e3 e4 e5
        have hic := fun (w2 : World) (hs2 : Same B wr w2) (hB2 : B ≤ w2.heap.size) => ih x (mem_of_get? hx) tx' B w2 ((hlW x (mem_of_get? hx)).keep (hSr.trans hs2)) ((htlW tx' (mem_of_get? htx)).keep (hSr.trans hs2)) (htox tx' (mem_of_get? htx)) (hvox x (mem_of_get? hx)) hofx hB2
        clear hofx
        have HR2 := HRj.out
        rw [drop_of_get? hx] at HR2
        unfold misI at HR2
        rw [hfd] at HR2
        simp only [] at HR2
        have c0 := (hbr.cell (p := ⟨w.heap.size, 0, none⟩) (by show w.heap.size < _; omega)).trans hb0
        have c2 := (hbr.cell (p := ⟨w.heap.size, 2, none⟩) (by show w.heap.size < _; omega)).trans hb2
        have c4 := (hbr.cell (p := ⟨w.heap.size + 1, 4, none⟩) (by show w.heap.size + 1 < _; omega)).trans hb4
        have hzr : W0.heap.size ≤ wr.heap.size := hbr.size
        have hadb : ad.block < wr.heap.size := by omega
        have htadb : tad.block < wr.heap.size := by omega
        have hadb' : (ad.add (j * 5)).block < wr.heap.size := by rw [block_add]; exact hadb
        have Hic := Lib.hid hic
        clear hic ih hrW htrW hlW htlW htox hvox hfd hx htx htx' hb0 hb2 hb4 hitems
        obtain ⟨xk, hxk⟩ : ∃ xk, x.a.k = xk := ⟨_, rfl⟩
        rw [hxk] at d0 HR2
        have Hxk := Lib.hid hxk
        clear hxk
        obtain ⟨nd', hnd⟩ : ∃ nd', tx'.a.nd = nd' := ⟨_, rfl⟩
        rw [hnd] at e2 HR2
        clear hnd
        obtain ⟨o1, ho1⟩ : ∃ o1, Obj.cells #[.int .i64 tx'.a.id, .string tx'.a.nm, .bool nd', .int .i64 tx'.a.k, .int .i64 tx'.a.sc, .slice tx'.a.A tx'.l.length tx'.a.cap] 84 = o1 := ⟨_, rfl⟩
        obtain ⟨W1, hW1⟩ : ∃ W1, wr.alloc o1 = W1 := ⟨_, rfl⟩
        have f2 : W1.cell? ⟨wr.heap.size, 2, none⟩ = some (.bool nd') := by rw [← hW1, ← ho1, cell_new]; rfl
        have f3 : W1.cell? ⟨wr.heap.size, 3, none⟩ = some (.int .i64 tx'.a.k) := by rw [← hW1, ← ho1, cell_new]; rfl
        have f4 : W1.cell? ⟨wr.heap.size, 4, none⟩ = some (.int .i64 tx'.a.sc) := by rw [← hW1, ← ho1, cell_new]; rfl
        have f5 : W1.cell? ⟨wr.heap.size, 5, none⟩ = some (.slice tx'.a.A tx'.l.length tx'.a.cap) := by rw [← hW1, ← ho1, cell_new]; rfl
        have g4 : W1.cell? ⟨w.heap.size + 1, 4, none⟩ = some (.slice (some ad) len cap) := by rw [← hW1]; exact cell_old c4 _
        have g0 : W1.cell? (ad.add (j * 5)) = some (.int .i64 xk) := by rw [← hW1]; exact cell_old d0 _
        have g1 : W1.cell? ⟨(ad.add (j * 5)).block, (ad.add (j * 5)).off + 1, none⟩ = some (.int .i64 x.a.n) := by rw [← hW1]; exact cell_old d1 _
        have g2 : W1.cell? ⟨(ad.add (j * 5)).block, (ad.add (j * 5)).off + 2, none⟩ = some (.int .i64 x.a.sc) := by rw [← hW1]; exact cell_old d2 _
        have g3 : W1.cell? ⟨(ad.add (j * 5)).block, (ad.add (j * 5)).off + 3, none⟩ = some (.string x.a.s) := by rw [← hW1]; exact cell_old d3 _
        have g5 : W1.cell? ⟨(ad.add (j * 5)).block, (ad.add (j * 5)).off + 4, none⟩ = some (.slice x.a.A x.l.length x.a.cap) := by rw [← hW1]; exact cell_old d4 _
        have hbr1 : Below W0.heap.size W0 W1 := by rw [← hW1]; exact hbr.alloc hzr _
        have hS1 : Same B wr W1 := by rw [← hW1]; exact (Same.refl B wr).alloc (by omega) _
        have hz1 : W0.heap.size ≤ W1.heap.size := hbr1.size
        have HW1 := Lib.hid hW1
        have Ho1 := Lib.hid ho1
        clear hW1 ho1
        go_wp2_with fail
        rw [Ho1.out, HW1.out]
        clear c0 c2 c4 d0 d1 d2 d3 d4 e0 e1 e2 e3 e4 e5 Ho1 HW1 hbr
        by_cases hnull : nd' = true ∧ xk = 0
        · obtain ⟨rfl, rfl⟩ := hnull
          have HR3 : Hid (true = R) := by rw [← HR2]; simp [Hid]
          clear HR2
          go_quiet (fail)
          go_wp2
          go_ret
          exact ⟨by rw [← HR3.out]; rfl, hbw.trans ((below_drewN hbr1 _).mono (by omega))⟩
        · have hnn : (nd' && (xk == 0)) = false := by
            rw [Bool.eq_false_iff]; intro h; rw [Bool.and_eq_true] at h; exact hnull ⟨h.1, by simpa using h.2⟩
          rw [hnn, Bool.false_or] at HR2
          clear hnull
          cases hmt : misT tx' x
          · have HR3 : Hid (misI tk fl (j + 1) (l.drop (j + 1)) = R) := by rw [hmt, Bool.false_or] at HR2; exact HR2
            have Hmt := Lib.hid hmt
            clear hmt HR2
            cases nd'
            · clear hnn
              (generalize hA0 : Act.mk _ _ = A0; refine wp_region_still_tail 19 (by kernel_rfl) (by kernel_rfl) ?_; simp only [List.take_succ_cons, List.take_zero, List.drop_succ_cons, List.drop_zero]; (iterate 3 (refine st_want (by rw [← hA0]; rfl) (fun K hK => ?_); subst hA0; go_simp; generalize hA0 : Act.mk _ _ = A0; refine hK A0 ?_; clear hK K)); (iterate 7 (refine st_skip (by rw [← hA0]; rfl) (fun K hK => ?_); subst hA0; go_simp; generalize hA0 : Act.mk _ _ = A0; refine hK A0 ?_; clear hK K)); (iterate 9 (refine st_want (by rw [← hA0]; rfl) (fun K hK => ?_); subst hA0; go_simp; generalize hA0 : Act.mk _ _ = A0; refine hK A0 ?_; clear hK K)); refine wpStill_nil ?_; subst hA0)
              change wpList _ _ _ _ _ W1.drew
              go_wp2_with fail
              rw [← Hxk.out]
              refine (Hic.out W1.drew hS1 (show B ≤ W1.heap.size by omega)).mono ?_
              rintro e w' ⟨rfl, hb2⟩
              rw [Hmt.out]
              go_wp2
              go_roundw
              case rel => exact ⟨j + 1, by omega, by go_num, hbr1.drew.trans (hb2.mono hbr1.size), HR3⟩
              case measure => simp [intOf]; omega
            · have nx : (xk == 0) = false := by simpa using hnn
              clear hnn
              (generalize hA0 : Act.mk _ _ = A0; refine wp_region_still_tail 19 (by kernel_rfl) (by kernel_rfl) ?_; simp only [List.take_succ_cons, List.take_zero, List.drop_succ_cons, List.drop_zero]; (iterate 19 (refine st_want (by rw [← hA0]; rfl) (fun K hK => ?_); subst hA0; go_simp; generalize hA0 : Act.mk _ _ = A0; refine hK A0 ?_; clear hK K)); refine wpStill_nil ?_; subst hA0)
              change wpList _ _ _ _ _ W1.drew
              go_wp2_with fail
              rw [← Hxk.out]
              refine (Hic.out W1.drew hS1 (show B ≤ W1.heap.size by omega)).mono ?_
              rintro e w' ⟨rfl, hb2⟩
              rw [Hmt.out]
              go_wp2
              go_roundw
              case rel => exact ⟨j + 1, by omega, by go_num, hbr1.drew.trans (hb2.mono hbr1.size), HR3⟩
              case measure => simp [intOf]; omega
          · have HR3 : Hid (true = R) := by rw [hmt, Bool.true_or] at HR2; exact HR2
            have Hmt := Lib.hid hmt
            clear hmt HR2
            cases nd'
            · clear hnn
              (generalize hA0 : Act.mk _ _ = A0; refine wp_region_still_tail 19 (by kernel_rfl) (by kernel_rfl) ?_; simp only [List.take_succ_cons, List.take_zero, List.drop_succ_cons, List.drop_zero]; (iterate 3 (refine st_want (by rw [← hA0]; rfl) (fun K hK => ?_); subst hA0; go_simp; generalize hA0 : Act.mk _ _ = A0; refine hK A0 ?_; clear hK K)); (iterate 7 (refine st_skip (by rw [← hA0]; rfl) (fun K hK => ?_); subst hA0; go_simp; generalize hA0 : Act.mk _ _ = A0; refine hK A0 ?_; clear hK K)); (iterate 9 (refine st_want (by rw [← hA0]; rfl) (fun K hK => ?_); subst hA0; go_simp; generalize hA0 : Act.mk _ _ = A0; refine hK A0 ?_; clear hK K)); refine wpStill_nil ?_; subst hA0)
              change wpList _ _ _ _ _ W1.drew
              go_wp2_with fail
              rw [← Hxk.out]
              refine (Hic.out W1.drew hS1 (show B ≤ W1.heap.size by omega)).mono ?_
              rintro e w' ⟨rfl, hb2⟩
              rw [Hmt.out]
              go_wp2
              go_ret
              exact ⟨by rw [← HR3.out]; rfl, hbw.trans ((hbr1.drew.trans (hb2.mono hbr1.size)).mono (by omega))⟩
            · have nx : (xk == 0) = false := by simpa using hnn
              clear hnn
              (generalize hA0 : Act.mk _ _ = A0; refine wp_region_still_tail 19 (by kernel_rfl) (by kernel_rfl) ?_; simp only [List.take_succ_cons, List.take_zero, List.drop_succ_cons, List.drop_zero]; (iterate 19 (refine st_want (by rw [← hA0]; rfl) (fun K hK => ?_); subst hA0; go_simp; generalize hA0 : Act.mk _ _ = A0; refine hK A0 ?_; clear hK K)); refine wpStill_nil ?_; subst hA0)
              change wpList _ _ _ _ _ W1.drew
              go_wp2_with fail
              rw [← Hxk.out]
              refine (Hic.out W1.drew hS1 (show B ≤ W1.heap.size by omega)).mono ?_
              rintro e w' ⟨rfl, hb2⟩
              rw [Hmt.out]
              go_wp2
              go_ret
              exact ⟨by rw [← HR3.out]; rfl, hbw.trans ((hbr1.drew.trans (hb2.mono hbr1.size)).mono (by omega))⟩
      · have HR3 : Hid (false = R) := by have := HRj.out; rw [List.drop_eq_nil_of_le (by rw [hlen.out]; omega)] at this; unfold misI at this; exact this
        go_wp2
        go_ret
        exact ⟨by rw [← HR3.out]; rfl, hbw.trans (hbr.mono (by omega))⟩
  · have e6 : (tk == 6) = false := by simpa using h6
    have H6 := Lib.hid h6
    clear h6
    have hbw : Below w.heap.size w ((w.alloc (.cells #[.int .i64 tk, .int .i64 tsc, .slice TA flen tcap] 50)).alloc (.cells #[.int .i64 k, .int .i64 n, .int .i64 sc, .string s, .slice A len cap] 61)) := bel2 _ _ _
    obtain ⟨W0, hW0⟩ : ∃ W0, ((w.alloc (.cells #[.int .i64 tk, .int .i64 tsc, .slice TA flen tcap] 50)).alloc (.cells #[.int .i64 k, .int .i64 n, .int .i64 sc, .string s, .slice A len cap] 61)) = W0 := ⟨_, rfl⟩
    have hsz : w.heap.size + 1 < W0.heap.size := by rw [← hW0]; simp
    have hb0 : W0.cell? ⟨w.heap.size, 0, none⟩ = some (.int .i64 tk) := by rw [← hW0]; simp
    have hb2 : W0.cell? ⟨w.heap.size, 2, none⟩ = some (.slice TA flen tcap) := by rw [← hW0]; simp
    have hb4 : W0.cell? ⟨w.heap.size + 1, 4, none⟩ = some (.slice A len cap) := by rw [← hW0]; simp
    rw [hW0] at hbw
    have hS0 := Same.mono (Same.of_below hbw) hB
    have hrW := hr.keep hS0
    have htrW := htr.keep hS0
    have hlW := fun x (hx : x ∈ l) => (hl x hx).keep hS0
    have htlW := fun x (hx : x ∈ fl) => (htl x hx).keep hS0
    have HW0 := Lib.hid hW0
    clear hW0 hr htr hl htl hS0
    go_enter Tryz.func61, Tryz.ntmps61
    go_wp2_with fail
    rw [HW0.out]
    clear HW0
    go_loopw [11] (fun i wr => ∃ j : Nat, j ≤ len ∧ i = .int .i64 j ∧ Below W0.heap.size W0 wr ∧ Hid (misI tk fl j (l.drop j) = R)) (fun i _ => len - (intOf i).toNat)
    case atStart => exact ⟨0, Nat.zero_le _, rfl, Below.refl _ _, HR⟩
    case round =>
      obtain ⟨j, hj, rfl, hbr, HRj⟩ := hrel
      by_cases hlt : j < len
      · have hSr : Same B W0 wr := Same.mono (Same.of_below hbr) (by omega)
        obtain ⟨x, ad, hx, rfl, hb, d0, d1, d2, d3, d4⟩ := (hrW.keep hSr).get (show j < l.length by rw [hlen.out]; exact hlt)
        obtain ⟨tx, hfd, hofx⟩ := hitems j x hx
        have htx : fl[j]? = some tx := by have := hfd; unfold fldAt at this; rw [if_neg H6.out] at this; exact this
        obtain ⟨tx', tad, htx', rfl, htb, e0, e1, e2, e3, e4, e5⟩ := (htrW.keep hSr).get (show j < fl.length from (List.getElem?_eq_some_iff.1 htx).1)
        obtain rfl : tx' = tx := by rw [htx] at htx'; injection htx' with h; exact h.symm
        have hqf : j < flen := by rw [← hflen.out]; exact (List.getElem?_eq_some_iff.1 htx).1
        have htadb' : (tad.add (j * 6)).block < wr.heap.size := by rw [block_add]; have := hbr.size; omega
        have hic := fun (w2 : World) (hs2 : Same B wr w2) (hB2 : B ≤ w2.heap.size) => ih x (mem_of_get? hx) tx' B w2 ((hlW x (mem_of_get? hx)).keep (hSr.trans hs2)) ((htlW tx' (mem_of_get? htx)).keep (hSr.trans hs2)) (htox tx' (mem_of_get? htx)) (hvox x (mem_of_get? hx)) hofx hB2
        clear hofx
        have HR2 := HRj.out
        rw [drop_of_get? hx] at HR2
        unfold misI at HR2
        rw [hfd] at HR2
        simp only [] at HR2
        have c0 := (hbr.cell (p := ⟨w.heap.size, 0, none⟩) (by show w.heap.size < _; omega)).trans hb0
        have c2 := (hbr.cell (p := ⟨w.heap.size, 2, none⟩) (by show w.heap.size < _; omega)).trans hb2
        have c4 := (hbr.cell (p := ⟨w.heap.size + 1, 4, none⟩) (by show w.heap.size + 1 < _; omega)).trans hb4
        have hzr : W0.heap.size ≤ wr.heap.size := hbr.size
        have hadb : ad.block < wr.heap.size := by omega
        have htadb : tad.block < wr.heap.size := by omega
        have hadb' : (ad.add (j * 5)).block < wr.heap.size := by rw [block_add]; exact hadb
        have Hic := Lib.hid hic
        clear hic ih hrW htrW hlW htlW htox hvox hfd hx htx htx' hb0 hb2 hb4 hitems
        obtain ⟨xk, hxk⟩ : ∃ xk, x.a.k = xk := ⟨_, rfl⟩
        rw [hxk] at d0 HR2
        have Hxk := Lib.hid hxk
        clear hxk
        obtain ⟨nd', hnd⟩ : ∃ nd', tx'.a.nd = nd' := ⟨_, rfl⟩
        rw [hnd] at e2 HR2
        clear hnd
        obtain ⟨o1, ho1⟩ : ∃ o1, Obj.cells #[.int .i64 tx'.a.id, .string tx'.a.nm, .bool nd', .int .i64 tx'.a.k, .int .i64 tx'.a.sc, .slice tx'.a.A tx'.l.length tx'.a.cap] 84 = o1 := ⟨_, rfl⟩
        obtain ⟨W1, hW1⟩ : ∃ W1, wr.alloc o1 = W1 := ⟨_, rfl⟩
        have f2 : W1.cell? ⟨wr.heap.size, 2, none⟩ = some (.bool nd') := by rw [← hW1, ← ho1, cell_new]; rfl
        have f3 : W1.cell? ⟨wr.heap.size, 3, none⟩ = some (.int .i64 tx'.a.k) := by rw [← hW1, ← ho1, cell_new]; rfl
        have f4 : W1.cell? ⟨wr.heap.size, 4, none⟩ = some (.int .i64 tx'.a.sc) := by rw [← hW1, ← ho1, cell_new]; rfl
        have f5 : W1.cell? ⟨wr.heap.size, 5, none⟩ = some (.slice tx'.a.A tx'.l.length tx'.a.cap) := by rw [← hW1, ← ho1, cell_new]; rfl
        have g4 : W1.cell? ⟨w.heap.size + 1, 4, none⟩ = some (.slice (some ad) len cap) := by rw [← hW1]; exact cell_old c4 _
        have g0 : W1.cell? (ad.add (j * 5)) = some (.int .i64 xk) := by rw [← hW1]; exact cell_old d0 _
        have g1 : W1.cell? ⟨(ad.add (j * 5)).block, (ad.add (j * 5)).off + 1, none⟩ = some (.int .i64 x.a.n) := by rw [← hW1]; exact cell_old d1 _
        have g2 : W1.cell? ⟨(ad.add (j * 5)).block, (ad.add (j * 5)).off + 2, none⟩ = some (.int .i64 x.a.sc) := by rw [← hW1]; exact cell_old d2 _
        have g3 : W1.cell? ⟨(ad.add (j * 5)).block, (ad.add (j * 5)).off + 3, none⟩ = some (.string x.a.s) := by rw [← hW1]; exact cell_old d3 _
        have g5 : W1.cell? ⟨(ad.add (j * 5)).block, (ad.add (j * 5)).off + 4, none⟩ = some (.slice x.a.A x.l.length x.a.cap) := by rw [← hW1]; exact cell_old d4 _
        have hbr1 : Below W0.heap.size W0 W1 := by rw [← hW1]; exact hbr.alloc hzr _
        have hS1 : Same B wr W1 := by rw [← hW1]; exact (Same.refl B wr).alloc (by omega) _
        have hz1 : W0.heap.size ≤ W1.heap.size := hbr1.size
        have HW1 := Lib.hid hW1
        have Ho1 := Lib.hid ho1
        clear hW1 ho1
        go_wp2_with fail
        rw [Ho1.out, HW1.out]
        clear c0 c2 c4 d0 d1 d2 d3 d4 e0 e1 e2 e3 e4 e5 Ho1 HW1 hbr
        by_cases hnull : nd' = true ∧ xk = 0
        · obtain ⟨rfl, rfl⟩ := hnull
          have HR3 : Hid (true = R) := by rw [← HR2]; simp [Hid]
          clear HR2
          go_quiet (fail)
          go_wp2
          go_ret
          exact ⟨by rw [← HR3.out]; rfl, hbw.trans ((below_drewN hbr1 _).mono (by omega))⟩
        · have hnn : (nd' && (xk == 0)) = false := by
            rw [Bool.eq_false_iff]; intro h; rw [Bool.and_eq_true] at h; exact hnull ⟨h.1, by simpa using h.2⟩
          rw [hnn, Bool.false_or] at HR2
          clear hnull
          cases hmt : misT tx' x
          · have HR3 : Hid (misI tk fl (j + 1) (l.drop (j + 1)) = R) := by rw [hmt, Bool.false_or] at HR2; exact HR2
            have Hmt := Lib.hid hmt
            clear hmt HR2
            cases nd'
            · clear hnn
              (generalize hA0 : Act.mk _ _ = A0; refine wp_region_still_tail 19 (by kernel_rfl) (by kernel_rfl) ?_; simp only [List.take_succ_cons, List.take_zero, List.drop_succ_cons, List.drop_zero]; (iterate 3 (refine st_want (by rw [← hA0]; rfl) (fun K hK => ?_); subst hA0; go_simp; generalize hA0 : Act.mk _ _ = A0; refine hK A0 ?_; clear hK K)); (iterate 7 (refine st_skip (by rw [← hA0]; rfl) (fun K hK => ?_); subst hA0; go_simp; generalize hA0 : Act.mk _ _ = A0; refine hK A0 ?_; clear hK K)); (iterate 9 (refine st_want (by rw [← hA0]; rfl) (fun K hK => ?_); subst hA0; go_simp; generalize hA0 : Act.mk _ _ = A0; refine hK A0 ?_; clear hK K)); refine wpStill_nil ?_; subst hA0)
              change wpList _ _ _ _ _ W1.drew
              go_wp2_with fail
              rw [← Hxk.out]
              refine (Hic.out W1.drew hS1 (show B ≤ W1.heap.size by omega)).mono ?_
              rintro e w' ⟨rfl, hb2⟩
              rw [Hmt.out]
              go_wp2
              go_roundw
              case rel => exact ⟨j + 1, by omega, by go_num, hbr1.drew.trans (hb2.mono hbr1.size), HR3⟩
              case measure => simp [intOf]; omega
            · have nx : (xk == 0) = false := by simpa using hnn
              clear hnn
              (generalize hA0 : Act.mk _ _ = A0; refine wp_region_still_tail 19 (by kernel_rfl) (by kernel_rfl) ?_; simp only [List.take_succ_cons, List.take_zero, List.drop_succ_cons, List.drop_zero]; (iterate 19 (refine st_want (by rw [← hA0]; rfl) (fun K hK => ?_); subst hA0; go_simp; generalize hA0 : Act.mk _ _ = A0; refine hK A0 ?_; clear hK K)); refine wpStill_nil ?_; subst hA0)
              change wpList _ _ _ _ _ W1.drew
              go_wp2_with fail
              rw [← Hxk.out]
              refine (Hic.out W1.drew hS1 (show B ≤ W1.heap.size by omega)).mono ?_
              rintro e w' ⟨rfl, hb2⟩
              rw [Hmt.out]
              go_wp2
              go_roundw
              case rel => exact ⟨j + 1, by omega, by go_num, hbr1.drew.trans (hb2.mono hbr1.size), HR3⟩
              case measure => simp [intOf]; omega
          · have HR3 : Hid (true = R) := by rw [hmt, Bool.true_or] at HR2; exact HR2
            have Hmt := Lib.hid hmt
            clear hmt HR2
            cases nd'
            · clear hnn
              (generalize hA0 : Act.mk _ _ = A0; refine wp_region_still_tail 19 (by kernel_rfl) (by kernel_rfl) ?_; simp only [List.take_succ_cons, List.take_zero, List.drop_succ_cons, List.drop_zero]; (iterate 3 (refine st_want (by rw [← hA0]; rfl) (fun K hK => ?_); subst hA0; go_simp; generalize hA0 : Act.mk _ _ = A0; refine hK A0 ?_; clear hK K)); (iterate 7 (refine st_skip (by rw [← hA0]; rfl) (fun K hK => ?_); subst hA0; go_simp; generalize hA0 : Act.mk _ _ = A0; refine hK A0 ?_; clear hK K)); (iterate 9 (refine st_want (by rw [← hA0]; rfl) (fun K hK => ?_); subst hA0; go_simp; generalize hA0 : Act.mk _ _ = A0; refine hK A0 ?_; clear hK K)); refine wpStill_nil ?_; subst hA0)
              change wpList _ _ _ _ _ W1.drew
              go_wp2_with fail
              rw [← Hxk.out]
              refine (Hic.out W1.drew hS1 (show B ≤ W1.heap.size by omega)).mono ?_
              rintro e w' ⟨rfl, hb2⟩
              rw [Hmt.out]
              go_wp2
              go_ret
              exact ⟨by rw [← HR3.out]; rfl, hbw.trans ((hbr1.drew.trans (hb2.mono hbr1.size)).mono (by omega))⟩
            · have nx : (xk == 0) = false := by simpa using hnn
              clear hnn
              (generalize hA0 : Act.mk _ _ = A0; refine wp_region_still_tail 19 (by kernel_rfl) (by kernel_rfl) ?_; simp only [List.take_succ_cons, List.take_zero, List.drop_succ_cons, List.drop_zero]; (iterate 19 (refine st_want (by rw [← hA0]; rfl) (fun K hK => ?_); subst hA0; go_simp; generalize hA0 : Act.mk _ _ = A0; refine hK A0 ?_; clear hK K)); refine wpStill_nil ?_; subst hA0)
              change wpList _ _ _ _ _ W1.drew
              go_wp2_with fail
              rw [← Hxk.out]
              refine (Hic.out W1.drew hS1 (show B ≤ W1.heap.size by omega)).mono ?_
              rintro e w' ⟨rfl, hb2⟩
              rw [Hmt.out]
              go_wp2
              go_ret
              exact ⟨by rw [← HR3.out]; rfl, hbw.trans ((hbr1.drew.trans (hb2.mono hbr1.size)).mono (by omega))⟩
      · have HR3 : Hid (false = R) := by have := HRj.out; rw [List.drop_eq_nil_of_le (by rw [hlen.out]; omega)] at this; unfold misI at this; exact this
        go_wp2
        go_ret
        exact ⟨by rw [← HR3.out]; rfl, hbw.trans (hbr.mono (by omega))⟩
end Go.Proofs.YtkadahfknccjfaaGreatDoor
