/-
  Package value: values that are lacking.
-/
import Derived.Test.YtcpbbagppkcilaaDoorProg
import Derived.Test.YtcpbbagppkcilaaDoorSpec2
import Derived.Test.YtcpbbagppkcilaaDoorBox2
import Derived.Test.YtcpbbagppkcilaaDoorStill
import Derived.WalkLawsBesides
import Derived.WalkSpells
import Derived.Outline
import Derived.Lib.Hide
namespace Go.Proofs.YtcpbbagppkcilaaDoor
open Go.RowKit
set_option maxRecDepth 100000 in
set_option maxHeartbeats 1000000 in
theorem vfield0_any (tx : FT) (k sc : Int) (tad : Addr) (len tcap : Nat) (i : Int) (w : World) (hk : (k == 6) = true) (hl0 : 0 < len) (hl : len ≤ maxLen) (h : tx.At w tad) :
    Calls Tryd.prog 77 #[.agg #[.int .i64 k, .int .i64 sc, .slice (some tad) len tcap], .int .i64 i] w fun e w' => e = .returned (.agg #[.int .i64 tx.a.id, .string tx.a.nm, .bool tx.a.nd, .int .i64 tx.a.k, .int .i64 tx.a.sc, .slice tx.a.A tx.l.length tx.a.cap]) ∧ Below w.heap.size w w' := by
  unfold maxLen at hl
  obtain ⟨h0, h1, h2, h3, h4, h5⟩ := h
  have hb := cell_lt h0
  have ha : tad.add 0 = tad := rfl
  go_enter Tryd.func77, Tryd.ntmps77
  go_wp2
  exact bodyPost_ret (v := .agg #[.int .i64 tx.a.id, .string tx.a.nm, .bool tx.a.nd, .int .i64 tx.a.k, .int .i64 tx.a.sc, .slice tx.a.A tx.l.length tx.a.cap]) (by simp [results, Tryd.results77, go_sem]) rfl ⟨rfl, bel2 _ _ _⟩
set_option maxRecDepth 100000 in
set_option maxHeartbeats 1000000 in
theorem vfield_any (tx : FT) (k sc : Int) (tad : Addr) (len tcap j : Nat) (w : World) (hk : (k == 6) = false) (hj : j < len) (hl : len ≤ maxLen) (h : tx.At w (tad.add (j * 6))) :
    Calls Tryd.prog 77 #[.agg #[.int .i64 k, .int .i64 sc, .slice (some tad) len tcap], .int .i64 (j : Int)] w fun e w' => e = .returned (.agg #[.int .i64 tx.a.id, .string tx.a.nm, .bool tx.a.nd, .int .i64 tx.a.k, .int .i64 tx.a.sc, .slice tx.a.A tx.l.length tx.a.cap]) ∧ Below w.heap.size w w' := by
  unfold maxLen at hl
  obtain ⟨h0, h1, h2, h3, h4, h5⟩ := h
  have hb := cell_lt h0
  go_enter Tryd.func77, Tryd.ntmps77
  go_wp2
  exact bodyPost_ret (v := .agg #[.int .i64 tx.a.id, .string tx.a.nm, .bool tx.a.nd, .int .i64 tx.a.k, .int .i64 tx.a.sc, .slice tx.a.A tx.l.length tx.a.cap]) (by simp [results, Tryd.results77, go_sem]) rfl ⟨rfl, bel2 _ _ _⟩
set_option maxRecDepth 100000 in
set_option maxHeartbeats 4000000 in
theorem vlacks_any : ∀ (v : VT) (t : FT) (B : Nat) (w : World), VT.In B w v → FT.In B w t → TOk t → VOk v → ofT t v = true → B ≤ w.heap.size →
    Calls Tryd.prog 49 #[.agg #[.int .i64 t.a.k, .int .i64 t.a.sc, .slice t.a.A t.l.length t.a.cap], .agg #[.int .i64 v.a.k, .int .i64 v.a.n, .int .i64 v.a.sc, .string v.a.s, .slice v.a.A v.l.length v.a.cap]] w
      fun e w' => e = .returned (.bool (misT t v)) ∧ Below w.heap.size w w' := by
  refine VT.ind fun a l ih t B w hin htin hto hvo hof hB => ?_
  obtain ⟨f, fl⟩ := t
  obtain ⟨id, nm, nd, tk, tsc, TA, tcap⟩ := f
  obtain ⟨k, n, sc, s, A, cap⟩ := a
  obtain ⟨_, _, _, hss, hr, hl⟩ := hin.parts
  obtain ⟨_, _, _, _, htr, htl⟩ := htin.parts
  obtain ⟨htk1, htk7, htk6, htsc, htox⟩ := hto.inv
  obtain ⟨hvl, hvs, hvox⟩ := hvo.inv
  simp only [VT.a_node, VT.l_node, FT.a_node, FT.l_node] at *
  have hitems : ∀ (j : Nat) (x : VT), l[j]? = some x → ∃ t, fldAt tk fl j = some t ∧ ofT t x = true := by
    intro j x hx
    unfold ofT at hof
    simp only [] at hof
    by_cases hk0 : k = 0
    · have := hvl (by omega) (by omega); subst this; simp at hx
    rw [if_neg hk0] at hof
    repeat' split at hof
    · cases hof
    · cases hof
    · cases hof
    · have := ofI_items l 0 hof j x hx
      simpa using this
  obtain ⟨len, hlen⟩ : ∃ len, l.length = len := ⟨_, rfl⟩
  have hll : len ≤ 9223372036854775807 := by rw [← hlen]; exact Nat.le_trans hr.1 hr.2.1
  obtain ⟨flen, hflen⟩ : ∃ flen, fl.length = flen := ⟨_, rfl⟩
  have hfll : flen ≤ 9223372036854775807 := by rw [← hflen]; exact Nat.le_trans htr.1 htr.2.1
  obtain ⟨R, hR⟩ : ∃ R, misT (.node ⟨id, nm, nd, tk, tsc, TA, tcap⟩ fl) (.node ⟨k, n, sc, s, A, cap⟩ l) = R := ⟨_, rfl⟩
  rw [hR]
  unfold misT at hR
  simp only [] at hR
  rw [hlen, hflen]
  have hlen' := Lib.hid hlen
  have hflen' := Lib.hid hflen
  clear hlen hflen
  have hlen := hlen'
  have hflen := hflen'
  clear hlen' hflen'
  have HR := Lib.hid hR
  clear hin htin hto hvo hvs htsc hss hR hvl htk6 hof
  have hbw : Below w.heap.size w ((w.alloc (.cells #[.int .i64 tk, .int .i64 tsc, .slice TA flen tcap] 24)).alloc (.cells #[.int .i64 k, .int .i64 n, .int .i64 sc, .string s, .slice A len cap] 50)) := bel2 _ _ _
  obtain ⟨W0, hW0⟩ : ∃ W0, ((w.alloc (.cells #[.int .i64 tk, .int .i64 tsc, .slice TA flen tcap] 24)).alloc (.cells #[.int .i64 k, .int .i64 n, .int .i64 sc, .string s, .slice A len cap] 50)) = W0 := ⟨_, rfl⟩
  have hsz : w.heap.size + 1 < W0.heap.size := by rw [← hW0]; simp
  have hb0 : W0.cell? ⟨w.heap.size, 0, none⟩ = some (.int .i64 tk) := by rw [← hW0]; simp
  have hb1 : W0.cell? ⟨w.heap.size, 1, none⟩ = some (.int .i64 tsc) := by rw [← hW0]; simp
  have hb2 : W0.cell? ⟨w.heap.size, 2, none⟩ = some (.slice TA flen tcap) := by rw [← hW0]; simp
  rw [hW0] at hbw
  have hS0 := Same.mono (Same.of_below hbw) hB
  have hrW := hr.keep hS0
  have htrW := htr.keep hS0
  have hlW := fun x (hx : x ∈ l) => (hl x hx).keep hS0
  have htlW := fun x (hx : x ∈ fl) => (htl x hx).keep hS0
  have HW0 := Lib.hid hW0
  clear hW0 hr htr hl htl hS0
  go_enter Tryd.func49, Tryd.ntmps49
  go_wp2_with fail
  rw [HW0.out]
  clear HW0
  go_loopw [11] (fun i wr => ∃ j : Nat, j ≤ len ∧ i = .int .i64 j ∧ Below W0.heap.size W0 wr ∧ Hid (misI tk fl j (l.drop j) = R)) (fun i _ => len - (intOf i).toNat)
  case atStart => exact ⟨0, Nat.zero_le _, rfl, Below.refl _ _, HR⟩
  case round =>
    obtain ⟨j, hj, rfl, hbr, HRj⟩ := hrel
    by_cases hlt : j < len
    · have hSr : Same B W0 wr := Same.mono (Same.of_below hbr) (by omega)
      obtain ⟨x, ad, hx, rfl, hb, d0, d1, d2, d3, d4⟩ := (hrW.keep hSr).get (show j < l.length by rw [hlen.out]; exact hlt)
      obtain ⟨tx, hfd, hofx⟩ := hitems j x hx
      have hzr : W0.heap.size ≤ wr.heap.size := hbr.size
      obtain ⟨o1, ho1⟩ : ∃ o1, Obj.cells #[.int .i64 x.a.k, .int .i64 x.a.n, .int .i64 x.a.sc, .string x.a.s, .slice x.a.A x.l.length x.a.cap] 50 = o1 := ⟨_, rfl⟩
      obtain ⟨W1, hW1⟩ : ∃ W1, wr.alloc o1 = W1 := ⟨_, rfl⟩
      have hbW1 : Below wr.heap.size wr W1 := by rw [← hW1]; exact bel1 _ _
      have hz1 : wr.heap.size < W1.heap.size := by rw [← hW1]; simp
      have hbr1 : Below W0.heap.size W0 W1 := hbr.trans (hbW1.mono hzr)
      have hS1 : Same B W0 W1 := Same.mono (Same.of_below hbr1) (by omega)
      have p0 : W1.cell? ⟨wr.heap.size, 0, none⟩ = some (.int .i64 x.a.k) := by rw [← hW1, ← ho1, cell_new]; rfl
      have p1 : W1.cell? ⟨wr.heap.size, 1, none⟩ = some (.int .i64 x.a.n) := by rw [← hW1, ← ho1, cell_new]; rfl
      have p2 : W1.cell? ⟨wr.heap.size, 2, none⟩ = some (.int .i64 x.a.sc) := by rw [← hW1, ← ho1, cell_new]; rfl
      have p3 : W1.cell? ⟨wr.heap.size, 3, none⟩ = some (.string x.a.s) := by rw [← hW1, ← ho1, cell_new]; rfl
      have p4 : W1.cell? ⟨wr.heap.size, 4, none⟩ = some (.slice x.a.A x.l.length x.a.cap) := by rw [← hW1, ← ho1, cell_new]; rfl
      have hfc : Calls Tryd.prog 77 #[.agg #[.int .i64 tk, .int .i64 tsc, .slice TA flen tcap], .int .i64 (j : Int)] W1 fun e w' => e = .returned (.agg #[.int .i64 tx.a.id, .string tx.a.nm, .bool tx.a.nd, .int .i64 tx.a.k, .int .i64 tx.a.sc, .slice tx.a.A tx.l.length tx.a.cap]) ∧ Below W1.heap.size W1 w' := by
        unfold fldAt at hfd
        by_cases h6 : tk = 6
        · rw [if_pos h6] at hfd
          have hq : 0 < fl.length := (List.getElem?_eq_some_iff.1 hfd).1
          obtain ⟨tx', tad, htx', rfl, htb, hat⟩ := (htrW.keep hS1).get hq
          obtain rfl : tx' = tx := by rw [hfd] at htx'; injection htx' with h; exact h.symm
          exact vfield0_any tx' tk tsc tad flen tcap _ W1 (by simpa using h6) (by rw [← hflen.out]; exact hq) (by unfold maxLen; omega) hat
        · rw [if_neg h6] at hfd
          have hq : j < fl.length := (List.getElem?_eq_some_iff.1 hfd).1
          obtain ⟨tx', tad, htx', rfl, htb, hat⟩ := (htrW.keep hS1).get hq
          obtain rfl : tx' = tx := by rw [hfd] at htx'; injection htx' with h; exact h.symm
          exact vfield_any tx' tk tsc tad flen tcap j W1 (by simpa using h6) (by rw [← hflen.out]; exact hq) (by unfold maxLen; omega) hat
      have htxm : tx ∈ fl := by
        unfold fldAt at hfd
        split at hfd
        · exact mem_of_get? hfd
        · exact mem_of_get? hfd
      have hic := fun (w2 : World) (hs2 : Same B W1 w2) (hB2 : B ≤ w2.heap.size) => ih x (mem_of_get? hx) tx B w2 ((hlW x (mem_of_get? hx)).keep (hS1.trans hs2)) ((htlW tx htxm).keep (hS1.trans hs2)) (htox tx htxm) (hvox x (mem_of_get? hx)) hofx hB2
      have HR2 := HRj.out
      rw [drop_of_get? hx] at HR2
      unfold misI at HR2
      rw [hfd] at HR2
      simp only [] at HR2
      have c0 := (hbr.cell (p := ⟨w.heap.size, 0, none⟩) (by show w.heap.size < _; omega)).trans hb0
      have c1 := (hbr.cell (p := ⟨w.heap.size, 1, none⟩) (by show w.heap.size < _; omega)).trans hb1
      have c2 := (hbr.cell (p := ⟨w.heap.size, 2, none⟩) (by show w.heap.size < _; omega)).trans hb2
      have hlt0 : w.heap.size < wr.heap.size := by omega
      have Hic := Lib.hid hic
      have Hfc := Lib.hid hfc
      have HW1 := Lib.hid hW1
      have Ho1 := Lib.hid ho1
      have HR3 := Lib.hid HR2
      clear hic ih hrW htrW hlW htlW htox hvox hfd hx hb0 hb1 hb2 hitems hofx hfc hW1 ho1 HR2 HRj
      go_wp2_with fail
      rw [Ho1.out, HW1.out]
      refine Hfc.out.mono ?_
      rintro e w2 ⟨rfl, hbf⟩
      have hz2 : W1.heap.size ≤ w2.heap.size := hbf.size
      have r0 := (hbf.cell (p := ⟨wr.heap.size, 0, none⟩) hz1).trans p0
      have r1 := (hbf.cell (p := ⟨wr.heap.size, 1, none⟩) hz1).trans p1
      have r2 := (hbf.cell (p := ⟨wr.heap.size, 2, none⟩) hz1).trans p2
      have r3 := (hbf.cell (p := ⟨wr.heap.size, 3, none⟩) hz1).trans p3
      have r4 := (hbf.cell (p := ⟨wr.heap.size, 4, none⟩) hz1).trans p4
      have hlt2 : wr.heap.size < w2.heap.size := by omega
      have hSf : Same B W1 w2 := Same.mono (Same.of_below hbf) (by omega)
      have hic := Lib.hid (fun o => Hic.out (w2.alloc o) (hSf.alloc (by omega) o) (by simp; omega))
      have hbR : Below W0.heap.size W0 w2 := hbr1.trans (hbf.mono (by omega))
      have hfin : ∀ o, Below W0.heap.size W0 (w2.alloc o) := fun o => hbR.alloc (by omega) o
      have hfin := Lib.hid hfin
      clear p0 p1 p2 p3 p4 c0 c1 c2 d0 d1 d2 d3 d4 Hic Hfc Ho1 HW1 hbf
      obtain ⟨xk, hxk⟩ : ∃ xk, x.a.k = xk := ⟨_, rfl⟩
      rw [hxk] at r0
      have HR4 := HR3.out
      rw [hxk] at HR4
      have Hxk := Lib.hid hxk
      clear hxk HR3
      by_cases hk0 : xk = 0
      · have e0 : (xk == 0) = true := by simpa using hk0
        rw [e0, Bool.and_true] at HR4
        clear hk0
        cases hnd : tx.a.nd
        · rw [hnd, Bool.false_or] at HR4
          cases hmt : misT tx x
          · rw [hmt, Bool.false_or] at HR4
            have Hmt := Lib.hid hmt
            have HR5 := Lib.hid HR4
            clear hmt HR4
            go_wp2_with fail
            rw [← Hxk.out]
            refine (hic.out _).mono ?_
            rintro e w' ⟨rfl, hb2⟩
            rw [Hmt.out]
            go_wp2
            go_roundw
            case rel => exact ⟨j + 1, by omega, by go_num, (hfin.out _).trans (hb2.mono (by simp; omega)), HR5⟩
            case measure => simp [intOf]; omega
          · rw [hmt, Bool.true_or] at HR4
            have Hmt := Lib.hid hmt
            have HR5 := Lib.hid HR4
            clear hmt HR4
            go_wp2_with fail
            rw [← Hxk.out]
            refine (hic.out _).mono ?_
            rintro e w' ⟨rfl, hb2⟩
            rw [Hmt.out]
            go_wp2
            go_ret
            exact ⟨by rw [← HR5.out]; rfl, hbw.trans (((hfin.out _).trans (hb2.mono (by simp; omega))).mono (by omega))⟩
        · have HR5 : Hid (true = R) := by rw [← HR4, hnd]; simp [Hid]
          clear HR4
          go_wp2
          go_ret
          exact ⟨by rw [← HR5.out]; rfl, hbw.trans ((hfin.out _).mono (by omega))⟩
      · have e0 : (xk == 0) = false := by simpa using hk0
        rw [e0, Bool.and_false, Bool.false_or] at HR4
        clear hk0
        cases hmt : misT tx x
        · rw [hmt, Bool.false_or] at HR4
          have Hmt := Lib.hid hmt
          have HR5 := Lib.hid HR4
          clear hmt HR4
          go_wp2_with fail
          rw [← Hxk.out]
          refine (hic.out _).mono ?_
          rintro e w' ⟨rfl, hb2⟩
          rw [Hmt.out]
          go_wp2
          go_roundw
          case rel => exact ⟨j + 1, by omega, by go_num, (hfin.out _).trans (hb2.mono (by simp; omega)), HR5⟩
          case measure => simp [intOf]; omega
        · rw [hmt, Bool.true_or] at HR4
          have Hmt := Lib.hid hmt
          have HR5 := Lib.hid HR4
          clear hmt HR4
          go_wp2_with fail
          rw [← Hxk.out]
          refine (hic.out _).mono ?_
          rintro e w' ⟨rfl, hb2⟩
          rw [Hmt.out]
          go_wp2
          go_ret
          exact ⟨by rw [← HR5.out]; rfl, hbw.trans (((hfin.out _).trans (hb2.mono (by simp; omega))).mono (by omega))⟩
    · have HR3 : Hid (false = R) := by have := HRj.out; rw [List.drop_eq_nil_of_le (by rw [hlen.out]; omega)] at this; unfold misI at this; exact this
      go_wp2
      go_ret
      exact ⟨by rw [← HR3.out]; rfl, hbw.trans (hbr.mono (by omega))⟩
end Go.Proofs.YtcpbbagppkcilaaDoor
