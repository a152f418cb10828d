/-
  The reference of package value: values of a type.
-/
import Derived.Test.YtkadahfknccjfaaGreatDoorQData3
import Derived.Test.YtkadahfknccjfaaGreatDoorQSpec2
import Derived.Test.YtkadahfknccjfaaGreatDoorQRefE
import Derived.StillTailTactics
namespace Go.Proofs.YtkadahfknccjfaaGreatDoor
open Go.RowKit
set_option maxRecDepth 100000 in
set_option maxHeartbeats 4000000 in
theorem rof_any : ∀ (v : VT) (t : FT) (B : Nat) (w : World), VT.In B w v → FT.In B w t → TOk t → VOk v → B ≤ w.heap.size →
    Calls Tryz.prog 60 #[.agg #[.int .i64 t.a.k, .int .i64 t.a.sc, .slice t.a.A t.l.length t.a.cap], .agg #[.int .i64 v.a.k, .int .i64 v.a.n, .int .i64 v.a.sc, .string v.a.s, .slice v.a.A v.l.length v.a.cap]] w
      fun e w' => e = .returned (.bool (ofT t v)) ∧ Below w.heap.size w w' := by
  refine VT.ind fun a l ih t B w hin htin hto hvo hB => ?_
  obtain ⟨f, fl⟩ := t
  obtain ⟨id, nm, nd, tk, tsc, TA, tcap⟩ := f
  obtain ⟨k, n, sc, s, A, cap⟩ := a
  obtain ⟨_, _, _, hss, hr, hl⟩ := hin.parts
  obtain ⟨_, _, _, _, htr, htl⟩ := htin.parts
  obtain ⟨htk1, htk7, htk6, htsc, htox⟩ := hto.inv
  obtain ⟨hvl, hvs, hvox⟩ := hvo.inv
  simp only [VT.a_node, VT.l_node, FT.a_node, FT.l_node] at *
  obtain ⟨len, hlen⟩ : ∃ len, l.length = len := ⟨_, rfl⟩
  have hll : len ≤ 9223372036854775807 := by rw [← hlen]; exact Nat.le_trans hr.1 hr.2.1
  obtain ⟨flen, hflen⟩ : ∃ flen, fl.length = flen := ⟨_, rfl⟩
  have hfll : flen ≤ 9223372036854775807 := by rw [← hflen]; exact Nat.le_trans htr.1 htr.2.1
  obtain ⟨R, hR⟩ : ∃ R, ofT (.node ⟨id, nm, nd, tk, tsc, TA, tcap⟩ fl) (.node ⟨k, n, sc, s, A, cap⟩ l) = R := ⟨_, rfl⟩
  rw [hR]
  unfold ofT at hR
  simp only [] at hR
  rw [hlen, hflen] at hR ⊢
  have hlen := Lib.hid hlen
  have hflen := Lib.hid hflen
  clear hin htin hto hvo hvs htsc hss
  by_cases hk0 : k = 0
  · subst hk0
    have HR := Lib.hid (show true = R by rw [← hR, if_pos rfl])
    clear ih hr htr hl htl htox hvox hvl htk6 hR
    go_enter Tryz.func60, Tryz.ntmps60
    go_wp2_with fail
    go_ret
    exact ⟨by rw [← HR.out]; rfl, (by first | exact Below.refl _ _ | exact bel1 _ _ | exact bel2 _ _ _ | exact bel3 _ _ _ _ | assumption)⟩
  rw [if_neg hk0] at hR
  have nk0 : (k == 0) = false := by simpa using hk0
  by_cases hkt : k = tk
  · subst hkt
    rw [if_neg (by simp)] at hR
    by_cases hsc : sc = tsc
    · subst hsc
      rw [if_neg (by simp)] at hR
      clear hk0
      by_cases h7 : k = 7
      · subst h7
        by_cases hln : len = flen
        · subst hln
          have HR : Hid (ofI 7 fl 0 l = R) := by rw [if_neg (by simp)] at hR; exact hR
          clear hR hvl htk6 htk1 htk7
          have hbw : Below w.heap.size w ((w.alloc (.cells #[.int .i64 7, .int .i64 sc, .slice TA len tcap] 50)).alloc (.cells #[.int .i64 7, .int .i64 n, .int .i64 sc, .string s, .slice A len cap] 61)) := ((Below.refl _ _).alloc (Nat.le_refl _) _).alloc (by simp) _
          obtain ⟨W0, hW0⟩ : ∃ W0, ((w.alloc (.cells #[.int .i64 7, .int .i64 sc, .slice TA len tcap] 50)).alloc (.cells #[.int .i64 7, .int .i64 n, .int .i64 sc, .string s, .slice A len cap] 61)) = W0 := ⟨_, rfl⟩
          have hsz : w.heap.size + 1 < W0.heap.size := by rw [← hW0]; simp
          have hb0 : W0.cell? ⟨w.heap.size, 0, none⟩ = some (.int .i64 7) := by rw [← hW0]; simp
          have hb2 : W0.cell? ⟨w.heap.size, 2, none⟩ = some (.slice TA len tcap) := by rw [← hW0]; simp
          have hb4 : W0.cell? ⟨w.heap.size + 1, 4, none⟩ = some (.slice A len cap) := by rw [← hW0]; simp
          rw [hW0] at hbw
          have hS0 := Same.mono (Same.of_below hbw) hB
          have hrW := hr.keep hS0
          have htrW := htr.keep hS0
          have hlW := fun x (hx : x ∈ l) => (hl x hx).keep hS0
          have htlW := fun x (hx : x ∈ fl) => (htl x hx).keep hS0
          have HW0 := Lib.hid hW0
          clear hW0 hr htr hl htl hS0
          go_enter Tryz.func60, Tryz.ntmps60
          go_wp2_with fail
          rw [HW0.out]
          clear HW0
          go_loopw [37] (fun i wr => ∃ j : Nat, j ≤ len ∧ i = .int .i64 j ∧ Below W0.heap.size W0 wr ∧ Hid (ofI 7 fl j (l.drop j) = R)) (fun i _ => len - (intOf i).toNat)
          case atStart => exact ⟨0, Nat.zero_le _, rfl, Below.refl _ _, HR⟩
          case round =>
            obtain ⟨j, hj, rfl, hbr, HRj⟩ := hrel
            by_cases hlt : j < len
            · have hSr : Same B W0 wr := Same.mono (Same.of_below hbr) (by omega)
              obtain ⟨x, ad, hx, rfl, hb, d0, d1, d2, d3, d4⟩ := (hrW.keep hSr).get (show j < l.length by rw [hlen.out]; exact hlt)
              obtain ⟨tx, tad, htx, rfl, htb, _, _, _, e3, e4, e5⟩ := (htrW.keep hSr).get (show j < fl.length by rw [hflen.out]; omega)
              have hic := fun (w2 : World) (hs2 : Same B wr w2) (hB2 : B ≤ w2.heap.size) => ih x (mem_of_get? hx) tx B w2 ((hlW x (mem_of_get? hx)).keep (hSr.trans hs2)) ((htlW tx (mem_of_get? htx)).keep (hSr.trans hs2)) (htox tx (mem_of_get? htx)) (hvox x (mem_of_get? hx)) hB2
              skip
              have hfd : fldAt 7 fl j = some tx := by unfold fldAt; rw [if_neg (by simp)]; exact htx
              have HR2 := HRj.out
              rw [drop_of_get? hx] at HR2
              unfold ofI at HR2
              rw [hfd] at HR2
              simp only [] at HR2
              have c0 := (hbr.cell (p := ⟨w.heap.size, 0, none⟩) (by show w.heap.size < _; omega)).trans hb0
              have c2 := (hbr.cell (p := ⟨w.heap.size, 2, none⟩) (by show w.heap.size < _; omega)).trans hb2
              have c4 := (hbr.cell (p := ⟨w.heap.size + 1, 4, none⟩) (by show w.heap.size + 1 < _; omega)).trans hb4
              have hzr : W0.heap.size ≤ wr.heap.size := hbr.size
              have Hic := Lib.hid hic
              clear hic ih hrW htrW hlW htlW htox hvox hfd hx htx hb0 hb2 hb4
              cases hoft : ofT tx x
              · have Hof := Lib.hid hoft
                have HR3 : Hid (false = R) := by rw [hoft] at HR2; exact HR2
                clear hoft HR2 HRj
                go_wp2_with fail
                go_still_tail 11, (by kernel_rfl)
                change wpList _ _ _ _ _ wr.drew
                go_wp2_with fail
                refine (Hic.out wr.drew (fun _ _ => rfl) (show B ≤ wr.heap.size by omega)).mono ?_
                rintro e w' ⟨rfl, hb2⟩
                rw [Hof.out]
                go_wp2
                go_ret
                exact ⟨by rw [← HR3.out]; rfl, hbw.trans ((hbr.drew.trans (hb2.mono hbr.size)).mono (by omega))⟩
              · have Hof := Lib.hid hoft
                have HR3 : Hid (ofI 7 fl (j + 1) (l.drop (j + 1)) = R) := by rw [hoft] at HR2; exact HR2
                clear hoft HR2 HRj
                go_wp2_with fail
                go_still_tail 11, (by kernel_rfl)
                change wpList _ _ _ _ _ wr.drew
                go_wp2_with fail
                refine (Hic.out wr.drew (fun _ _ => rfl) (show B ≤ wr.heap.size by omega)).mono ?_
                rintro e w' ⟨rfl, hb2⟩
                rw [Hof.out]
                go_wp2
                go_roundw
                case rel => exact ⟨j + 1, by omega, by go_num, hbr.drew.trans (hb2.mono hbr.size), HR3⟩
                case measure => simp [intOf]; omega
            · have HR3 : Hid (true = R) := by have := HRj.out; rw [List.drop_eq_nil_of_le (by rw [hlen.out]; omega)] at this; unfold ofI at this; exact this
              go_wp2
              go_ret
              exact ⟨by rw [← HR3.out]; rfl, hbw.trans (hbr.mono (by omega))⟩
        · have HR := Lib.hid (show false = R by rw [← hR, if_pos ⟨rfl, hln⟩])
          have nl : ((len : Int) != (flen : Int)) = true := by simp; omega
          clear ih hr htr hl htl htox hvox hvl htk6 hR hln
          go_enter Tryz.func60, Tryz.ntmps60
          go_wp2_with fail
          go_ret
          exact ⟨by rw [← HR.out]; rfl, (by first | exact Below.refl _ _ | exact bel1 _ _ | exact bel2 _ _ _ | exact bel3 _ _ _ _ | assumption)⟩
      · have e7 : (k == 7) = false := by simpa using h7
        have HR : Hid (ofI k fl 0 l = R) := by rw [if_neg (by simp [h7])] at hR; exact hR
        clear hR
        by_cases h6 : k = 6
        · subst h6
          have hfl1 : flen = 1 := by rw [← hflen.out]; exact htk6 rfl
          subst hfl1
          clear hvl htk6 htk1 htk7 h7 nk0 e7
          have hbw : Below w.heap.size w ((w.alloc (.cells #[.int .i64 6, .int .i64 sc, .slice TA 1 tcap] 50)).alloc (.cells #[.int .i64 6, .int .i64 n, .int .i64 sc, .string s, .slice A len cap] 61)) := ((Below.refl _ _).alloc (Nat.le_refl _) _).alloc (by simp) _
          obtain ⟨W0, hW0⟩ : ∃ W0, ((w.alloc (.cells #[.int .i64 6, .int .i64 sc, .slice TA 1 tcap] 50)).alloc (.cells #[.int .i64 6, .int .i64 n, .int .i64 sc, .string s, .slice A len cap] 61)) = W0 := ⟨_, rfl⟩
          have hsz : w.heap.size + 1 < W0.heap.size := by rw [← hW0]; simp
          have hb0 : W0.cell? ⟨w.heap.size, 0, none⟩ = some (.int .i64 6) := by rw [← hW0]; simp
          have hb2 : W0.cell? ⟨w.heap.size, 2, none⟩ = some (.slice TA 1 tcap) := by rw [← hW0]; simp
          have hb4 : W0.cell? ⟨w.heap.size + 1, 4, none⟩ = some (.slice A len cap) := by rw [← hW0]; simp
          rw [hW0] at hbw
          have hS0 := Same.mono (Same.of_below hbw) hB
          have hrW := hr.keep hS0
          have htrW := htr.keep hS0
          have hlW := fun x (hx : x ∈ l) => (hl x hx).keep hS0
          have htlW := fun x (hx : x ∈ fl) => (htl x hx).keep hS0
          have HW0 := Lib.hid hW0
          clear hW0 hr htr hl htl hS0
          go_enter Tryz.func60, Tryz.ntmps60
          go_wp2_with fail
          rw [HW0.out]
          clear HW0
          go_loopw [37] (fun i wr => ∃ j : Nat, j ≤ len ∧ i = .int .i64 j ∧ Below W0.heap.size W0 wr ∧ Hid (ofI 6 fl j (l.drop j) = R)) (fun i _ => len - (intOf i).toNat)
          case atStart => exact ⟨0, Nat.zero_le _, rfl, Below.refl _ _, HR⟩
          case round =>
            obtain ⟨j, hj, rfl, hbr, HRj⟩ := hrel
            by_cases hlt : j < len
            · have hSr : Same B W0 wr := Same.mono (Same.of_below hbr) (by omega)
              obtain ⟨x, ad, hx, rfl, hb, d0, d1, d2, d3, d4⟩ := (hrW.keep hSr).get (show j < l.length by rw [hlen.out]; exact hlt)
              obtain ⟨tx, tad, htx, rfl, htb, _, _, _, e3, e4, e5⟩ := (htrW.keep hSr).get (show 0 < fl.length by rw [hflen.out]; omega)
              have hic := fun (w2 : World) (hs2 : Same B wr w2) (hB2 : B ≤ w2.heap.size) => ih x (mem_of_get? hx) tx B w2 ((hlW x (mem_of_get? hx)).keep (hSr.trans hs2)) ((htlW tx (mem_of_get? htx)).keep (hSr.trans hs2)) (htox tx (mem_of_get? htx)) (hvox x (mem_of_get? hx)) hB2
              rw [show tad.add (0 * 6) = tad from rfl] at e3 e4 e5
              have hfd : fldAt 6 fl j = some tx := by unfold fldAt; rw [if_pos rfl]; exact htx
              have HR2 := HRj.out
              rw [drop_of_get? hx] at HR2
              unfold ofI at HR2
              rw [hfd] at HR2
              simp only [] at HR2
              have c0 := (hbr.cell (p := ⟨w.heap.size, 0, none⟩) (by show w.heap.size < _; omega)).trans hb0
              have c2 := (hbr.cell (p := ⟨w.heap.size, 2, none⟩) (by show w.heap.size < _; omega)).trans hb2
              have c4 := (hbr.cell (p := ⟨w.heap.size + 1, 4, none⟩) (by show w.heap.size + 1 < _; omega)).trans hb4
              have hzr : W0.heap.size ≤ wr.heap.size := hbr.size
              have Hic := Lib.hid hic
              clear hic ih hrW htrW hlW htlW htox hvox hfd hx htx hb0 hb2 hb4
              cases hoft : ofT tx x
              · have Hof := Lib.hid hoft
                have HR3 : Hid (false = R) := by rw [hoft] at HR2; exact HR2
                clear hoft HR2 HRj
                go_wp2_with fail
                go_still_tail 11, (by kernel_rfl)
                change wpList _ _ _ _ _ wr.drew
                go_wp2_with fail
                refine (Hic.out wr.drew (fun _ _ => rfl) (show B ≤ wr.heap.size by omega)).mono ?_
                rintro e w' ⟨rfl, hb2⟩
                rw [Hof.out]
                go_wp2
                go_ret
                exact ⟨by rw [← HR3.out]; rfl, hbw.trans ((hbr.drew.trans (hb2.mono hbr.size)).mono (by omega))⟩
              · have Hof := Lib.hid hoft
                have HR3 : Hid (ofI 6 fl (j + 1) (l.drop (j + 1)) = R) := by rw [hoft] at HR2; exact HR2
                clear hoft HR2 HRj
                go_wp2_with fail
                go_still_tail 11, (by kernel_rfl)
                change wpList _ _ _ _ _ wr.drew
                go_wp2_with fail
                refine (Hic.out wr.drew (fun _ _ => rfl) (show B ≤ wr.heap.size by omega)).mono ?_
                rintro e w' ⟨rfl, hb2⟩
                rw [Hof.out]
                go_wp2
                go_roundw
                case rel => exact ⟨j + 1, by omega, by go_num, hbr.drew.trans (hb2.mono hbr.size), HR3⟩
                case measure => simp [intOf]; omega
            · have HR3 : Hid (true = R) := by have := HRj.out; rw [List.drop_eq_nil_of_le (by rw [hlen.out]; omega)] at this; unfold ofI at this; exact this
              go_wp2
              go_ret
              exact ⟨by rw [← HR3.out]; rfl, hbw.trans (hbr.mono (by omega))⟩
        · have hl0 := hvl h6 h7
          subst hl0
          obtain rfl : len = 0 := by rw [← hlen.out]; rfl
          have HR3 : Hid (true = R) := by have := HR.out; unfold ofI at this; exact this
          clear ih hr htr hl htl htox hvox hvl htk6 h6 h7 hlen
          go_enter Tryz.func60, Tryz.ntmps60
          go_wp2
          go_loop [37] (fun i => i = .int .i64 0) (fun _ => 0)
          case atStart => rfl
          case round =>
            subst hrel
            go_wp2
            go_ret
            exact ⟨by rw [← HR3.out]; rfl, (by first | exact Below.refl _ _ | exact bel1 _ _ | exact bel2 _ _ _ | exact bel3 _ _ _ _ | assumption)⟩
    · have HR := Lib.hid (show false = R by rw [← hR, if_pos hsc])
      have ns : (sc != tsc) = true := by simpa using hsc
      clear ih hr htr hl htl htox hvox hvl htk6 hR hsc
      go_enter Tryz.func60, Tryz.ntmps60
      go_wp2_with fail
      go_ret
      exact ⟨by rw [← HR.out]; rfl, (by first | exact Below.refl _ _ | exact bel1 _ _ | exact bel2 _ _ _ | exact bel3 _ _ _ _ | assumption)⟩
  · have HR := Lib.hid (show false = R by rw [← hR, if_pos hkt])
    have nkt : (k != tk) = true := by simpa using hkt
    clear ih hr htr hl htl htox hvox hvl htk6 hR hkt hk0
    go_enter Tryz.func60, Tryz.ntmps60
    go_wp2_with fail
    go_ret
    exact ⟨by rw [← HR.out]; rfl, (by first | exact Below.refl _ _ | exact bel1 _ _ | exact bel2 _ _ _ | exact bel3 _ _ _ _ | assumption)⟩
end Go.Proofs.YtkadahfknccjfaaGreatDoor
