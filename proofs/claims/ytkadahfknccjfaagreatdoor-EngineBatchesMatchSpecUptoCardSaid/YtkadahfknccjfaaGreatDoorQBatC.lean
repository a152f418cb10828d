/-
  Package engine: rows of types.
  The reference of package engine: rows of types.
-/
import Derived.Test.YtkadahfknccjfaaGreatDoorQStill
import Derived.Test.YtkadahfknccjfaaGreatDoorQRefK
import Derived.Test.YtkadahfknccjfaaGreatDoorQBatH
import Derived.Test.YtkadahfknccjfaaGreatDoorQValJ
namespace Go.Proofs.YtkadahfknccjfaaGreatDoor
open Go.RowKit
set_option maxRecDepth 100000 in
set_option maxHeartbeats 4000000 in
theorem echeckRows_any (TA A : Option Addr) (tcap cap flen len : Nat) (ts : List FT) (l : List VT) (B : Nat) (w : World) (htr : FT.TRow B w TA tcap ts) (hr : VT.RRow B w A cap l) (hT : Tabs B w) (hB : B ≤ w.heap.size) (hflen : Hid (ts.length = flen)) (hlen : Hid (l.length = len)) :
    Calls Tryz.prog 10 #[.slice TA flen tcap, .slice A len cap] w fun e w' => e = .returned (.int .i64 (rowsS ts l)) ∧ Below w.heap.size w w' := by
  have hll : len ≤ 9223372036854775807 := by rw [← hlen.out]; exact Nat.le_trans hr.1 hr.2.1
  have hfll : flen ≤ 9223372036854775807 := by rw [← hflen.out]; exact Nat.le_trans htr.1 htr.2.1
  obtain ⟨R, hR⟩ : ∃ R, rowsS ts l = R := ⟨_, rfl⟩
  rw [hR]
  have HR := Lib.hid hR
  clear hR
  go_enter Tryz.func10, Tryz.ntmps10
  go_wp2
  go_loopw [12] (fun i wr => ∃ j : Nat, j ≤ len ∧ i = .int .i64 j ∧ Below w.heap.size w wr ∧ Hid (rowsS ts (l.drop j) = R)) (fun i _ => len - (intOf i).toNat)
  case atStart => exact ⟨0, Nat.zero_le _, rfl, Below.refl _ _, HR⟩
  case round =>
    obtain ⟨j, hj, rfl, hbr, HRj⟩ := hrel
    by_cases hlt : j < len
    · have hSr := Same.mono (Same.of_below hbr) hB
      obtain ⟨y, ad, hy, rfl, hb, d0⟩ := (hr.keep hSr).get (show j < l.length by rw [hlen.out]; exact hlt)
      have hyr := (hr.2.2.1 y (mem_of_get? hy))
      have HR2 := HRj.out
      rw [drop_of_get? hy, rowsS_cons] at HR2
      obtain ⟨⟨yk, yn, ysc, ys, yA, ycap⟩, yl⟩ := y
      simp only [VT.a_node, VT.l_node] at d0 hyr
      replace HR2 : (if checkRowS ts yl ≠ 0 then checkRowS ts yl else rowsS ts (l.drop (j + 1))) = R := HR2
      have hzr := hbr.size
      obtain ⟨ylen, hylen'⟩ : ∃ n, yl.length = n := ⟨_, rfl⟩
      have hyll : ylen ≤ 9223372036854775807 := by rw [← hylen']; exact Nat.le_trans hyr.1.1 hyr.1.2.1
      rw [hylen'] at d0
      have hylen := Lib.hid hylen'
      by_cases hne : ylen = flen
      · subst hne
        have hcr : checkRowS ts yl = rowI ts yl := by unfold checkRowS; rw [hylen', hflen.out, if_neg (by simp)]
        rw [hcr] at HR2
        obtain ⟨R2, hR2⟩ : ∃ R2, rowI ts yl = R2 := ⟨_, rfl⟩
        rw [hR2] at HR2
        have HRy := Lib.hid hR2
        have HR3 := Lib.hid HR2
        clear hR2 HR2 HRj hcr hylen'
        go_wp2
        obtain ⟨wo, rfl⟩ : ∃ wo : World, wo = wr := ⟨_, rfl⟩
        go_loopw [23] (fun i wr => ∃ q : Nat, q ≤ ylen ∧ i = .int .i64 q ∧ Below w.heap.size w wr ∧ Hid (rowI (ts.drop q) (yl.drop q) = R2)) (fun i _ => ylen - (intOf i).toNat)
        case atStart => exact ⟨0, Nat.zero_le _, rfl, hbr, HRy⟩
        case round =>
          obtain ⟨q, hq, rfl, hbr2, HRq⟩ := hrel
          by_cases hqlt : q < ylen
          · have hSr2 := Same.mono (Same.of_below hbr2) hB
            obtain ⟨x, yad, hx, rfl, hxb, e0, e1, e2, e3, e4⟩ := (hyr.1.keep hSr2).get (show q < yl.length by rw [hylen.out]; exact hqlt)
            obtain ⟨t, tad, ht, rfl, htb, f0, f1, f2⟩ := (htr.keep hSr2).get (show q < ts.length by rw [hflen.out]; exact hqlt)
            have hzr2 := hbr2.size
            obtain ⟨o1, ho1⟩ : ∃ o1, Obj.cells #[.int .i64 x.a.k, .int .i64 x.a.n, .int .i64 x.a.sc, .string x.a.s, .slice x.a.A x.l.length x.a.cap] 61 = o1 := ⟨_, rfl⟩
            obtain ⟨W1, hW1⟩ : ∃ W1, wr.alloc o1 = W1 := ⟨_, rfl⟩
            have hbW1 : Below w.heap.size w W1 := by rw [← hW1]; exact hbr2.alloc hzr2 _
            have hS1 : Same B w W1 := Same.mono (Same.of_below hbW1) hB
            have g0 : W1.cell? ⟨wr.heap.size, 0, none⟩ = some (.int .i64 x.a.k) := by rw [← hW1, ← ho1, cell_new]; rfl
            have g1 : W1.cell? ⟨wr.heap.size, 1, none⟩ = some (.int .i64 x.a.n) := by rw [← hW1, ← ho1, cell_new]; rfl
            have g2 : W1.cell? ⟨wr.heap.size, 2, none⟩ = some (.int .i64 x.a.sc) := by rw [← hW1, ← ho1, cell_new]; rfl
            have g3 : W1.cell? ⟨wr.heap.size, 3, none⟩ = some (.string x.a.s) := by rw [← hW1, ← ho1, cell_new]; rfl
            have g4 : W1.cell? ⟨wr.heap.size, 4, none⟩ = some (.slice x.a.A x.l.length x.a.cap) := by rw [← hW1, ← ho1, cell_new]; rfl
            have k0 : W1.cell? (tad.add (q * 3)) = some (.int .i64 t.a.k) := by rw [← hW1]; exact cell_old f0 _
            have k1 : W1.cell? ⟨(tad.add (q * 3)).block, (tad.add (q * 3)).off + 1, none⟩ = some (.int .i64 t.a.sc) := by rw [← hW1]; exact cell_old f1 _
            have k2 : W1.cell? ⟨(tad.add (q * 3)).block, (tad.add (q * 3)).off + 2, none⟩ = some (.slice t.a.A t.l.length t.a.cap) := by rw [← hW1]; exact cell_old f2 _
            have hz1 : w.heap.size ≤ W1.heap.size := hbW1.size
            have hic := Lib.hid (vCheck_any t x B W1.drew ((htr.2.2.1 t (mem_of_get? ht)).keep hS1) ((hyr.2 x (mem_of_get? hx)).keep hS1) (hT.keep hS1) (show B ≤ W1.heap.size by omega))
            have HR5 := HRq.out
            rw [drop_of_get? hx, drop_of_get? ht, rowI_cons] at HR5
            have HW1 := Lib.hid hW1
            have Ho1 := Lib.hid ho1
            clear hW1 ho1 HRq f0 f1 f2 hr htr hx ht hT hyr
            by_cases h0 : checkS t x = 0
            · have H0 := Lib.hid h0
              have HR6 := Lib.hid (show rowI (ts.drop (q + 1)) (yl.drop (q + 1)) = R2 by rw [← HR5, if_neg (by simp [h0])])
              clear h0 HR5
              go_wp2_with fail
              rw [Ho1.out, HW1.out]
              (generalize hA0 : Act.mk _ _ = A0; refine wp_region_still_tail 5 (by kernel_rfl) (by kernel_rfl) ?_; simp only [List.take_succ_cons, List.take_zero, List.drop_succ_cons, List.drop_zero]; (iterate 5 (refine st_want (by rw [← hA0]; rfl) (fun K hK => ?_); subst hA0; go_simp; generalize hA0 : Act.mk _ _ = A0; refine hK A0 ?_; clear hK K)); refine wpStill_nil ?_; subst hA0)
              change wpList _ _ _ _ _ W1.drew
              go_wp2_with fail
              refine hic.out.mono ?_
              rintro e w' ⟨rfl, hb2⟩
              rw [H0.out]
              go_wp2
              go_roundw
              case rel => exact ⟨q + 1, by omega, by go_num, hbW1.drew.trans (hb2.mono hz1), HR6⟩
              case measure => simp [intOf]; omega
            · have n0 : (checkS t x != 0) = true := by simpa using h0
              have HR6 := Lib.hid (show checkS t x = R by rw [← HR3.out, ← HR5, if_pos h0, if_pos h0])
              clear h0 HR5
              go_wp2_with fail
              rw [Ho1.out, HW1.out]
              (generalize hA0 : Act.mk _ _ = A0; refine wp_region_still_tail 5 (by kernel_rfl) (by kernel_rfl) ?_; simp only [List.take_succ_cons, List.take_zero, List.drop_succ_cons, List.drop_zero]; (iterate 5 (refine st_want (by rw [← hA0]; rfl) (fun K hK => ?_); subst hA0; go_simp; generalize hA0 : Act.mk _ _ = A0; refine hK A0 ?_; clear hK K)); refine wpStill_nil ?_; subst hA0)
              change wpList _ _ _ _ _ W1.drew
              go_wp2_with fail
              refine hic.out.mono ?_
              rintro e w' ⟨rfl, hb2⟩
              go_wp2
              go_ret
              exact ⟨by rw [← HR6.out]; rfl, hbW1.drew.trans (hb2.mono hz1)⟩
          · have H2 : Hid (0 = R2) := by have := HRq.out; rw [show yl.drop q = [] from List.drop_eq_nil_of_le (by rw [hylen.out]; omega), rowI_nil] at this; exact this
            have HR4 : Hid (rowsS ts (l.drop (j + 1)) = R) := by have := HR3.out; rw [← H2.out, if_neg (by simp)] at this; exact this
            go_wp2
            go_roundw
            case rel => exact ⟨j + 1, by omega, by go_num, hbr2, HR4⟩
            case measure => simp [intOf]; omega
      · have hcr : checkRowS ts yl = 1 := by unfold checkRowS; rw [hylen', hflen.out, if_pos hne]
        rw [hcr, if_pos (by simp)] at HR2
        have HR3 := Lib.hid HR2
        have n1 : ((ylen : Int) != (flen : Int)) = true := by simp; omega
        clear HR2 HRj hcr hne hylen'
        go_wp2
        go_ret
        exact ⟨by rw [← HR3.out]; rfl, hbr⟩
    · have HR3 : Hid (0 = R) := by have := HRj.out; rw [show l.drop j = [] from List.drop_eq_nil_of_le (by rw [hlen.out]; omega)] at this; exact this
      go_wp2
      go_ret
      exact ⟨by rw [← HR3.out]; rfl, hbr⟩
end Go.Proofs.YtkadahfknccjfaaGreatDoor
namespace Go.Proofs.YtkadahfknccjfaaGreatDoor
open Go.RowKit
set_option maxRecDepth 100000 in
set_option maxHeartbeats 4000000 in
theorem rListed_any (TA A : Option Addr) (tcap cap flen len : Nat) (ts : List FT) (l : List VT) (B : Nat) (w : World) (htr : FT.TRow B w TA tcap ts) (hr : VT.RRow B w A cap l) (hT : Tabs B w) (hB : B ≤ w.heap.size) (hflen : Hid (ts.length = flen)) (hlen : Hid (l.length = len)) :
    Calls Tryz.prog 16 #[.slice TA flen tcap, .slice A len cap] w fun e w' => e = .returned (.int .i64 (rowsS ts l)) ∧ Below w.heap.size w w' := by
  have hll : len ≤ 9223372036854775807 := by rw [← hlen.out]; exact Nat.le_trans hr.1 hr.2.1
  have hfll : flen ≤ 9223372036854775807 := by rw [← hflen.out]; exact Nat.le_trans htr.1 htr.2.1
  obtain ⟨R, hR⟩ : ∃ R, rowsS ts l = R := ⟨_, rfl⟩
  rw [hR]
  have HR := Lib.hid hR
  clear hR
  go_enter Tryz.func16, Tryz.ntmps16
  go_wp2
  go_loopw [12] (fun i wr => ∃ j : Nat, j ≤ len ∧ i = .int .i64 j ∧ Below w.heap.size w wr ∧ Hid (rowsS ts (l.drop j) = R)) (fun i _ => len - (intOf i).toNat)
  case atStart => exact ⟨0, Nat.zero_le _, rfl, Below.refl _ _, HR⟩
  case round =>
    obtain ⟨j, hj, rfl, hbr, HRj⟩ := hrel
    by_cases hlt : j < len
    · have hSr := Same.mono (Same.of_below hbr) hB
      obtain ⟨y, ad, hy, rfl, hb, d0⟩ := (hr.keep hSr).get (show j < l.length by rw [hlen.out]; exact hlt)
      have hyr := (hr.2.2.1 y (mem_of_get? hy))
      have HR2 := HRj.out
      rw [drop_of_get? hy, rowsS_cons] at HR2
      obtain ⟨⟨yk, yn, ysc, ys, yA, ycap⟩, yl⟩ := y
      simp only [VT.a_node, VT.l_node] at d0 hyr
      replace HR2 : (if checkRowS ts yl ≠ 0 then checkRowS ts yl else rowsS ts (l.drop (j + 1))) = R := HR2
      have hzr := hbr.size
      obtain ⟨ylen, hylen'⟩ : ∃ n, yl.length = n := ⟨_, rfl⟩
      have hyll : ylen ≤ 9223372036854775807 := by rw [← hylen']; exact Nat.le_trans hyr.1.1 hyr.1.2.1
      rw [hylen'] at d0
      have hylen := Lib.hid hylen'
      by_cases hne : ylen = flen
      · subst hne
        have hcr : checkRowS ts yl = rowI ts yl := by unfold checkRowS; rw [hylen', hflen.out, if_neg (by simp)]
        rw [hcr] at HR2
        obtain ⟨R2, hR2⟩ : ∃ R2, rowI ts yl = R2 := ⟨_, rfl⟩
        rw [hR2] at HR2
        have HRy := Lib.hid hR2
        have HR3 := Lib.hid HR2
        clear hR2 HR2 HRj hcr hylen'
        go_wp2
        obtain ⟨wo, rfl⟩ : ∃ wo : World, wo = wr := ⟨_, rfl⟩
        go_loopw [23] (fun i wr => ∃ q : Nat, q ≤ ylen ∧ i = .int .i64 q ∧ Below w.heap.size w wr ∧ Hid (rowI (ts.drop q) (yl.drop q) = R2)) (fun i _ => ylen - (intOf i).toNat)
        case atStart => exact ⟨0, Nat.zero_le _, rfl, hbr, HRy⟩
        case round =>
          obtain ⟨q, hq, rfl, hbr2, HRq⟩ := hrel
          by_cases hqlt : q < ylen
          · have hSr2 := Same.mono (Same.of_below hbr2) hB
            obtain ⟨x, yad, hx, rfl, hxb, e0, e1, e2, e3, e4⟩ := (hyr.1.keep hSr2).get (show q < yl.length by rw [hylen.out]; exact hqlt)
            obtain ⟨t, tad, ht, rfl, htb, f0, f1, f2⟩ := (htr.keep hSr2).get (show q < ts.length by rw [hflen.out]; exact hqlt)
            have hzr2 := hbr2.size
            obtain ⟨o1, ho1⟩ : ∃ o1, Obj.cells #[.int .i64 x.a.k, .int .i64 x.a.n, .int .i64 x.a.sc, .string x.a.s, .slice x.a.A x.l.length x.a.cap] 61 = o1 := ⟨_, rfl⟩
            obtain ⟨W1, hW1⟩ : ∃ W1, wr.alloc o1 = W1 := ⟨_, rfl⟩
            have hbW1 : Below w.heap.size w W1 := by rw [← hW1]; exact hbr2.alloc hzr2 _
            have hS1 : Same B w W1 := Same.mono (Same.of_below hbW1) hB
            have g0 : W1.cell? ⟨wr.heap.size, 0, none⟩ = some (.int .i64 x.a.k) := by rw [← hW1, ← ho1, cell_new]; rfl
            have g1 : W1.cell? ⟨wr.heap.size, 1, none⟩ = some (.int .i64 x.a.n) := by rw [← hW1, ← ho1, cell_new]; rfl
            have g2 : W1.cell? ⟨wr.heap.size, 2, none⟩ = some (.int .i64 x.a.sc) := by rw [← hW1, ← ho1, cell_new]; rfl
            have g3 : W1.cell? ⟨wr.heap.size, 3, none⟩ = some (.string x.a.s) := by rw [← hW1, ← ho1, cell_new]; rfl
            have g4 : W1.cell? ⟨wr.heap.size, 4, none⟩ = some (.slice x.a.A x.l.length x.a.cap) := by rw [← hW1, ← ho1, cell_new]; rfl
            have k0 : W1.cell? (tad.add (q * 3)) = some (.int .i64 t.a.k) := by rw [← hW1]; exact cell_old f0 _
            have k1 : W1.cell? ⟨(tad.add (q * 3)).block, (tad.add (q * 3)).off + 1, none⟩ = some (.int .i64 t.a.sc) := by rw [← hW1]; exact cell_old f1 _
            have k2 : W1.cell? ⟨(tad.add (q * 3)).block, (tad.add (q * 3)).off + 2, none⟩ = some (.slice t.a.A t.l.length t.a.cap) := by rw [← hW1]; exact cell_old f2 _
            have hz1 : w.heap.size ≤ W1.heap.size := hbW1.size
            have hic := Lib.hid (rCheck_any t x B W1.drew ((htr.2.2.1 t (mem_of_get? ht)).keep hS1) ((hyr.2 x (mem_of_get? hx)).keep hS1) (hT.keep hS1) (show B ≤ W1.heap.size by omega))
            have HR5 := HRq.out
            rw [drop_of_get? hx, drop_of_get? ht, rowI_cons] at HR5
            have HW1 := Lib.hid hW1
            have Ho1 := Lib.hid ho1
            clear hW1 ho1 HRq f0 f1 f2 hr htr hx ht hT hyr
            by_cases h0 : checkS t x = 0
            · have H0 := Lib.hid h0
              have HR6 := Lib.hid (show rowI (ts.drop (q + 1)) (yl.drop (q + 1)) = R2 by rw [← HR5, if_neg (by simp [h0])])
              clear h0 HR5
              go_wp2_with fail
              rw [Ho1.out, HW1.out]
              (generalize hA0 : Act.mk _ _ = A0; refine wp_region_still_tail 5 (by kernel_rfl) (by kernel_rfl) ?_; simp only [List.take_succ_cons, List.take_zero, List.drop_succ_cons, List.drop_zero]; (iterate 5 (refine st_want (by rw [← hA0]; rfl) (fun K hK => ?_); subst hA0; go_simp; generalize hA0 : Act.mk _ _ = A0; refine hK A0 ?_; clear hK K)); refine wpStill_nil ?_; subst hA0)
              change wpList _ _ _ _ _ W1.drew
              go_wp2_with fail
              refine hic.out.mono ?_
              rintro e w' ⟨rfl, hb2⟩
              rw [H0.out]
              go_wp2
              go_roundw
              case rel => exact ⟨q + 1, by omega, by go_num, hbW1.drew.trans (hb2.mono hz1), HR6⟩
              case measure => simp [intOf]; omega
            · have n0 : (checkS t x != 0) = true := by simpa using h0
              have HR6 := Lib.hid (show checkS t x = R by rw [← HR3.out, ← HR5, if_pos h0, if_pos h0])
              clear h0 HR5
              go_wp2_with fail
              rw [Ho1.out, HW1.out]
              (generalize hA0 : Act.mk _ _ = A0; refine wp_region_still_tail 5 (by kernel_rfl) (by kernel_rfl) ?_; simp only [List.take_succ_cons, List.take_zero, List.drop_succ_cons, List.drop_zero]; (iterate 5 (refine st_want (by rw [← hA0]; rfl) (fun K hK => ?_); subst hA0; go_simp; generalize hA0 : Act.mk _ _ = A0; refine hK A0 ?_; clear hK K)); refine wpStill_nil ?_; subst hA0)
              change wpList _ _ _ _ _ W1.drew
              go_wp2_with fail
              refine hic.out.mono ?_
              rintro e w' ⟨rfl, hb2⟩
              go_wp2
              go_ret
              exact ⟨by rw [← HR6.out]; rfl, hbW1.drew.trans (hb2.mono hz1)⟩
          · have H2 : Hid (0 = R2) := by have := HRq.out; rw [show yl.drop q = [] from List.drop_eq_nil_of_le (by rw [hylen.out]; omega), rowI_nil] at this; exact this
            have HR4 : Hid (rowsS ts (l.drop (j + 1)) = R) := by have := HR3.out; rw [← H2.out, if_neg (by simp)] at this; exact this
            go_wp2
            go_roundw
            case rel => exact ⟨j + 1, by omega, by go_num, hbr2, HR4⟩
            case measure => simp [intOf]; omega
      · have hcr : checkRowS ts yl = 1 := by unfold checkRowS; rw [hylen', hflen.out, if_pos hne]
        rw [hcr, if_pos (by simp)] at HR2
        have HR3 := Lib.hid HR2
        have n1 : ((ylen : Int) != (flen : Int)) = true := by simp; omega
        clear HR2 HRj hcr hne hylen'
        go_wp2
        go_ret
        exact ⟨by rw [← HR3.out]; rfl, hbr⟩
    · have HR3 : Hid (0 = R) := by have := HRj.out; rw [show l.drop j = [] from List.drop_eq_nil_of_le (by rw [hlen.out]; omega)] at this; exact this
      go_wp2
      go_ret
      exact ⟨by rw [← HR3.out]; rfl, hbr⟩
end Go.Proofs.YtkadahfknccjfaaGreatDoor
