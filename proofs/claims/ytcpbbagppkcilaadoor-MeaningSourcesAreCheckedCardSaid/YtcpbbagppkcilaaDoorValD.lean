/-
  Package value: the check of types.
-/
import Derived.Test.YtcpbbagppkcilaaDoorValC
import Derived.Test.YtcpbbagppkcilaaDoorRefE
namespace Go.Proofs.YtcpbbagppkcilaaDoor
open Go.RowKit
theorem ck_end {k sc c1 n : Int} {l : List FT} {r X : Int × Int} (H0 : Hid ((if shapeS k sc l ≠ 0 then (shapeS k sc l, c1) else X) = r)) (h : shapeS k sc l = n) (hn : n ≠ 0) : r = (n, c1) := by rw [← H0.out, h, if_pos hn]
theorem shape_out {k sc : Int} {l : List FT} (h : withinB k 1 7 = false) : shapeS k sc l = 3 := by unfold shapeS; rw [if_pos h]
theorem shape_sc {k sc : Int} {l : List FT} (h : withinB k 1 7 = true) (h2 : scaleB k sc = false) : shapeS k sc l = 1 := by unfold shapeS; rw [h, h2, if_neg (by simp), if_pos rfl]
set_option maxRecDepth 100000 in
set_option maxHeartbeats 8000000 in
theorem vcheck_any : ∀ (t : FT) (lv c : Int) (g B : Nat) (w : World), FT.In B w t → B ≤ w.heap.size → B ≤ g → One w g c → 1 ≤ lv → lv ≤ 5 → 0 ≤ c → c ≤ 40 →
    Calls Tryd.prog 69 #[.pointer (some ⟨g, 0, none⟩), .agg #[.int .i64 t.a.k, .int .i64 t.a.sc, .slice t.a.A t.l.length t.a.cap], .int .i64 lv] w (CkPost g w (ckT lv c t)) := by
  refine FT.ind fun a l ih lv c g B w hin hB hg hone hlv1 hlv5 hc0 hc40 => ?_
  obtain ⟨id, nm, nd, k, sc, A, cap⟩ := a
  obtain ⟨_, _, _, _, hr, hl⟩ := hin.parts
  simp only [FT.a_node, FT.l_node] at hr ⊢
  have hgl := hone.lt
  obtain ⟨len, hlen⟩ : ∃ len, l.length = len := ⟨_, rfl⟩
  have hll : len ≤ 9223372036854775807 := by rw [← hlen]; exact Nat.le_trans hr.1 hr.2.1
  rw [hlen]
  have hlen' := Lib.hid hlen
  clear hlen
  have hlen := hlen'
  clear hlen'
  by_cases h4 : 4 < lv
  · have hf := Lib.hid (show ckT lv c (.node ⟨id, nm, nd, k, sc, A, cap⟩ l) = (7, c) by unfold ckT; rw [if_pos h4])
    rw [hf.out]
    clear ih hr hl hin
    go_enter Tryd.func69, Tryd.ntmps69
    go_wp2
    go_ret
    exact ⟨rfl, (Ch.refl g w).alloc _, hone.alloc _⟩
  have hnot4 : ¬ lv > 4 := h4
  clear h4
  have h4 : lv ≤ 4 := by omega
  obtain ⟨r, hr0⟩ : ∃ r, ckT lv c (.node ⟨id, nm, nd, k, sc, A, cap⟩ l) = r := ⟨_, rfl⟩
  rw [hr0]
  unfold ckT at hr0
  rw [if_neg hnot4] at hr0
  clear hnot4
  obtain ⟨W0, hW0⟩ : ∃ W0, w.alloc (.cells #[.int .i64 k, .int .i64 sc, .slice A len cap] 24) = W0 := ⟨_, rfl⟩
  have hone0 : One W0 g c := by rw [← hW0]; exact hone.alloc _
  have hch0 : Ch g w W0 := by rw [← hW0]; exact (Ch.refl g w).alloc _
  have hz0 : w.heap.size < W0.heap.size := by rw [← hW0]; simp
  have p0 : W0.cell? ⟨w.heap.size, 0, none⟩ = some (.int .i64 k) := by rw [← hW0]; simp
  have p1 : W0.cell? ⟨w.heap.size, 1, none⟩ = some (.int .i64 sc) := by rw [← hW0]; simp
  have p2 : W0.cell? ⟨w.heap.size, 2, none⟩ = some (.slice A len cap) := by rw [← hW0]; simp
  have HW0 := Lib.hid hW0
  clear hW0 hone hin
  cases hlf : leafB k
  · rw [hlf] at hr0
    have Hlf := Lib.hid hlf
    have hk67 : k = 6 ∨ k = 7 := by
      by_cases h6 : k = 6
      · exact .inl h6
      · by_cases h7 : k = 7
        · exact .inr h7
        · simp [leafB, h6, h7] at hlf
    clear hlf
    obtain ⟨c1, hc1⟩ : ∃ c1, c1 = c := ⟨_, rfl⟩
    have H0 : Hid ((if shapeS k sc l ≠ 0 then (shapeS k sc l, c1) else ckTs (lv + 1) c1 l) = r) := by rw [hc1, ← hr0]; simp [Hid]
    have hc10 : 0 ≤ c1 := by omega
    have hc11 : c1 ≤ 40 := by omega
    clear hr0
    go_enter Tryd.func69, Tryd.ntmps69
    go_wp2_with fail
    rw [HW0.out]
    refine (vleaf_any k sc A len cap W0).mono ?_
    rintro e w1 ⟨rfl, hb1⟩
    rw [Hlf.out]
    have a0 := (hb1.cell (p := ⟨w.heap.size, 0, none⟩) hz0).trans p0
    have a1 := (hb1.cell (p := ⟨w.heap.size, 1, none⟩) hz0).trans p1
    have a2 := (hb1.cell (p := ⟨w.heap.size, 2, none⟩) hz0).trans p2
    have hone1 := hone0.below hb1
    have hch1 := hch0.then_below hb1
    have hz1 : w.heap.size < w1.heap.size := Nat.lt_of_lt_of_le hz0 hb1.size
    have hcell1 := hone1.cell
    have hfr1 := hone1.frozen
    clear p0 p1 p2 hone0 hch0 HW0 hb1
    go_wp2_with fail
    refine (vleaf_any k sc A len cap w1).mono ?_
    rintro e w2 ⟨rfl, hb2⟩
    rw [Hlf.out]
    have q0 := (hb2.cell (p := ⟨w.heap.size, 0, none⟩) hz1).trans a0
    have q1 := (hb2.cell (p := ⟨w.heap.size, 1, none⟩) hz1).trans a1
    have q2 := (hb2.cell (p := ⟨w.heap.size, 2, none⟩) hz1).trans a2
    have hone2 := hone1.below hb2
    have hch2 := hch1.then_below hb2
    have hz2 : w.heap.size < w2.heap.size := Nat.lt_of_lt_of_le hz1 hb2.size
    have hcell2 := hone2.cell
    have hfr2 := hone2.frozen
    clear a0 a1 a2 hone1 hch1 hb2 hcell1 hfr1
    obtain ⟨W3, hW3⟩ : ∃ W3, w2 = W3 := ⟨_, rfl⟩
    have hone3 : One W3 g c1 := by rw [← hW3, hc1]; exact hone2
    have hch3 : Ch g w W3 := by rw [← hW3]; exact hch2
    clear hc1
    have p0 : W3.cell? ⟨w.heap.size, 0, none⟩ = some (.int .i64 k) := by rw [← hW3]; exact q0
    have p1 : W3.cell? ⟨w.heap.size, 1, none⟩ = some (.int .i64 sc) := by rw [← hW3]; exact q1
    have p2 : W3.cell? ⟨w.heap.size, 2, none⟩ = some (.slice A len cap) := by rw [← hW3]; exact q2
    have hz3 : w.heap.size < W3.heap.size := by rw [← hW3]; exact hz2
    have hS3 : Same B w W3 := hch3.same hB hg
    have hr3 := hr.keep hS3
    have hl3 := fun x (hx : x ∈ l) => (hl x hx).keep hS3
    have HW3 := Lib.hid hW3
    clear hW3 hr hl hS3
    by_cases hlo : k < 1
    · first
      | (exfalso; omega)
      | (have hf := Lib.hid (ck_end H0 (shape_out (show withinB k 1 7 = false by simp [withinB]; omega)) (by decide))
         clear H0 ih hr3 hl3
         go_wp2
         rw [HW3.out]
         go_ret
         exact ⟨by rw [hf.out]; rfl, hch3, by rw [hf.out]; exact hone3⟩
         )
    by_cases hhi : 7 < k
    · first
      | (exfalso; omega)
      | (have hf := Lib.hid (ck_end H0 (shape_out (show withinB k 1 7 = false by simp [withinB]; omega)) (by decide))
         clear H0 ih hr3 hl3
         go_wp2
         rw [HW3.out]
         go_ret
         exact ⟨by rw [hf.out]; rfl, hch3, by rw [hf.out]; exact hone3⟩
         )
    have hwi : withinB k 1 7 = true := by simp [withinB]; omega
    cases hsc : scaleB k sc
    · have hf := Lib.hid (ck_end H0 (shape_sc hwi hsc) (by decide))
      have hcs : (k ≠ 3 ∧ sc ≠ 0) ∨ (k = 3 ∧ sc < 0) ∨ (k = 3 ∧ 12 < sc) := by
        unfold scaleB at hsc
        by_cases h3 : k = 3
        · rw [if_pos h3] at hsc
          simp only [withinB, Bool.and_eq_false_iff, decide_eq_false_iff_not] at hsc
          omega
        · rw [if_neg h3] at hsc
          exact .inl ⟨h3, by simpa using hsc⟩
      clear H0 ih hr3 hl3 hsc hwi
      rcases hcs with ⟨h3, hs0⟩ | ⟨h3, hs0⟩ | ⟨h3, hs0⟩
      · have n3 : (k != 3) = true := by simpa using h3
        have ns : (sc != 0) = true := by simpa using hs0
        clear h3 hs0
        go_wp2
        rw [HW3.out]
        go_ret
        exact ⟨by rw [hf.out]; rfl, hch3, by rw [hf.out]; exact hone3⟩
      · first
        | (exfalso; omega)
        | (subst h3
           have ns : (sc != 0) = true := by simp; omega
           go_wp2
           rw [HW3.out]
           go_ret
           exact ⟨by rw [hf.out]; rfl, hch3, by rw [hf.out]; exact hone3⟩
           )
      · first
        | (exfalso; omega)
        | (subst h3
           have ns : (sc != 0) = true := by simp; omega
           have ns2 : decide (sc < 0) = false := by simp; omega
           go_wp2
           rw [HW3.out]
           go_ret
           exact ⟨by rw [hf.out]; rfl, hch3, by rw [hf.out]; exact hone3⟩
           )
    have hsh := shape_fields (l := l) hwi hsc
    have hcs : sc = 0 ∨ (k = 3 ∧ 0 < sc ∧ sc ≤ 12) := by
      unfold scaleB at hsc
      by_cases h3 : k = 3
      · rw [if_pos h3] at hsc
        simp only [withinB, Bool.and_eq_true, decide_eq_true_eq] at hsc
        omega
      · rw [if_neg h3] at hsc
        exact .inl (by simpa using hsc)
    have hfi := Lib.hid (vfields_any k sc A cap len l hr3 hl3 (by omega) hlen)
    rw [hsh] at H0
    clear hsc hwi hsh
    rcases hcs with hs0 | ⟨h3, hs1, hs2⟩
    · subst hs0
      go_wp2_with fail
      rw [HW3.out]
      refine hfi.out.mono ?_
      rintro e w4 ⟨rfl, hb4⟩
      have hone4 := hone3.below hb4
      have hch4 := hch3.then_below hb4
      have hbx4 := (hb4.cell (p := ⟨w.heap.size, 2, none⟩) hz3).trans p2
      have hz4 : w.heap.size < w4.heap.size := Nat.lt_of_lt_of_le hz3 hb4.size
      have hr4 := hr3.keep (Same.mono (Same.of_below hb4) (by omega))
      have hl4 := fun x (hx : x ∈ l) => (hl3 x hx).keep (Same.mono (Same.of_below hb4) (by omega))
      clear hr3 hl3 p0 p1 p2 hb4 HW3 hone3 hch3 hfi
      by_cases hs0 : fieldsS k l = 0
      · have H1 : Hid (ckTs (lv + 1) c1 l = r) := by have := H0.out; rw [hs0, if_neg (by simp)] at this; exact this
        rw [hs0]
        clear hs0 H0
        go_wp2
        go_loopw [69] (fun i wr => ∃ (j : Nat) (c' : Int), j ≤ len ∧ i = .int .i64 j ∧ Ch g w wr ∧ One wr g c' ∧ 0 ≤ c' ∧ c' ≤ 40 ∧ w.heap.size < wr.heap.size ∧ Same B w4 wr ∧ Hid (ckTs (lv + 1) c' (l.drop j) = r)) (fun i _ => len - (intOf i).toNat)
        case atStart => exact ⟨0, c1, Nat.zero_le _, rfl, hch4, hone4, hc10, hc11, hz4, Same.refl _ _, H1⟩
        case round =>
          obtain ⟨j, c', hj, rfl, hch, hon, hc'0, hc'1, hbs, hsm, HR⟩ := hrel
          by_cases hlt : j < len
          · obtain ⟨x, ad, hx, rfl, hb, d0, d1, d2, d3, d4, d5⟩ := (hr4.keep hsm).get (show j < l.length by rw [hlen.out]; exact hlt)
            have hxi := (hl4 x (mem_of_get? hx)).keep hsm
            obtain ⟨o1, ho1⟩ : ∃ o1, Obj.cells #[.int .i64 x.a.id, .string x.a.nm, .bool x.a.nd, .int .i64 x.a.k, .int .i64 x.a.sc, .slice x.a.A x.l.length x.a.cap] 77 = o1 := ⟨_, rfl⟩
            obtain ⟨W5, hW5⟩ : ∃ W5, wr.alloc o1 = W5 := ⟨_, rfl⟩
            have hbW : Below wr.heap.size wr W5 := by rw [← hW5]; exact bel1 _ _
            have hzW : wr.heap.size ≤ W5.heap.size := hbW.size
            have hBr : B ≤ wr.heap.size := by have := hch.size; omega
            have hic := ih x (mem_of_get? hx) (lv + 1) c' g B W5 (hxi.keep (Same.mono (Same.of_below hbW) hBr)) (by omega) hg (hon.below hbW) (by omega) (by omega) hc'0 hc'1
            obtain ⟨f, c2, hfc⟩ : ∃ f c2, ckT (lv + 1) c' x = (f, c2) := ⟨_, _, rfl⟩
            have hbd := ckT_bd x (lv + 1) c' hc'0 hc'1
            rw [hfc] at hic hbd
            have HR2 := HR.out
            rw [drop_of_get? hx] at HR2
            unfold ckTs at HR2
            rw [hfc] at HR2
            have Hic := Lib.hid hic
            have HR3 := Lib.hid HR2
            have HW5 := Lib.hid hW5
            have Ho1 := Lib.hid ho1
            have hchW : Ch g w W5 := hch.then_below hbW
            have hsmW : Same B w4 W5 := hsm.trans (Same.mono (Same.of_below hbW) hBr)
            clear HR2 hic hfc HR hxi hr4 hl4 ih hx hbx4 hW5 ho1
            by_cases hf0 : f = 0
            · subst hf0
              have HR4 : Hid (ckTs (lv + 1) c2 (l.drop (j + 1)) = r) := by have := HR3.out; rw [if_neg (by simp)] at this; exact this
              go_wp2_with fail
              rw [Ho1.out, HW5.out]
              refine Hic.out.mono ?_
              rintro e w6 ⟨rfl, hch3, hon3⟩
              go_wp2
              go_roundw
              case rel => exact ⟨j + 1, c2, by omega, by go_num, hchW.trans hch3, hon3, hbd.1, hbd.2, by have := hch3.size; omega, hsmW.trans (hch3.same (by omega) hg), HR4⟩
              case measure => simp [intOf]; omega
            · have HR4 : Hid ((f, c2) = r) := by have := HR3.out; rw [if_pos (by simpa using hf0)] at this; exact this
              have nf : (f != 0) = true := by simpa using hf0
              clear hf0
              go_wp2_with fail
              rw [Ho1.out, HW5.out]
              refine Hic.out.mono ?_
              rintro e w6 ⟨rfl, hch3, hon3⟩
              go_wp2
              go_ret
              exact ⟨by rw [← HR4.out]; rfl, hchW.trans hch3, by rw [← HR4.out]; exact hon3⟩
          · have HR2 : Hid ((0, c') = r) := by have := HR.out; rw [List.drop_eq_nil_of_le (by rw [hlen.out]; omega)] at this; unfold ckTs at this; exact this
            go_wp2
            go_ret
            exact ⟨by rw [← HR2.out]; rfl, hch, by rw [← HR2.out]; exact hon⟩
      · have hs0' : (fieldsS k l != 0) = true := by simpa using hs0
        have H1 : Hid ((fieldsS k l, c1) = r) := by have := H0.out; rw [if_pos hs0] at this; exact this
        clear hs0
        go_wp2
        go_ret
        exact ⟨by rw [← H1.out]; rfl, hch4, by rw [← H1.out]; exact hone4⟩
    · first
      | (exfalso; omega)
      | (subst h3
         have ns : (sc != 0) = true := by simp; omega
         go_wp2_with fail
         rw [HW3.out]
         refine hfi.out.mono ?_
         rintro e w4 ⟨rfl, hb4⟩
         have hone4 := hone3.below hb4
         have hch4 := hch3.then_below hb4
         have hbx4 := (hb4.cell (p := ⟨w.heap.size, 2, none⟩) hz3).trans p2
         have hz4 : w.heap.size < w4.heap.size := Nat.lt_of_lt_of_le hz3 hb4.size
         have hr4 := hr3.keep (Same.mono (Same.of_below hb4) (by omega))
         have hl4 := fun x (hx : x ∈ l) => (hl3 x hx).keep (Same.mono (Same.of_below hb4) (by omega))
         clear hr3 hl3 p0 p1 p2 hb4 HW3 hone3 hch3 hfi
         by_cases hs0 : fieldsS 3 l = 0
         · have H1 : Hid (ckTs (lv + 1) c1 l = r) := by have := H0.out; rw [hs0, if_neg (by simp)] at this; exact this
           rw [hs0]
           clear hs0 H0
           go_wp2
           go_loopw [69] (fun i wr => ∃ (j : Nat) (c' : Int), j ≤ len ∧ i = .int .i64 j ∧ Ch g w wr ∧ One wr g c' ∧ 0 ≤ c' ∧ c' ≤ 40 ∧ w.heap.size < wr.heap.size ∧ Same B w4 wr ∧ Hid (ckTs (lv + 1) c' (l.drop j) = r)) (fun i _ => len - (intOf i).toNat)
           case atStart => exact ⟨0, c1, Nat.zero_le _, rfl, hch4, hone4, hc10, hc11, hz4, Same.refl _ _, H1⟩
           case round =>
             obtain ⟨j, c', hj, rfl, hch, hon, hc'0, hc'1, hbs, hsm, HR⟩ := hrel
             by_cases hlt : j < len
             · obtain ⟨x, ad, hx, rfl, hb, d0, d1, d2, d3, d4, d5⟩ := (hr4.keep hsm).get (show j < l.length by rw [hlen.out]; exact hlt)
               have hxi := (hl4 x (mem_of_get? hx)).keep hsm
               obtain ⟨o1, ho1⟩ : ∃ o1, Obj.cells #[.int .i64 x.a.id, .string x.a.nm, .bool x.a.nd, .int .i64 x.a.k, .int .i64 x.a.sc, .slice x.a.A x.l.length x.a.cap] 77 = o1 := ⟨_, rfl⟩
               obtain ⟨W5, hW5⟩ : ∃ W5, wr.alloc o1 = W5 := ⟨_, rfl⟩
               have hbW : Below wr.heap.size wr W5 := by rw [← hW5]; exact bel1 _ _
               have hzW : wr.heap.size ≤ W5.heap.size := hbW.size
               have hBr : B ≤ wr.heap.size := by have := hch.size; omega
               have hic := ih x (mem_of_get? hx) (lv + 1) c' g B W5 (hxi.keep (Same.mono (Same.of_below hbW) hBr)) (by omega) hg (hon.below hbW) (by omega) (by omega) hc'0 hc'1
               obtain ⟨f, c2, hfc⟩ : ∃ f c2, ckT (lv + 1) c' x = (f, c2) := ⟨_, _, rfl⟩
               have hbd := ckT_bd x (lv + 1) c' hc'0 hc'1
               rw [hfc] at hic hbd
               have HR2 := HR.out
               rw [drop_of_get? hx] at HR2
               unfold ckTs at HR2
               rw [hfc] at HR2
               have Hic := Lib.hid hic
               have HR3 := Lib.hid HR2
               have HW5 := Lib.hid hW5
               have Ho1 := Lib.hid ho1
               have hchW : Ch g w W5 := hch.then_below hbW
               have hsmW : Same B w4 W5 := hsm.trans (Same.mono (Same.of_below hbW) hBr)
               clear HR2 hic hfc HR hxi hr4 hl4 ih hx hbx4 hW5 ho1
               by_cases hf0 : f = 0
               · subst hf0
                 have HR4 : Hid (ckTs (lv + 1) c2 (l.drop (j + 1)) = r) := by have := HR3.out; rw [if_neg (by simp)] at this; exact this
                 go_wp2_with fail
                 rw [Ho1.out, HW5.out]
                 refine Hic.out.mono ?_
                 rintro e w6 ⟨rfl, hch3, hon3⟩
                 go_wp2
                 go_roundw
                 case rel => exact ⟨j + 1, c2, by omega, by go_num, hchW.trans hch3, hon3, hbd.1, hbd.2, by have := hch3.size; omega, hsmW.trans (hch3.same (by omega) hg), HR4⟩
                 case measure => simp [intOf]; omega
               · have HR4 : Hid ((f, c2) = r) := by have := HR3.out; rw [if_pos (by simpa using hf0)] at this; exact this
                 have nf : (f != 0) = true := by simpa using hf0
                 clear hf0
                 go_wp2_with fail
                 rw [Ho1.out, HW5.out]
                 refine Hic.out.mono ?_
                 rintro e w6 ⟨rfl, hch3, hon3⟩
                 go_wp2
                 go_ret
                 exact ⟨by rw [← HR4.out]; rfl, hchW.trans hch3, by rw [← HR4.out]; exact hon3⟩
             · have HR2 : Hid ((0, c') = r) := by have := HR.out; rw [List.drop_eq_nil_of_le (by rw [hlen.out]; omega)] at this; unfold ckTs at this; exact this
               go_wp2
               go_ret
               exact ⟨by rw [← HR2.out]; rfl, hch, by rw [← HR2.out]; exact hon⟩
         · have hs0' : (fieldsS 3 l != 0) = true := by simpa using hs0
           have H1 : Hid ((fieldsS 3 l, c1) = r) := by have := H0.out; rw [if_pos hs0] at this; exact this
           clear hs0
           go_wp2
           go_ret
           exact ⟨by rw [← H1.out]; rfl, hch4, by rw [← H1.out]; exact hone4⟩
         )
  · rw [hlf] at hr0
    have Hlf := Lib.hid hlf
    have hk67 : k ≠ 6 ∧ k ≠ 7 := by
      constructor
      · rintro rfl; simp [leafB] at hlf
      · rintro rfl; simp [leafB] at hlf
    clear hlf
    by_cases h40 : c = 40
    · subst h40
      have hf := Lib.hid (show r = (7, 40) by rw [← hr0]; simp)
      clear ih hr hl hr0
      go_enter Tryd.func69, Tryd.ntmps69
      go_wp2_with fail
      rw [HW0.out]
      refine (vleaf_any k sc A len cap W0).mono ?_
      rintro e w1 ⟨rfl, hb1⟩
      rw [Hlf.out]
      have a0 := (hb1.cell (p := ⟨w.heap.size, 0, none⟩) hz0).trans p0
      have a1 := (hb1.cell (p := ⟨w.heap.size, 1, none⟩) hz0).trans p1
      have a2 := (hb1.cell (p := ⟨w.heap.size, 2, none⟩) hz0).trans p2
      have hone1 := hone0.below hb1
      have hch1 := hch0.then_below hb1
      have hz1 : w.heap.size < w1.heap.size := Nat.lt_of_lt_of_le hz0 hb1.size
      have hcell1 := hone1.cell
      have hfr1 := hone1.frozen
      clear p0 p1 p2 hone0 hch0 HW0 hb1
      go_wp2
      go_ret
      exact ⟨by rw [hf.out]; rfl, hch1, by rw [hf.out]; exact hone1⟩
    · have n40 : (c == 40) = false := by simpa using h40
      obtain ⟨c1, hc1⟩ : ∃ c1, c1 = c + 1 := ⟨_, rfl⟩
      have H0 : Hid ((if shapeS k sc l ≠ 0 then (shapeS k sc l, c1) else ckTs (lv + 1) c1 l) = r) := by rw [hc1, ← hr0, if_neg (show ¬ (true = true ∧ c = 40) by simpa using h40)]; simp [Hid]
      have hc10 : 0 ≤ c1 := by omega
      have hc11 : c1 ≤ 40 := by omega
      have hc39 : c ≤ 39 := by omega
      clear hr0 h40
      go_enter Tryd.func69, Tryd.ntmps69
      go_wp2_with fail
      rw [HW0.out]
      refine (vleaf_any k sc A len cap W0).mono ?_
      rintro e w1 ⟨rfl, hb1⟩
      rw [Hlf.out]
      have a0 := (hb1.cell (p := ⟨w.heap.size, 0, none⟩) hz0).trans p0
      have a1 := (hb1.cell (p := ⟨w.heap.size, 1, none⟩) hz0).trans p1
      have a2 := (hb1.cell (p := ⟨w.heap.size, 2, none⟩) hz0).trans p2
      have hone1 := hone0.below hb1
      have hch1 := hch0.then_below hb1
      have hz1 : w.heap.size < w1.heap.size := Nat.lt_of_lt_of_le hz0 hb1.size
      have hcell1 := hone1.cell
      have hfr1 := hone1.frozen
      clear p0 p1 p2 hone0 hch0 HW0 hb1
      go_wp2_with fail
      refine (vleaf_any k sc A len cap w1).mono ?_
      rintro e w2 ⟨rfl, hb2⟩
      rw [Hlf.out]
      have q0 := (hb2.cell (p := ⟨w.heap.size, 0, none⟩) hz1).trans a0
      have q1 := (hb2.cell (p := ⟨w.heap.size, 1, none⟩) hz1).trans a1
      have q2 := (hb2.cell (p := ⟨w.heap.size, 2, none⟩) hz1).trans a2
      have hone2 := hone1.below hb2
      have hch2 := hch1.then_below hb2
      have hz2 : w.heap.size < w2.heap.size := Nat.lt_of_lt_of_le hz1 hb2.size
      have hcell2 := hone2.cell
      have hfr2 := hone2.frozen
      clear a0 a1 a2 hone1 hch1 hb2 hcell1 hfr1
      obtain ⟨W3, hW3⟩ : ∃ W3, w2.setCell ⟨g, 0, none⟩ (.int .i64 (c + 1)) = W3 := ⟨_, rfl⟩
      have hone3 : One W3 g c1 := by rw [← hW3, hc1]; exact hone2.set _
      have hch3 : Ch g w W3 := by rw [← hW3]; exact hch2.setCell _ _
      clear hc1
      have p0 : W3.cell? ⟨w.heap.size, 0, none⟩ = some (.int .i64 k) := by rw [← hW3]; rw [World.cell?_setCell_other _ _ _ _ (by intro h; injection h with h1 _ _; omega)]; exact q0
      have p1 : W3.cell? ⟨w.heap.size, 1, none⟩ = some (.int .i64 sc) := by rw [← hW3]; rw [World.cell?_setCell_other _ _ _ _ (by intro h; injection h with h1 _ _; omega)]; exact q1
      have p2 : W3.cell? ⟨w.heap.size, 2, none⟩ = some (.slice A len cap) := by rw [← hW3]; rw [World.cell?_setCell_other _ _ _ _ (by intro h; injection h with h1 _ _; omega)]; exact q2
      have hz3 : w.heap.size < W3.heap.size := by rw [← hW3]; rw [size_setCell]; exact hz2
      have hS3 : Same B w W3 := hch3.same hB hg
      have hr3 := hr.keep hS3
      have hl3 := fun x (hx : x ∈ l) => (hl x hx).keep hS3
      have HW3 := Lib.hid hW3
      clear hW3 hr hl hS3
      by_cases hlo : k < 1
      · first
        | (exfalso; omega)
        | (have hf := Lib.hid (ck_end H0 (shape_out (show withinB k 1 7 = false by simp [withinB]; omega)) (by decide))
           clear H0 ih hr3 hl3
           go_wp2
           rw [HW3.out]
           go_ret
           exact ⟨by rw [hf.out]; rfl, hch3, by rw [hf.out]; exact hone3⟩
           )
      by_cases hhi : 7 < k
      · first
        | (exfalso; omega)
        | (have hf := Lib.hid (ck_end H0 (shape_out (show withinB k 1 7 = false by simp [withinB]; omega)) (by decide))
           clear H0 ih hr3 hl3
           go_wp2
           rw [HW3.out]
           go_ret
           exact ⟨by rw [hf.out]; rfl, hch3, by rw [hf.out]; exact hone3⟩
           )
      have hwi : withinB k 1 7 = true := by simp [withinB]; omega
      cases hsc : scaleB k sc
      · have hf := Lib.hid (ck_end H0 (shape_sc hwi hsc) (by decide))
        have hcs : (k ≠ 3 ∧ sc ≠ 0) ∨ (k = 3 ∧ sc < 0) ∨ (k = 3 ∧ 12 < sc) := by
          unfold scaleB at hsc
          by_cases h3 : k = 3
          · rw [if_pos h3] at hsc
            simp only [withinB, Bool.and_eq_false_iff, decide_eq_false_iff_not] at hsc
            omega
          · rw [if_neg h3] at hsc
            exact .inl ⟨h3, by simpa using hsc⟩
        clear H0 ih hr3 hl3 hsc hwi
        rcases hcs with ⟨h3, hs0⟩ | ⟨h3, hs0⟩ | ⟨h3, hs0⟩
        · have n3 : (k != 3) = true := by simpa using h3
          have ns : (sc != 0) = true := by simpa using hs0
          clear h3 hs0
          go_wp2
          rw [HW3.out]
          go_ret
          exact ⟨by rw [hf.out]; rfl, hch3, by rw [hf.out]; exact hone3⟩
        · first
          | (exfalso; omega)
          | (subst h3
             have ns : (sc != 0) = true := by simp; omega
             go_wp2
             rw [HW3.out]
             go_ret
             exact ⟨by rw [hf.out]; rfl, hch3, by rw [hf.out]; exact hone3⟩
             )
        · first
          | (exfalso; omega)
          | (subst h3
             have ns : (sc != 0) = true := by simp; omega
             have ns2 : decide (sc < 0) = false := by simp; omega
             go_wp2
             rw [HW3.out]
             go_ret
             exact ⟨by rw [hf.out]; rfl, hch3, by rw [hf.out]; exact hone3⟩
             )
      have hsh := shape_fields (l := l) hwi hsc
      have hcs : sc = 0 ∨ (k = 3 ∧ 0 < sc ∧ sc ≤ 12) := by
        unfold scaleB at hsc
        by_cases h3 : k = 3
        · rw [if_pos h3] at hsc
          simp only [withinB, Bool.and_eq_true, decide_eq_true_eq] at hsc
          omega
        · rw [if_neg h3] at hsc
          exact .inl (by simpa using hsc)
      have hfi := Lib.hid (vfields_any k sc A cap len l hr3 hl3 (by omega) hlen)
      rw [hsh] at H0
      clear hsc hwi hsh
      rcases hcs with hs0 | ⟨h3, hs1, hs2⟩
      · subst hs0
        go_wp2_with fail
        rw [HW3.out]
        refine hfi.out.mono ?_
        rintro e w4 ⟨rfl, hb4⟩
        have hone4 := hone3.below hb4
        have hch4 := hch3.then_below hb4
        have hbx4 := (hb4.cell (p := ⟨w.heap.size, 2, none⟩) hz3).trans p2
        have hz4 : w.heap.size < w4.heap.size := Nat.lt_of_lt_of_le hz3 hb4.size
        have hr4 := hr3.keep (Same.mono (Same.of_below hb4) (by omega))
        have hl4 := fun x (hx : x ∈ l) => (hl3 x hx).keep (Same.mono (Same.of_below hb4) (by omega))
        clear hr3 hl3 p0 p1 p2 hb4 HW3 hone3 hch3 hfi
        by_cases hs0 : fieldsS k l = 0
        · have H1 : Hid (ckTs (lv + 1) c1 l = r) := by have := H0.out; rw [hs0, if_neg (by simp)] at this; exact this
          rw [hs0]
          clear hs0 H0
          go_wp2
          go_loopw [69] (fun i wr => ∃ (j : Nat) (c' : Int), j ≤ len ∧ i = .int .i64 j ∧ Ch g w wr ∧ One wr g c' ∧ 0 ≤ c' ∧ c' ≤ 40 ∧ w.heap.size < wr.heap.size ∧ Same B w4 wr ∧ Hid (ckTs (lv + 1) c' (l.drop j) = r)) (fun i _ => len - (intOf i).toNat)
          case atStart => exact ⟨0, c1, Nat.zero_le _, rfl, hch4, hone4, hc10, hc11, hz4, Same.refl _ _, H1⟩
          case round =>
            obtain ⟨j, c', hj, rfl, hch, hon, hc'0, hc'1, hbs, hsm, HR⟩ := hrel
            by_cases hlt : j < len
            · obtain ⟨x, ad, hx, rfl, hb, d0, d1, d2, d3, d4, d5⟩ := (hr4.keep hsm).get (show j < l.length by rw [hlen.out]; exact hlt)
              have hxi := (hl4 x (mem_of_get? hx)).keep hsm
              obtain ⟨o1, ho1⟩ : ∃ o1, Obj.cells #[.int .i64 x.a.id, .string x.a.nm, .bool x.a.nd, .int .i64 x.a.k, .int .i64 x.a.sc, .slice x.a.A x.l.length x.a.cap] 77 = o1 := ⟨_, rfl⟩
              obtain ⟨W5, hW5⟩ : ∃ W5, wr.alloc o1 = W5 := ⟨_, rfl⟩
              have hbW : Below wr.heap.size wr W5 := by rw [← hW5]; exact bel1 _ _
              have hzW : wr.heap.size ≤ W5.heap.size := hbW.size
              have hBr : B ≤ wr.heap.size := by have := hch.size; omega
              have hic := ih x (mem_of_get? hx) (lv + 1) c' g B W5 (hxi.keep (Same.mono (Same.of_below hbW) hBr)) (by omega) hg (hon.below hbW) (by omega) (by omega) hc'0 hc'1
              obtain ⟨f, c2, hfc⟩ : ∃ f c2, ckT (lv + 1) c' x = (f, c2) := ⟨_, _, rfl⟩
              have hbd := ckT_bd x (lv + 1) c' hc'0 hc'1
              rw [hfc] at hic hbd
              have HR2 := HR.out
              rw [drop_of_get? hx] at HR2
              unfold ckTs at HR2
              rw [hfc] at HR2
              have Hic := Lib.hid hic
              have HR3 := Lib.hid HR2
              have HW5 := Lib.hid hW5
              have Ho1 := Lib.hid ho1
              have hchW : Ch g w W5 := hch.then_below hbW
              have hsmW : Same B w4 W5 := hsm.trans (Same.mono (Same.of_below hbW) hBr)
              clear HR2 hic hfc HR hxi hr4 hl4 ih hx hbx4 hW5 ho1
              by_cases hf0 : f = 0
              · subst hf0
                have HR4 : Hid (ckTs (lv + 1) c2 (l.drop (j + 1)) = r) := by have := HR3.out; rw [if_neg (by simp)] at this; exact this
                go_wp2_with fail
                rw [Ho1.out, HW5.out]
                refine Hic.out.mono ?_
                rintro e w6 ⟨rfl, hch3, hon3⟩
                go_wp2
                go_roundw
                case rel => exact ⟨j + 1, c2, by omega, by go_num, hchW.trans hch3, hon3, hbd.1, hbd.2, by have := hch3.size; omega, hsmW.trans (hch3.same (by omega) hg), HR4⟩
                case measure => simp [intOf]; omega
              · have HR4 : Hid ((f, c2) = r) := by have := HR3.out; rw [if_pos (by simpa using hf0)] at this; exact this
                have nf : (f != 0) = true := by simpa using hf0
                clear hf0
                go_wp2_with fail
                rw [Ho1.out, HW5.out]
                refine Hic.out.mono ?_
                rintro e w6 ⟨rfl, hch3, hon3⟩
                go_wp2
                go_ret
                exact ⟨by rw [← HR4.out]; rfl, hchW.trans hch3, by rw [← HR4.out]; exact hon3⟩
            · have HR2 : Hid ((0, c') = r) := by have := HR.out; rw [List.drop_eq_nil_of_le (by rw [hlen.out]; omega)] at this; unfold ckTs at this; exact this
              go_wp2
              go_ret
              exact ⟨by rw [← HR2.out]; rfl, hch, by rw [← HR2.out]; exact hon⟩
        · have hs0' : (fieldsS k l != 0) = true := by simpa using hs0
          have H1 : Hid ((fieldsS k l, c1) = r) := by have := H0.out; rw [if_pos hs0] at this; exact this
          clear hs0
          go_wp2
          go_ret
          exact ⟨by rw [← H1.out]; rfl, hch4, by rw [← H1.out]; exact hone4⟩
      · first
        | (exfalso; omega)
        | (subst h3
           have ns : (sc != 0) = true := by simp; omega
           go_wp2_with fail
           rw [HW3.out]
           refine hfi.out.mono ?_
           rintro e w4 ⟨rfl, hb4⟩
           have hone4 := hone3.below hb4
           have hch4 := hch3.then_below hb4
           have hbx4 := (hb4.cell (p := ⟨w.heap.size, 2, none⟩) hz3).trans p2
           have hz4 : w.heap.size < w4.heap.size := Nat.lt_of_lt_of_le hz3 hb4.size
           have hr4 := hr3.keep (Same.mono (Same.of_below hb4) (by omega))
           have hl4 := fun x (hx : x ∈ l) => (hl3 x hx).keep (Same.mono (Same.of_below hb4) (by omega))
           clear hr3 hl3 p0 p1 p2 hb4 HW3 hone3 hch3 hfi
           by_cases hs0 : fieldsS 3 l = 0
           · have H1 : Hid (ckTs (lv + 1) c1 l = r) := by have := H0.out; rw [hs0, if_neg (by simp)] at this; exact this
             rw [hs0]
             clear hs0 H0
             go_wp2
             go_loopw [69] (fun i wr => ∃ (j : Nat) (c' : Int), j ≤ len ∧ i = .int .i64 j ∧ Ch g w wr ∧ One wr g c' ∧ 0 ≤ c' ∧ c' ≤ 40 ∧ w.heap.size < wr.heap.size ∧ Same B w4 wr ∧ Hid (ckTs (lv + 1) c' (l.drop j) = r)) (fun i _ => len - (intOf i).toNat)
             case atStart => exact ⟨0, c1, Nat.zero_le _, rfl, hch4, hone4, hc10, hc11, hz4, Same.refl _ _, H1⟩
             case round =>
               obtain ⟨j, c', hj, rfl, hch, hon, hc'0, hc'1, hbs, hsm, HR⟩ := hrel
               by_cases hlt : j < len
               · obtain ⟨x, ad, hx, rfl, hb, d0, d1, d2, d3, d4, d5⟩ := (hr4.keep hsm).get (show j < l.length by rw [hlen.out]; exact hlt)
                 have hxi := (hl4 x (mem_of_get? hx)).keep hsm
                 obtain ⟨o1, ho1⟩ : ∃ o1, Obj.cells #[.int .i64 x.a.id, .string x.a.nm, .bool x.a.nd, .int .i64 x.a.k, .int .i64 x.a.sc, .slice x.a.A x.l.length x.a.cap] 77 = o1 := ⟨_, rfl⟩
                 obtain ⟨W5, hW5⟩ : ∃ W5, wr.alloc o1 = W5 := ⟨_, rfl⟩
                 have hbW : Below wr.heap.size wr W5 := by rw [← hW5]; exact bel1 _ _
                 have hzW : wr.heap.size ≤ W5.heap.size := hbW.size
                 have hBr : B ≤ wr.heap.size := by have := hch.size; omega
                 have hic := ih x (mem_of_get? hx) (lv + 1) c' g B W5 (hxi.keep (Same.mono (Same.of_below hbW) hBr)) (by omega) hg (hon.below hbW) (by omega) (by omega) hc'0 hc'1
                 obtain ⟨f, c2, hfc⟩ : ∃ f c2, ckT (lv + 1) c' x = (f, c2) := ⟨_, _, rfl⟩
                 have hbd := ckT_bd x (lv + 1) c' hc'0 hc'1
                 rw [hfc] at hic hbd
                 have HR2 := HR.out
                 rw [drop_of_get? hx] at HR2
                 unfold ckTs at HR2
                 rw [hfc] at HR2
                 have Hic := Lib.hid hic
                 have HR3 := Lib.hid HR2
                 have HW5 := Lib.hid hW5
                 have Ho1 := Lib.hid ho1
                 have hchW : Ch g w W5 := hch.then_below hbW
                 have hsmW : Same B w4 W5 := hsm.trans (Same.mono (Same.of_below hbW) hBr)
                 clear HR2 hic hfc HR hxi hr4 hl4 ih hx hbx4 hW5 ho1
                 by_cases hf0 : f = 0
                 · subst hf0
                   have HR4 : Hid (ckTs (lv + 1) c2 (l.drop (j + 1)) = r) := by have := HR3.out; rw [if_neg (by simp)] at this; exact this
                   go_wp2_with fail
                   rw [Ho1.out, HW5.out]
                   refine Hic.out.mono ?_
                   rintro e w6 ⟨rfl, hch3, hon3⟩
                   go_wp2
                   go_roundw
                   case rel => exact ⟨j + 1, c2, by omega, by go_num, hchW.trans hch3, hon3, hbd.1, hbd.2, by have := hch3.size; omega, hsmW.trans (hch3.same (by omega) hg), HR4⟩
                   case measure => simp [intOf]; omega
                 · have HR4 : Hid ((f, c2) = r) := by have := HR3.out; rw [if_pos (by simpa using hf0)] at this; exact this
                   have nf : (f != 0) = true := by simpa using hf0
                   clear hf0
                   go_wp2_with fail
                   rw [Ho1.out, HW5.out]
                   refine Hic.out.mono ?_
                   rintro e w6 ⟨rfl, hch3, hon3⟩
                   go_wp2
                   go_ret
                   exact ⟨by rw [← HR4.out]; rfl, hchW.trans hch3, by rw [← HR4.out]; exact hon3⟩
               · have HR2 : Hid ((0, c') = r) := by have := HR.out; rw [List.drop_eq_nil_of_le (by rw [hlen.out]; omega)] at this; unfold ckTs at this; exact this
                 go_wp2
                 go_ret
                 exact ⟨by rw [← HR2.out]; rfl, hch, by rw [← HR2.out]; exact hon⟩
           · have hs0' : (fieldsS 3 l != 0) = true := by simpa using hs0
             have H1 : Hid ((fieldsS 3 l, c1) = r) := by have := H0.out; rw [if_pos hs0] at this; exact this
             clear hs0
             go_wp2
             go_ret
             exact ⟨by rw [← H1.out]; rfl, hch4, by rw [← H1.out]; exact hone4⟩
           )
set_option maxRecDepth 100000 in
set_option maxHeartbeats 1000000 in
theorem vCheckType_any (t : FT) (B : Nat) (w : World) (hin : FT.In B w t) (hB : B ≤ w.heap.size) :
    Calls Tryd.prog 45 #[.agg #[.int .i64 t.a.k, .int .i64 t.a.sc, .slice t.a.A t.l.length t.a.cap]] w fun e w' => e = .returned (.int .i64 (ctS t)) ∧ Below w.heap.size w w' := by
  have hc := fun (o : Obj) => vcheck_any t 1 0 (w.heap.size + 1) B ((w.alloc o).alloc (.cells #[.int .i64 0] 93)) (hin.keep (((Same.refl B w).alloc hB o).alloc (show B ≤ (w.alloc o).heap.size by simp; omega) _)) (by simp; omega) (by omega) (by have := One.new (w.alloc o) 93 0; simpa using this) (by omega) (by omega) (by omega) (by omega)
  have Hc := Lib.hid hc
  clear hc hin
  go_enter Tryd.func45, Tryd.ntmps45
  go_wp2_with (go_at_call 69; refine (Hc.out _).mono ?_; rintro e w' ⟨rfl, hch, hon⟩)
  go_ret
  refine ⟨rfl, ?_⟩
  have h1 : Ch (w.heap.size + 1) w ((w.alloc (.cells #[.int .i64 t.a.k, .int .i64 t.a.sc, .slice t.a.A t.l.length t.a.cap] 24)).alloc (.cells #[.int .i64 0] 93)) := ((Ch.refl _ w).alloc _).alloc _
  exact (h1.trans hch).below (by omega)
end Go.Proofs.YtcpbbagppkcilaaDoor
