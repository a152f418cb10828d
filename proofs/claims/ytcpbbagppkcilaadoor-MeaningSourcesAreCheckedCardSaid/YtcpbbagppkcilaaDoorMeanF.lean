/-
  Package meaning: rows of types.
-/
import Derived.Test.YtcpbbagppkcilaaDoorData3
import Derived.Test.YtcpbbagppkcilaaDoorValJ
import Derived.Test.YtcpbbagppkcilaaDoorStill
namespace Go.Proofs.YtcpbbagppkcilaaDoor
open Go.RowKit
def rowI : List FT → List VT → Int
  | t :: q, x :: r => if checkS t x ≠ 0 then checkS t x else rowI q r
  | _, _ => 0
def checkRowS (ts : List FT) (l : List VT) : Int := if l.length ≠ ts.length then 1 else rowI ts l
def rowsS (ts : List FT) : List VT → Int
  | [] => 0
  | x :: r => if checkRowS ts x.l ≠ 0 then checkRowS ts x.l else rowsS ts r
theorem rowI_cons (t : FT) (q : List FT) (x : VT) (r : List VT) : rowI (t :: q) (x :: r) = if checkS t x ≠ 0 then checkS t x else rowI q r := rfl
theorem rowI_nil (ts : List FT) : rowI ts [] = 0 := by cases ts <;> rfl
set_option maxRecDepth 100000 in
set_option maxHeartbeats 2000000 in
theorem mcheckRow_any (TA A : Option Addr) (tcap cap flen len : Nat) (ts : List FT) (l : List VT) (B : Nat) (w : World) (htr : FT.TRow B w TA tcap ts) (hr : VT.Rows B w A cap l) (hT : Tabs B w) (hB : B ≤ w.heap.size) (hflen : Hid (ts.length = flen)) (hlen : Hid (l.length = len)) :
    Calls Tryd.prog 66 #[.slice TA flen tcap, .slice A len cap] w fun e w' => e = .returned (.int .i64 (checkRowS ts l)) ∧ Below w.heap.size w w' := by
  have hll : len ≤ 9223372036854775807 := by rw [← hlen.out]; exact Nat.le_trans hr.1.1 hr.1.2.1
  have hfll : flen ≤ 9223372036854775807 := by rw [← hflen.out]; exact Nat.le_trans htr.1 htr.2.1
  obtain ⟨R, hR⟩ : ∃ R, checkRowS ts l = R := ⟨_, rfl⟩
  rw [hR]
  unfold checkRowS at hR
  rw [hlen.out, hflen.out] at hR
  by_cases hne : len = flen
  · subst hne
    have HR := Lib.hid (show rowI ts l = R by rw [← hR, if_neg (by simp)])
    clear hR
    go_enter Tryd.func66, Tryd.ntmps66
    go_wp2
    go_loopw [15] (fun i wr => ∃ j : Nat, j ≤ len ∧ i = .int .i64 j ∧ Below w.heap.size w wr ∧ Hid (rowI (ts.drop j) (l.drop j) = R)) (fun i _ => len - (intOf i).toNat)
    case atStart => exact ⟨0, Nat.zero_le _, rfl, Below.refl _ _, HR⟩
    case round =>
      obtain ⟨j, hj, rfl, hbr, HRj⟩ := hrel
      by_cases hlt : j < len
      · have hSr := Same.mono (Same.of_below hbr) hB
        obtain ⟨x, ad, hx, rfl, hb, d0, d1, d2, d3, d4⟩ := (hr.1.keep hSr).get (show j < l.length by rw [hlen.out]; exact hlt)
        obtain ⟨t, tad, ht, rfl, htb, f0, f1, f2⟩ := (htr.keep hSr).get (show j < ts.length by rw [hflen.out]; exact hlt)
        have hzr := hbr.size
        obtain ⟨o1, ho1⟩ : ∃ o1, Obj.cells #[.int .i64 x.a.k, .int .i64 x.a.n, .int .i64 x.a.sc, .string x.a.s, .slice x.a.A x.l.length x.a.cap] 50 = o1 := ⟨_, rfl⟩
        obtain ⟨W1, hW1⟩ : ∃ W1, wr.alloc o1 = W1 := ⟨_, rfl⟩
        have hbW1 : Below w.heap.size w W1 := by rw [← hW1]; exact hbr.alloc hzr _
        have hS1 : Same B w W1 := Same.mono (Same.of_below hbW1) hB
        have g0 : W1.cell? ⟨wr.heap.size, 0, none⟩ = some (.int .i64 x.a.k) := by rw [← hW1, ← ho1, cell_new]; rfl
        have g1 : W1.cell? ⟨wr.heap.size, 1, none⟩ = some (.int .i64 x.a.n) := by rw [← hW1, ← ho1, cell_new]; rfl
        have g2 : W1.cell? ⟨wr.heap.size, 2, none⟩ = some (.int .i64 x.a.sc) := by rw [← hW1, ← ho1, cell_new]; rfl
        have g3 : W1.cell? ⟨wr.heap.size, 3, none⟩ = some (.string x.a.s) := by rw [← hW1, ← ho1, cell_new]; rfl
        have g4 : W1.cell? ⟨wr.heap.size, 4, none⟩ = some (.slice x.a.A x.l.length x.a.cap) := by rw [← hW1, ← ho1, cell_new]; rfl
        have k0 : W1.cell? (tad.add (j * 3)) = some (.int .i64 t.a.k) := by rw [← hW1]; exact cell_old f0 _
        have k1 : W1.cell? ⟨(tad.add (j * 3)).block, (tad.add (j * 3)).off + 1, none⟩ = some (.int .i64 t.a.sc) := by rw [← hW1]; exact cell_old f1 _
        have k2 : W1.cell? ⟨(tad.add (j * 3)).block, (tad.add (j * 3)).off + 2, none⟩ = some (.slice t.a.A t.l.length t.a.cap) := by rw [← hW1]; exact cell_old f2 _
        have hz1 : w.heap.size ≤ W1.heap.size := hbW1.size
        have hic := Lib.hid (vCheck_any t x B W1.drew ((htr.2.2.1 t (mem_of_get? ht)).keep hS1) ((hr.2 x (mem_of_get? hx)).keep hS1) (hT.keep hS1) (show B ≤ W1.heap.size by omega))
        have HR2 := HRj.out
        rw [drop_of_get? hx, drop_of_get? ht, rowI_cons] at HR2
        have HW1 := Lib.hid hW1
        have Ho1 := Lib.hid ho1
        clear hW1 ho1 HRj f0 f1 f2 hr htr hx ht hT
        by_cases h0 : checkS t x = 0
        · have H0 := Lib.hid h0
          have HR3 := Lib.hid (show rowI (ts.drop (j + 1)) (l.drop (j + 1)) = R by rw [← HR2, if_neg (by simp [h0])])
          clear h0 HR2
          go_wp2_with fail
          rw [Ho1.out, HW1.out]
          (generalize hA0 : Act.mk _ _ = A0; refine wp_region_still_tail 5 (by kernel_rfl) (by kernel_rfl) ?_; simp only [List.take_succ_cons, List.take_zero, List.drop_succ_cons, List.drop_zero]; (iterate 5 (refine st_want (by rw [← hA0]; rfl) (fun K hK => ?_); subst hA0; go_simp; generalize hA0 : Act.mk _ _ = A0; refine hK A0 ?_; clear hK K)); refine wpStill_nil ?_; subst hA0)
          change wpList _ _ _ _ _ W1.drew
          go_wp2_with fail
          refine hic.out.mono ?_
          rintro e w' ⟨rfl, hb2⟩
          rw [H0.out]
          go_wp2
          go_roundw
          case rel => exact ⟨j + 1, by omega, by go_num, hbW1.drew.trans (hb2.mono hz1), HR3⟩
          case measure => simp [intOf]; omega
        · have n0 : (checkS t x != 0) = true := by simpa using h0
          have HR3 := Lib.hid (show checkS t x = R by rw [← HR2, if_pos h0])
          clear h0 HR2
          go_wp2_with fail
          rw [Ho1.out, HW1.out]
          (generalize hA0 : Act.mk _ _ = A0; refine wp_region_still_tail 5 (by kernel_rfl) (by kernel_rfl) ?_; simp only [List.take_succ_cons, List.take_zero, List.drop_succ_cons, List.drop_zero]; (iterate 5 (refine st_want (by rw [← hA0]; rfl) (fun K hK => ?_); subst hA0; go_simp; generalize hA0 : Act.mk _ _ = A0; refine hK A0 ?_; clear hK K)); refine wpStill_nil ?_; subst hA0)
          change wpList _ _ _ _ _ W1.drew
          go_wp2_with fail
          refine hic.out.mono ?_
          rintro e w' ⟨rfl, hb2⟩
          go_wp2
          go_ret
          exact ⟨by rw [← HR3.out]; rfl, hbW1.drew.trans (hb2.mono hz1)⟩
      · have HR3 : Hid (0 = R) := by have := HRj.out; rw [show l.drop j = [] from List.drop_eq_nil_of_le (by rw [hlen.out]; omega), rowI_nil] at this; exact this
        go_wp2
        go_ret
        exact ⟨by rw [← HR3.out]; rfl, hbr⟩
  · have n1 : ((len : Int) != (flen : Int)) = true := by simp; omega
    have HR := Lib.hid (show 1 = R by rw [← hR, if_pos hne])
    clear hR hne
    go_enter Tryd.func66, Tryd.ntmps66
    go_wp2
    go_ret
    exact ⟨by rw [← HR.out]; rfl, Below.refl _ _⟩
set_option maxRecDepth 100000 in
set_option maxHeartbeats 2000000 in
theorem mcheckRows_any (TA A : Option Addr) (tcap cap flen len : Nat) (ts : List FT) (l : List VT) (B : Nat) (w : World) (htr : FT.TRow B w TA tcap ts) (hr : VT.RRow B w A cap l) (hT : Tabs B w) (hB : B ≤ w.heap.size) (hflen : Hid (ts.length = flen)) (hlen : Hid (l.length = len)) :
    Calls Tryd.prog 39 #[.slice TA flen tcap, .slice A len cap] w fun e w' => e = .returned (.int .i64 (rowsS ts l)) ∧ Below w.heap.size w w' := by
  have hll : len ≤ 9223372036854775807 := by rw [← hlen.out]; exact Nat.le_trans hr.1 hr.2.1
  obtain ⟨R, hR⟩ : ∃ R, rowsS ts l = R := ⟨_, rfl⟩
  rw [hR]
  have HR := Lib.hid hR
  clear hR
  go_enter Tryd.func39, Tryd.ntmps39
  go_wp2
  go_loopw [10] (fun i wr => ∃ j : Nat, j ≤ len ∧ i = .int .i64 j ∧ Below w.heap.size w wr ∧ Hid (rowsS ts (l.drop j) = R)) (fun i _ => len - (intOf i).toNat)
  case atStart => exact ⟨0, Nat.zero_le _, rfl, Below.refl _ _, HR⟩
  case round =>
    obtain ⟨j, hj, rfl, hbr, HRj⟩ := hrel
    by_cases hlt : j < len
    · have hSr := Same.mono (Same.of_below hbr) hB
      obtain ⟨x, ad, hx, rfl, hb, d0⟩ := (hr.keep hSr).get (show j < l.length by rw [hlen.out]; exact hlt)
      have hzr := hbr.size
      have hic := Lib.hid (mcheckRow_any TA x.a.A tcap x.a.cap flen x.l.length ts x.l B wr (htr.keep hSr) ((hr.2.2.1 x (mem_of_get? hx)).keep hSr) (hT.keep hSr) (by omega) hflen rfl)
      have HR2 := HRj.out
      rw [drop_of_get? hx] at HR2
      unfold rowsS at HR2
      by_cases h0 : checkRowS ts x.l = 0
      · have H0 := Lib.hid h0
        have HR3 := Lib.hid (show rowsS ts (l.drop (j + 1)) = R by rw [← HR2, if_neg (by simp [h0])])
        clear h0 HR2 HRj hr hx htr
        go_wp2_with fail
        refine hic.out.mono ?_
        rintro e w' ⟨rfl, hb2⟩
        rw [H0.out]
        go_wp2
        go_roundw
        case rel => exact ⟨j + 1, by omega, by go_num, hbr.trans (hb2.mono hzr), HR3⟩
        case measure => simp [intOf]; omega
      · have n0 : (checkRowS ts x.l != 0) = true := by simpa using h0
        have HR3 := Lib.hid (show checkRowS ts x.l = R by rw [← HR2, if_pos h0])
        clear h0 HR2 HRj hr hx htr
        go_wp2_with fail
        refine hic.out.mono ?_
        rintro e w' ⟨rfl, hb2⟩
        go_wp2
        go_ret
        exact ⟨by rw [← HR3.out]; rfl, hbr.trans (hb2.mono hzr)⟩
    · have HR3 : Hid (0 = R) := by have := HRj.out; rw [show l.drop j = [] from List.drop_eq_nil_of_le (by rw [hlen.out]; omega)] at this; exact this
      go_wp2
      go_ret
      exact ⟨by rw [← HR3.out]; rfl, hbr⟩
end Go.Proofs.YtcpbbagppkcilaaDoor
