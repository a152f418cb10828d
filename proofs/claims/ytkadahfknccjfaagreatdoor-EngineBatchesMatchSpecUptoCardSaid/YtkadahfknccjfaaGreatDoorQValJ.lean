/-
  Package value: values of a type.
  Package value: values that are lacking.
  Package value: Sound and Check.
-/
import Derived.Test.YtkadahfknccjfaaGreatDoorQData3
import Derived.Test.YtkadahfknccjfaaGreatDoorQSpec2
import Derived.Test.YtkadahfknccjfaaGreatDoorQStill
import Derived.Test.YtkadahfknccjfaaGreatDoorQRefK
import Derived.Test.YtkadahfknccjfaaGreatDoorQLib2
import Derived.Test.YtkadahfknccjfaaGreatDoorQValD
import Derived.Test.YtkadahfknccjfaaGreatDoorQValG
import Derived.Test.YtkadahfknccjfaaGreatDoorProg
import Derived.WalkLawsBesides
import Derived.WalkSpells
import Derived.Outline
import Derived.Lib.Hide
namespace Go.Proofs.YtkadahfknccjfaaGreatDoor
open Go.RowKit
set_option maxRecDepth 100000 in
set_option maxHeartbeats 1000000 in
theorem vof1_any (x : VT) (tx : FT) (tb len tcap : Nat) (tad : Addr) (f : Bool) (W : World) (hlen : 0 < len) (h2 : W.cell? ⟨tb, 2, none⟩ = some (.slice (some tad) len tcap))
    (e3 : W.cell? ⟨tad.block, tad.off + 3, none⟩ = some (.int .i64 tx.a.k)) (e4 : W.cell? ⟨tad.block, tad.off + 4, none⟩ = some (.int .i64 tx.a.sc)) (e5 : W.cell? ⟨tad.block, tad.off + 5, none⟩ = some (.slice tx.a.A tx.l.length tx.a.cap))
    (hc : ∀ o, Calls Tryz.prog 53 #[.agg #[.int .i64 tx.a.k, .int .i64 tx.a.sc, .slice tx.a.A tx.l.length tx.a.cap], .agg #[.int .i64 x.a.k, .int .i64 x.a.n, .int .i64 x.a.sc, .string x.a.s, .slice x.a.A x.l.length x.a.cap]] (W.alloc o).drew fun e w' => e = .returned (.bool f) ∧ Below (W.alloc o).heap.size (W.alloc o).drew w') :
    Calls Tryz.prog 75 #[.agg #[.int .i64 x.a.k, .int .i64 x.a.n, .int .i64 x.a.sc, .string x.a.s, .slice x.a.A x.l.length x.a.cap], .pointer (some ⟨tb, 0, none⟩)] W fun e w' => e = .returned (.bool !f) ∧ Below W.heap.size W w' := by
  obtain ⟨o1, ho1⟩ : ∃ o1, Obj.cells #[.int .i64 x.a.k, .int .i64 x.a.n, .int .i64 x.a.sc, .string x.a.s, .slice x.a.A x.l.length x.a.cap] 61 = o1 := ⟨_, rfl⟩
  obtain ⟨W1, hW1⟩ : ∃ W1, W.alloc o1 = W1 := ⟨_, rfl⟩
  have g0 : W1.cell? ⟨W.heap.size, 0, none⟩ = some (.int .i64 x.a.k) := by rw [← hW1, ← ho1, cell_new]; rfl
  have g1 : W1.cell? ⟨W.heap.size, 1, none⟩ = some (.int .i64 x.a.n) := by rw [← hW1, ← ho1, cell_new]; rfl
  have g2 : W1.cell? ⟨W.heap.size, 2, none⟩ = some (.int .i64 x.a.sc) := by rw [← hW1, ← ho1, cell_new]; rfl
  have g3 : W1.cell? ⟨W.heap.size, 3, none⟩ = some (.string x.a.s) := by rw [← hW1, ← ho1, cell_new]; rfl
  have g4 : W1.cell? ⟨W.heap.size, 4, none⟩ = some (.slice x.a.A x.l.length x.a.cap) := by rw [← hW1, ← ho1, cell_new]; rfl
  have k2 : W1.cell? ⟨tb, 2, none⟩ = some (.slice (some tad) len tcap) := by rw [← hW1]; exact cell_old h2 _
  have k3 : W1.cell? ⟨tad.block, tad.off + 3, none⟩ = some (.int .i64 tx.a.k) := by rw [← hW1]; exact cell_old e3 _
  have k4 : W1.cell? ⟨tad.block, tad.off + 4, none⟩ = some (.int .i64 tx.a.sc) := by rw [← hW1]; exact cell_old e4 _
  have k5 : W1.cell? ⟨tad.block, tad.off + 5, none⟩ = some (.slice tx.a.A tx.l.length tx.a.cap) := by rw [← hW1]; exact cell_old e5 _
  have hbW : Below W.heap.size W W1 := by rw [← hW1]; exact bel1 _ _
  have Hc := hc o1
  rw [hW1] at Hc
  have Hc := Lib.hid Hc
  have HW1 := Lib.hid hW1
  have Ho1 := Lib.hid ho1
  have hz := hbW.size
  clear hW1 ho1 h2 e3 e4 e5 hc
  go_enter Tryz.func75, Tryz.ntmps75
  go_wp2_with fail
  rw [Ho1.out, HW1.out]
  (generalize hA0 : Act.mk _ _ = A0; refine wp_region_still_tail 6 (by kernel_rfl) (by kernel_rfl) ?_; simp only [List.take_succ_cons, List.take_zero, List.drop_succ_cons, List.drop_zero]; (iterate 6 (refine st_want (by rw [← hA0]; rfl) (fun K hK => ?_); subst hA0; go_simp; generalize hA0 : Act.mk _ _ = A0; refine hK A0 ?_; clear hK K)); refine wpStill_nil ?_; subst hA0)
  change wpList _ _ _ _ _ W1.drew
  go_wp2_with fail
  refine Hc.out.mono ?_
  rintro e w' ⟨rfl, hb⟩
  go_wp2
  go_ret
  exact ⟨rfl, hbW.drew.trans (hb.mono hz)⟩
set_option maxRecDepth 100000 in
set_option maxHeartbeats 1000000 in
theorem vof2_any (x : VT) (tx : FT) (f : Bool) (W : World)
    (hc : ∀ o o2, Calls Tryz.prog 53 #[.agg #[.int .i64 tx.a.k, .int .i64 tx.a.sc, .slice tx.a.A tx.l.length tx.a.cap], .agg #[.int .i64 x.a.k, .int .i64 x.a.n, .int .i64 x.a.sc, .string x.a.s, .slice x.a.A x.l.length x.a.cap]] ((W.alloc o).alloc o2) fun e w' => e = .returned (.bool f) ∧ Below ((W.alloc o).alloc o2).heap.size ((W.alloc o).alloc o2) w') :
    Calls Tryz.prog 77 #[.agg #[.int .i64 tx.a.id, .string tx.a.nm, .bool tx.a.nd, .int .i64 tx.a.k, .int .i64 tx.a.sc, .slice tx.a.A tx.l.length tx.a.cap], .agg #[.int .i64 x.a.k, .int .i64 x.a.n, .int .i64 x.a.sc, .string x.a.s, .slice x.a.A x.l.length x.a.cap]] W fun e w' => e = .returned (.bool f) ∧ Below W.heap.size W w' := by
  have Hc := Lib.hid hc
  clear hc
  go_enter Tryz.func77, Tryz.ntmps77
  go_wp2_with fail
  refine (Hc.out _ _).mono ?_
  rintro e w' ⟨rfl, hb⟩
  go_wp2
  go_ret
  exact ⟨rfl, (bel2 _ _ _).trans (hb.mono (by simp; omega))⟩
def OfSt (w : World) (k : Int) (fl : List FT) (l : List VT) (R : Bool) (j : Nat) (W : World) : Prop := Below w.heap.size w W ∧ ofI k fl j (l.drop j) = R
def OfFin (w : World) (R : Bool) (W : World) : Prop := Below w.heap.size w W ∧ R = false
set_option maxRecDepth 100000 in
set_option maxHeartbeats 4000000 in
theorem vof_any : ∀ (v : VT) (t : FT) (B : Nat) (w : World), VT.In B w v → FT.In B w t → TOk t → VOk v → B ≤ w.heap.size →
    Calls Tryz.prog 53 #[.agg #[.int .i64 t.a.k, .int .i64 t.a.sc, .slice t.a.A t.l.length t.a.cap], .agg #[.int .i64 v.a.k, .int .i64 v.a.n, .int .i64 v.a.sc, .string v.a.s, .slice v.a.A v.l.length v.a.cap]] w
      fun e w' => e = .returned (.bool (ofT t v)) ∧ Below w.heap.size w w' := by
  refine VT.ind fun a l ih t B w hin htin hto hvo hB => ?_
  obtain ⟨f, fl⟩ := t
  obtain ⟨id, nm, nd, tk, tsc, TA, tcap⟩ := f
  obtain ⟨k, n, sc, s, A, cap⟩ := a
  obtain ⟨_, _, _, hss, hr, hl⟩ := hin.parts
  obtain ⟨_, _, _, _, htr, htl⟩ := htin.parts
  obtain ⟨htk1, htk7, htk6, htsc, htox⟩ := hto.inv
  obtain ⟨hvl, hvs, hvox⟩ := hvo.inv
  simp only [VT.a_node, VT.l_node, FT.a_node, FT.l_node] at *
  obtain ⟨len, hlen⟩ : ∃ len, l.length = len := ⟨_, rfl⟩
  have hll : len ≤ 9223372036854775807 := by rw [← hlen]; exact Nat.le_trans hr.1 hr.2.1
  obtain ⟨flen, hflen⟩ : ∃ flen, fl.length = flen := ⟨_, rfl⟩
  have hfll : flen ≤ 9223372036854775807 := by rw [← hflen]; exact Nat.le_trans htr.1 htr.2.1
  obtain ⟨R, hR⟩ : ∃ R, ofT (.node ⟨id, nm, nd, tk, tsc, TA, tcap⟩ fl) (.node ⟨k, n, sc, s, A, cap⟩ l) = R := ⟨_, rfl⟩
  rw [hR]
  unfold ofT at hR
  simp only [] at hR
  rw [hlen, hflen] at hR ⊢
  have hlen' := Lib.hid hlen
  have hflen' := Lib.hid hflen
  clear hlen hflen
  have hlen := hlen'
  have hflen := hflen'
  clear hlen' hflen' hin htin hto hvo hss
  by_cases hk0 : k = 0
  · subst hk0
    have HR := Lib.hid (show true = R by rw [← hR, if_pos rfl])
    clear ih hr htr hl htl htox hvox hvl htk6 hR hvs htsc
    go_enter Tryz.func53, Tryz.ntmps53
    go_wp2
    go_ret
    exact ⟨by rw [← HR.out]; rfl, bel2 _ _ _⟩
  rw [if_neg hk0] at hR
  have nk0 : (k == 0) = false := by simpa using hk0
  by_cases hkt : k = tk
  · subst hkt
    rw [if_neg (by simp)] at hR
    by_cases h3 : k = 3
    · subst h3
      have hl0 := hvl (by decide) (by decide)
      subst hl0
      obtain rfl : len = 0 := by rw [← hlen.out]; rfl
      clear ih hr htr hl htl htox hvox hvl htk6 hvs htsc
      by_cases hsc : sc = tsc
      · subst hsc
        have HR := Lib.hid (show true = R by rw [← hR, if_neg (by simp), if_neg (by simp)]; unfold ofI; rfl)
        clear hR hk0
        go_enter Tryz.func53, Tryz.ntmps53
        go_wp2
        go_ret
        exact ⟨by rw [← HR.out]; simp, bel2 _ _ _⟩
      · have HR := Lib.hid (show false = R by rw [← hR, if_pos hsc])
        have ns : (sc == tsc) = false := by simpa using hsc
        clear hR hk0 hsc
        go_enter Tryz.func53, Tryz.ntmps53
        go_wp2
        go_ret
        exact ⟨by rw [← HR.out]; rfl, bel2 _ _ _⟩
    have e3 : (k == 3) = false := by simpa using h3
    obtain rfl : sc = 0 := hvs h3
    obtain rfl : tsc = 0 := htsc h3
    rw [if_neg (by simp)] at hR
    obtain ⟨W0, hW0⟩ : ∃ W0, ((w.alloc (.cells #[.int .i64 k, .int .i64 0, .slice TA flen tcap] 50)).alloc (.cells #[.int .i64 k, .int .i64 n, .int .i64 0, .string s, .slice A len cap] 61)) = W0 := ⟨_, rfl⟩
    have hbw : Below w.heap.size w W0 := by rw [← hW0]; exact bel2 _ _ _
    have hsz : w.heap.size + 1 < W0.heap.size := by rw [← hW0]; simp
    have hb2 : W0.cell? ⟨w.heap.size, 2, none⟩ = some (.slice TA flen tcap) := by rw [← hW0]; simp
    have hS0 := Same.mono (Same.of_below hbw) hB
    have hrW := hr.keep hS0
    have htrW := htr.keep hS0
    have hlW := fun x (hx : x ∈ l) => (hl x hx).keep hS0
    have htlW := fun x (hx : x ∈ fl) => (htl x hx).keep hS0
    have HW0 := Lib.hid hW0
    clear hW0 hr htr hl htl hS0 hvs htsc
    by_cases h6 : k = 6
    · subst h6
      rw [if_neg (by simp)] at hR
      have hfl1 : flen = 1 := by rw [← hflen.out]; exact htk6 rfl
      subst hfl1
      obtain ⟨tx, tad, htx, rfl, htb, _, _, _, e3', e4', e5'⟩ := htrW.get (show 0 < fl.length by rw [hflen.out]; omega)
      rw [show tad.add (0 * 6) = tad from rfl] at e3' e4' e5'
      have hct := ctV_any 75 #[.pointer (some ⟨w.heap.size, 0, none⟩)] (enters_of Tryz.func75 (by kernel_rfl) rfl) l A cap len B W0 hrW hlen (OfSt W0 6 fl l R) (OfFin W0 R) ⟨Below.refl _ _, hR⟩ (fun j W h => Same.mono (Same.of_below h.1) (by omega))
        (fun j x W hx hst => by
          obtain ⟨hbW, hRj⟩ := hst
          have hSW : Same B W0 W := Same.mono (Same.of_below hbW) (by omega)
          have hzW := hbW.size
          have hfd : fldAt 6 fl j = some tx := by unfold fldAt; rw [if_pos rfl]; exact htx
          rw [drop_of_get? hx] at hRj
          unfold ofI at hRj
          rw [hfd] at hRj
          simp only [] at hRj
          have hcall := vof1_any x tx w.heap.size 1 tcap tad (ofT tx x) W (by omega) ((hbW.cell (p := ⟨w.heap.size, 2, none⟩) (by show w.heap.size < _; omega)).trans hb2)
            ((hbW.cell (p := ⟨tad.block, tad.off + 3, none⟩) (cell_lt e3')).trans e3') ((hbW.cell (p := ⟨tad.block, tad.off + 4, none⟩) (cell_lt e4')).trans e4') ((hbW.cell (p := ⟨tad.block, tad.off + 5, none⟩) (cell_lt e5')).trans e5')
            (fun o => ih x (mem_of_get? hx) tx B (W.alloc o).drew ((hlW x (mem_of_get? hx)).keep (hSW.alloc (by omega) o)) ((htlW tx (mem_of_get? htx)).keep (hSW.alloc (by omega) o)) (htox tx (mem_of_get? htx)) (hvox x (mem_of_get? hx)) (show B ≤ (W.alloc o).heap.size by simp; omega))
          refine hcall.mono fun e w' ⟨he, hb⟩ => ?_
          have hb' := hbW.trans (hb.mono hzW)
          cases hf : ofT tx x
          · rw [hf] at he hRj
            exact .inl ⟨he, hb', by rw [← hRj]; rfl⟩
          · rw [hf] at he hRj
            exact .inr ⟨he, hb', by rw [← hRj]; rfl⟩)
      have Hct := Lib.hid hct
      clear hct ih hrW htrW hlW htlW htox hvox hvl htk6 hR htx hb2 e3' e4' e5' e3 nk0 hk0 h3
      go_enter Tryz.func53, Tryz.ntmps53
      go_wp2_with fail
      rw [HW0.out]
      refine Hct.out.mono ?_
      rintro e w1 (⟨rfl, hb1, hr1⟩ | ⟨rfl, hb1, hr1⟩)
      · have HR := Lib.hid hr1
        clear hr1
        go_wp2
        go_ret
        exact ⟨by rw [HR.out]; rfl, hbw.trans (hb1.mono (by omega))⟩
      · have HR : Hid (R = true) := by rw [← hr1, List.drop_eq_nil_of_le (by rw [hlen.out]; omega)]; unfold ofI; exact rfl
        clear hr1
        go_wp2
        go_ret
        exact ⟨by rw [HR.out]; rfl, hbw.trans (hb1.mono (by omega))⟩
    have e6 : (k == 6) = false := by simpa using h6
    by_cases h7 : k = 7
    · subst h7
      by_cases hln : flen = len
      · subst hln
        rw [if_neg (by simp)] at hR
        have hct := eqFV_any 77 #[] (enters_of Tryz.func77 (by kernel_rfl) rfl) fl l TA A tcap cap flen B W0 htrW hrW hflen hlen (OfSt W0 7 fl l R) (OfFin W0 R) ⟨Below.refl _ _, hR⟩ (fun j W h => Same.mono (Same.of_below h.1) (by omega)) (fun j W o h => ⟨h.1.alloc h.1.size o, h.2⟩)
          (fun j tx x W htx hx hst => by
            obtain ⟨hbW, hRj⟩ := hst
            have hSW : Same B W0 W := Same.mono (Same.of_below hbW) (by omega)
            have hzW := hbW.size
            have hfd : fldAt 7 fl j = some tx := by unfold fldAt; rw [if_neg (by simp)]; exact htx
            rw [drop_of_get? hx] at hRj
            unfold ofI at hRj
            rw [hfd] at hRj
            simp only [] at hRj
            have hcall := vof2_any x tx (ofT tx x) W
              (fun o o2 => ih x (mem_of_get? hx) tx B ((W.alloc o).alloc o2) ((hlW x (mem_of_get? hx)).keep ((hSW.alloc (by omega) o).alloc (by simp; omega) o2)) ((htlW tx (mem_of_get? htx)).keep ((hSW.alloc (by omega) o).alloc (by simp; omega) o2)) (htox tx (mem_of_get? htx)) (hvox x (mem_of_get? hx)) (by simp; omega))
            refine hcall.mono fun e w' ⟨he, hb⟩ => ?_
            have hb' := hbW.trans (hb.mono hzW)
            cases hf : ofT tx x
            · rw [hf] at he hRj
              exact .inl ⟨he, hb', by rw [← hRj]; rfl⟩
            · rw [hf] at he hRj
              exact .inr ⟨he, hb', by rw [← hRj]; rfl⟩)
        have Hct := Lib.hid hct
        clear hct ih hrW htrW hlW htlW htox hvox hvl htk6 hR hb2 e3 nk0 hk0 h3 e6 h6
        go_enter Tryz.func53, Tryz.ntmps53
        go_wp2_with fail
        rw [HW0.out]
        refine Hct.out.mono ?_
        rintro e w1 (⟨rfl, hb1, hr1⟩ | ⟨rfl, hb1, hr1⟩)
        · have HR := Lib.hid hr1
          clear hr1
          go_wp2
          go_ret
          exact ⟨by rw [HR.out]; rfl, hbw.trans (hb1.mono (by omega))⟩
        · have HR : Hid (R = true) := by rw [← hr1, List.drop_eq_nil_of_le (by rw [hlen.out]; omega)]; unfold ofI; exact rfl
          clear hr1
          go_wp2
          go_ret
          exact ⟨by rw [HR.out]; rfl, hbw.trans (hb1.mono (by omega))⟩
      · have HR := Lib.hid (show false = R by rw [← hR, if_pos ⟨rfl, fun e => hln e.symm⟩])
        have hlE := Lib.hid (eqFV_lens (.func (.func 77) #[] #[]) TA A tcap cap flen len W0 (by unfold maxLen; omega) (by unfold maxLen; omega) hln)
        clear ih hrW htrW hlW htlW htox hvox hvl htk6 hR hb2 e3 nk0 hk0 h3 e6 h6 hln
        go_enter Tryz.func53, Tryz.ntmps53
        go_wp2_with fail
        rw [HW0.out]
        refine hlE.out.mono ?_
        rintro e w1 ⟨rfl, rfl⟩
        go_wp2
        go_ret
        exact ⟨by rw [← HR.out]; rfl, hbw⟩
    · have e7 : (k == 7) = false := by simpa using h7
      have hl0 := hvl h6 h7
      subst hl0
      have HR := Lib.hid (show true = R by rw [← hR, if_neg (by simp [h7])]; unfold ofI; rfl)
      clear ih hrW htrW hlW htlW htox hvox hvl htk6 hR hb2 hk0 h3 h6 h7
      go_enter Tryz.func53, Tryz.ntmps53
      go_wp2
      rw [HW0.out]
      go_ret
      exact ⟨by rw [← HR.out]; rfl, hbw⟩
  · have HR := Lib.hid (show false = R by rw [← hR, if_pos hkt])
    have nkt : (k != tk) = true := by simpa using hkt
    clear ih hr htr hl htl htox hvox hvl htk6 hR hkt hk0 hvs htsc
    go_enter Tryz.func53, Tryz.ntmps53
    go_wp2
    go_ret
    exact ⟨by rw [← HR.out]; rfl, bel2 _ _ _⟩
end Go.Proofs.YtkadahfknccjfaaGreatDoor
namespace Go.Proofs.YtkadahfknccjfaaGreatDoor
open Go.RowKit
set_option maxRecDepth 100000 in
set_option maxHeartbeats 1000000 in
theorem vfield0_any (tx : FT) (k sc : Int) (tad : Addr) (len tcap : Nat) (i : Int) (w : World) (hk : (k == 6) = true) (hl0 : 0 < len) (_hl : len ≤ maxLen) (h : tx.At w tad) :
    Calls Tryz.prog 78 #[.agg #[.int .i64 k, .int .i64 sc, .slice (some tad) len tcap], .int .i64 i] w fun e w' => e = .returned (.agg #[.int .i64 tx.a.id, .string tx.a.nm, .bool tx.a.nd, .int .i64 tx.a.k, .int .i64 tx.a.sc, .slice tx.a.A tx.l.length tx.a.cap]) ∧ Below w.heap.size w w' := by
  unfold maxLen at _hl
  obtain ⟨h0, h1, h2, h3, h4, h5⟩ := h
  have hb := cell_lt h0
  have ha : tad.add 0 = tad := rfl
  go_enter Tryz.func78, Tryz.ntmps78
  go_wp2
  exact bodyPost_ret (v := .agg #[.int .i64 tx.a.id, .string tx.a.nm, .bool tx.a.nd, .int .i64 tx.a.k, .int .i64 tx.a.sc, .slice tx.a.A tx.l.length tx.a.cap]) (by simp [results, Tryz.results78, go_sem]) rfl ⟨rfl, bel2 _ _ _⟩
set_option maxRecDepth 100000 in
set_option maxHeartbeats 1000000 in
theorem vfield_any (tx : FT) (k sc : Int) (tad : Addr) (len tcap j : Nat) (w : World) (hk : (k == 6) = false) (hj : j < len) (_hl : len ≤ maxLen) (h : tx.At w (tad.add (j * 6))) :
    Calls Tryz.prog 78 #[.agg #[.int .i64 k, .int .i64 sc, .slice (some tad) len tcap], .int .i64 (j : Int)] w fun e w' => e = .returned (.agg #[.int .i64 tx.a.id, .string tx.a.nm, .bool tx.a.nd, .int .i64 tx.a.k, .int .i64 tx.a.sc, .slice tx.a.A tx.l.length tx.a.cap]) ∧ Below w.heap.size w w' := by
  unfold maxLen at _hl
  obtain ⟨h0, h1, h2, h3, h4, h5⟩ := h
  have hb := cell_lt h0
  go_enter Tryz.func78, Tryz.ntmps78
  go_wp2
  exact bodyPost_ret (v := .agg #[.int .i64 tx.a.id, .string tx.a.nm, .bool tx.a.nd, .int .i64 tx.a.k, .int .i64 tx.a.sc, .slice tx.a.A tx.l.length tx.a.cap]) (by simp [results, Tryz.results78, go_sem]) rfl ⟨rfl, bel2 _ _ _⟩
set_option maxRecDepth 100000 in
set_option maxHeartbeats 4000000 in
theorem vlacks_any : ∀ (v : VT) (t : FT) (B : Nat) (w : World), VT.In B w v → FT.In B w t → TOk t → VOk v → ofT t v = true → B ≤ w.heap.size →
    Calls Tryz.prog 54 #[.agg #[.int .i64 t.a.k, .int .i64 t.a.sc, .slice t.a.A t.l.length t.a.cap], .agg #[.int .i64 v.a.k, .int .i64 v.a.n, .int .i64 v.a.sc, .string v.a.s, .slice v.a.A v.l.length v.a.cap]] w
      fun e w' => e = .returned (.bool (misT t v)) ∧ Below w.heap.size w w' := by
  refine VT.ind fun a l ih t B w hin htin hto hvo hof hB => ?_
  obtain ⟨f, fl⟩ := t
  obtain ⟨id, nm, nd, tk, tsc, TA, tcap⟩ := f
  obtain ⟨k, n, sc, s, A, cap⟩ := a
  obtain ⟨_, _, _, hss, hr, hl⟩ := hin.parts
  obtain ⟨_, _, _, _, htr, htl⟩ := htin.parts
  obtain ⟨htk1, htk7, htk6, htsc, htox⟩ := hto.inv
  obtain ⟨hvl, hvs, hvox⟩ := hvo.inv
  simp only [VT.a_node, VT.l_node, FT.a_node, FT.l_node] at *
  have hitems : ∀ (j : Nat) (x : VT), l[j]? = some x → ∃ t, fldAt tk fl j = some t ∧ ofT t x = true := by
    intro j x hx
    unfold ofT at hof
    simp only [] at hof
    by_cases hk0 : k = 0
    · have := hvl (by omega) (by omega); subst this; simp at hx
    rw [if_neg hk0] at hof
    repeat' split at hof
    · cases hof
    · cases hof
    · cases hof
    · have := ofI_items l 0 hof j x hx
      simpa using this
  obtain ⟨len, hlen⟩ : ∃ len, l.length = len := ⟨_, rfl⟩
  have hll : len ≤ 9223372036854775807 := by rw [← hlen]; exact Nat.le_trans hr.1 hr.2.1
  obtain ⟨flen, hflen⟩ : ∃ flen, fl.length = flen := ⟨_, rfl⟩
  have hfll : flen ≤ 9223372036854775807 := by rw [← hflen]; exact Nat.le_trans htr.1 htr.2.1
  obtain ⟨R, hR⟩ : ∃ R, misT (.node ⟨id, nm, nd, tk, tsc, TA, tcap⟩ fl) (.node ⟨k, n, sc, s, A, cap⟩ l) = R := ⟨_, rfl⟩
  rw [hR]
  unfold misT at hR
  simp only [] at hR
  rw [hlen, hflen]
  have hlen' := Lib.hid hlen
  have hflen' := Lib.hid hflen
  clear hlen hflen
  have hlen := hlen'
  have hflen := hflen'
  clear hlen' hflen'
  have HR := Lib.hid hR
  clear hin htin hto hvo hvs htsc hss hR hvl htk6 hof
  have hbw : Below w.heap.size w ((w.alloc (.cells #[.int .i64 tk, .int .i64 tsc, .slice TA flen tcap] 50)).alloc (.cells #[.int .i64 k, .int .i64 n, .int .i64 sc, .string s, .slice A len cap] 61)) := bel2 _ _ _
  obtain ⟨W0, hW0⟩ : ∃ W0, ((w.alloc (.cells #[.int .i64 tk, .int .i64 tsc, .slice TA flen tcap] 50)).alloc (.cells #[.int .i64 k, .int .i64 n, .int .i64 sc, .string s, .slice A len cap] 61)) = W0 := ⟨_, rfl⟩
  have hsz : w.heap.size + 1 < W0.heap.size := by rw [← hW0]; simp
  have hb0 : W0.cell? ⟨w.heap.size, 0, none⟩ = some (.int .i64 tk) := by rw [← hW0]; simp
  have hb1 : W0.cell? ⟨w.heap.size, 1, none⟩ = some (.int .i64 tsc) := by rw [← hW0]; simp
  have hb2 : W0.cell? ⟨w.heap.size, 2, none⟩ = some (.slice TA flen tcap) := by rw [← hW0]; simp
  rw [hW0] at hbw
  have hS0 := Same.mono (Same.of_below hbw) hB
  have hrW := hr.keep hS0
  have htrW := htr.keep hS0
  have hlW := fun x (hx : x ∈ l) => (hl x hx).keep hS0
  have htlW := fun x (hx : x ∈ fl) => (htl x hx).keep hS0
  have HW0 := Lib.hid hW0
  clear hW0 hr htr hl htl hS0
  go_enter Tryz.func54, Tryz.ntmps54
  go_wp2_with fail
  rw [HW0.out]
  clear HW0
  go_loopw [11] (fun i wr => ∃ j : Nat, j ≤ len ∧ i = .int .i64 j ∧ Below W0.heap.size W0 wr ∧ Hid (misI tk fl j (l.drop j) = R)) (fun i _ => len - (intOf i).toNat)
  case atStart => exact ⟨0, Nat.zero_le _, rfl, Below.refl _ _, HR⟩
  case round =>
    obtain ⟨j, hj, rfl, hbr, HRj⟩ := hrel
    by_cases hlt : j < len
    · have hSr : Same B W0 wr := Same.mono (Same.of_below hbr) (by omega)
      obtain ⟨x, ad, hx, rfl, hb, d0, d1, d2, d3, d4⟩ := (hrW.keep hSr).get (show j < l.length by rw [hlen.out]; exact hlt)
      obtain ⟨tx, hfd, hofx⟩ := hitems j x hx
      have hzr : W0.heap.size ≤ wr.heap.size := hbr.size
      obtain ⟨o1, ho1⟩ : ∃ o1, Obj.cells #[.int .i64 x.a.k, .int .i64 x.a.n, .int .i64 x.a.sc, .string x.a.s, .slice x.a.A x.l.length x.a.cap] 61 = o1 := ⟨_, rfl⟩
      obtain ⟨W1, hW1⟩ : ∃ W1, wr.alloc o1 = W1 := ⟨_, rfl⟩
      have hbW1 : Below wr.heap.size wr W1 := by rw [← hW1]; exact bel1 _ _
      have hz1 : wr.heap.size < W1.heap.size := by rw [← hW1]; simp
      have hbr1 : Below W0.heap.size W0 W1 := hbr.trans (hbW1.mono hzr)
      have hS1 : Same B W0 W1 := Same.mono (Same.of_below hbr1) (by omega)
      have p0 : W1.cell? ⟨wr.heap.size, 0, none⟩ = some (.int .i64 x.a.k) := by rw [← hW1, ← ho1, cell_new]; rfl
      have p1 : W1.cell? ⟨wr.heap.size, 1, none⟩ = some (.int .i64 x.a.n) := by rw [← hW1, ← ho1, cell_new]; rfl
      have p2 : W1.cell? ⟨wr.heap.size, 2, none⟩ = some (.int .i64 x.a.sc) := by rw [← hW1, ← ho1, cell_new]; rfl
      have p3 : W1.cell? ⟨wr.heap.size, 3, none⟩ = some (.string x.a.s) := by rw [← hW1, ← ho1, cell_new]; rfl
      have p4 : W1.cell? ⟨wr.heap.size, 4, none⟩ = some (.slice x.a.A x.l.length x.a.cap) := by rw [← hW1, ← ho1, cell_new]; rfl
      have hfc : Calls Tryz.prog 78 #[.agg #[.int .i64 tk, .int .i64 tsc, .slice TA flen tcap], .int .i64 (j : Int)] W1 fun e w' => e = .returned (.agg #[.int .i64 tx.a.id, .string tx.a.nm, .bool tx.a.nd, .int .i64 tx.a.k, .int .i64 tx.a.sc, .slice tx.a.A tx.l.length tx.a.cap]) ∧ Below W1.heap.size W1 w' := by
        unfold fldAt at hfd
        by_cases h6 : tk = 6
        · rw [if_pos h6] at hfd
          have hq : 0 < fl.length := (List.getElem?_eq_some_iff.1 hfd).1
          obtain ⟨tx', tad, htx', rfl, htb, hat⟩ := (htrW.keep hS1).get hq
          obtain rfl : tx' = tx := by rw [hfd] at htx'; injection htx' with h; exact h.symm
          exact vfield0_any tx' tk tsc tad flen tcap _ W1 (by simpa using h6) (by rw [← hflen.out]; exact hq) (by unfold maxLen; omega) hat
        · rw [if_neg h6] at hfd
          have hq : j < fl.length := (List.getElem?_eq_some_iff.1 hfd).1
          obtain ⟨tx', tad, htx', rfl, htb, hat⟩ := (htrW.keep hS1).get hq
          obtain rfl : tx' = tx := by rw [hfd] at htx'; injection htx' with h; exact h.symm
          exact vfield_any tx' tk tsc tad flen tcap j W1 (by simpa using h6) (by rw [← hflen.out]; exact hq) (by unfold maxLen; omega) hat
      have htxm : tx ∈ fl := by
        unfold fldAt at hfd
        split at hfd
        · exact mem_of_get? hfd
        · exact mem_of_get? hfd
      have hic := fun (w2 : World) (hs2 : Same B W1 w2) (hB2 : B ≤ w2.heap.size) => ih x (mem_of_get? hx) tx B w2 ((hlW x (mem_of_get? hx)).keep (hS1.trans hs2)) ((htlW tx htxm).keep (hS1.trans hs2)) (htox tx htxm) (hvox x (mem_of_get? hx)) hofx hB2
      have HR2 := HRj.out
      rw [drop_of_get? hx] at HR2
      unfold misI at HR2
      rw [hfd] at HR2
      simp only [] at HR2
      have c0 := (hbr.cell (p := ⟨w.heap.size, 0, none⟩) (by show w.heap.size < _; omega)).trans hb0
      have c1 := (hbr.cell (p := ⟨w.heap.size, 1, none⟩) (by show w.heap.size < _; omega)).trans hb1
      have c2 := (hbr.cell (p := ⟨w.heap.size, 2, none⟩) (by show w.heap.size < _; omega)).trans hb2
      have hlt0 : w.heap.size < wr.heap.size := by omega
      have Hic := Lib.hid hic
      have Hfc := Lib.hid hfc
      have HW1 := Lib.hid hW1
      have Ho1 := Lib.hid ho1
      have HR3 := Lib.hid HR2
      clear hic ih hrW htrW hlW htlW htox hvox hfd hx hb0 hb1 hb2 hitems hofx hfc hW1 ho1 HR2 HRj
      go_wp2_with fail
      rw [Ho1.out, HW1.out]
      refine Hfc.out.mono ?_
      rintro e w2 ⟨rfl, hbf⟩
      have hz2 : W1.heap.size ≤ w2.heap.size := hbf.size
      have r0 := (hbf.cell (p := ⟨wr.heap.size, 0, none⟩) hz1).trans p0
      have r1 := (hbf.cell (p := ⟨wr.heap.size, 1, none⟩) hz1).trans p1
      have r2 := (hbf.cell (p := ⟨wr.heap.size, 2, none⟩) hz1).trans p2
      have r3 := (hbf.cell (p := ⟨wr.heap.size, 3, none⟩) hz1).trans p3
      have r4 := (hbf.cell (p := ⟨wr.heap.size, 4, none⟩) hz1).trans p4
      have hlt2 : wr.heap.size < w2.heap.size := by omega
      have hSf : Same B W1 w2 := Same.mono (Same.of_below hbf) (by omega)
      have hic := Lib.hid (fun o => Hic.out (w2.alloc o) (hSf.alloc (by omega) o) (by simp; omega))
      have hbR : Below W0.heap.size W0 w2 := hbr1.trans (hbf.mono (by omega))
      have hfin : ∀ o, Below W0.heap.size W0 (w2.alloc o) := fun o => hbR.alloc (by omega) o
      have hfin := Lib.hid hfin
      clear p0 p1 p2 p3 p4 c0 c1 c2 d0 d1 d2 d3 d4 Hic Hfc Ho1 HW1 hbf
      obtain ⟨xk, hxk⟩ : ∃ xk, x.a.k = xk := ⟨_, rfl⟩
      rw [hxk] at r0
      have HR4 := HR3.out
      rw [hxk] at HR4
      have Hxk := Lib.hid hxk
      clear hxk HR3
      by_cases hk0 : xk = 0
      · have e0 : (xk == 0) = true := by simpa using hk0
        rw [e0, Bool.and_true] at HR4
        clear hk0
        cases hnd : tx.a.nd
        · rw [hnd, Bool.false_or] at HR4
          cases hmt : misT tx x
          · rw [hmt, Bool.false_or] at HR4
            have Hmt := Lib.hid hmt
            have HR5 := Lib.hid HR4
            clear hmt HR4
            go_wp2_with fail
            rw [← Hxk.out]
            refine (hic.out _).mono ?_
            rintro e w' ⟨rfl, hb2⟩
            rw [Hmt.out]
            go_wp2
            go_roundw
            case rel => exact ⟨j + 1, by omega, by go_num, (hfin.out _).trans (hb2.mono (by simp; omega)), HR5⟩
            case measure => simp [intOf]; omega
          · rw [hmt, Bool.true_or] at HR4
            have Hmt := Lib.hid hmt
            have HR5 := Lib.hid HR4
            clear hmt HR4
            go_wp2_with fail
            rw [← Hxk.out]
            refine (hic.out _).mono ?_
            rintro e w' ⟨rfl, hb2⟩
            rw [Hmt.out]
            go_wp2
            go_ret
            exact ⟨by rw [← HR5.out]; rfl, hbw.trans (((hfin.out _).trans (hb2.mono (by simp; omega))).mono (by omega))⟩
        · have HR5 : Hid (true = R) := by rw [← HR4, hnd]; simp [Hid]
          clear HR4
          go_wp2
          go_ret
          exact ⟨by rw [← HR5.out]; rfl, hbw.trans ((hfin.out _).mono (by omega))⟩
      · have e0 : (xk == 0) = false := by simpa using hk0
        rw [e0, Bool.and_false, Bool.false_or] at HR4
        clear hk0
        cases hmt : misT tx x
        · rw [hmt, Bool.false_or] at HR4
          have Hmt := Lib.hid hmt
          have HR5 := Lib.hid HR4
          clear hmt HR4
          go_wp2_with fail
          rw [← Hxk.out]
          refine (hic.out _).mono ?_
          rintro e w' ⟨rfl, hb2⟩
          rw [Hmt.out]
          go_wp2
          go_roundw
          case rel => exact ⟨j + 1, by omega, by go_num, (hfin.out _).trans (hb2.mono (by simp; omega)), HR5⟩
          case measure => simp [intOf]; omega
        · rw [hmt, Bool.true_or] at HR4
          have Hmt := Lib.hid hmt
          have HR5 := Lib.hid HR4
          clear hmt HR4
          go_wp2_with fail
          rw [← Hxk.out]
          refine (hic.out _).mono ?_
          rintro e w' ⟨rfl, hb2⟩
          rw [Hmt.out]
          go_wp2
          go_ret
          exact ⟨by rw [← HR5.out]; rfl, hbw.trans (((hfin.out _).trans (hb2.mono (by simp; omega))).mono (by omega))⟩
    · have HR3 : Hid (false = R) := by have := HRj.out; rw [List.drop_eq_nil_of_le (by rw [hlen.out]; omega)] at this; unfold misI at this; exact this
      go_wp2
      go_ret
      exact ⟨by rw [← HR3.out]; rfl, hbw.trans (hbr.mono (by omega))⟩
end Go.Proofs.YtkadahfknccjfaaGreatDoor
namespace Go.Proofs.YtkadahfknccjfaaGreatDoor
open Go.RowKit
set_option maxRecDepth 100000 in
set_option maxHeartbeats 1000000 in
theorem vSound_any (v : VT) (B : Nat) (w : World) (hin : VT.In B w v) (hT : Tabs B w) (hB : B ≤ w.heap.size) :
    Calls Tryz.prog 52 #[.agg #[.int .i64 v.a.k, .int .i64 v.a.n, .int .i64 v.a.sc, .string v.a.s, .slice v.a.A v.l.length v.a.cap]] w fun e w' => e = .returned (.bool (sdV 1 0 v).1) ∧ Below w.heap.size w w' := by
  have hS1 := fun (o : Obj) (o2 : Obj) => ((Same.refl B w).alloc hB o).alloc (show B ≤ (w.alloc o).heap.size by simp; omega) o2
  have hc := fun (o : Obj) => vsound_any v 1 0 (w.heap.size + 1) B ((w.alloc o).alloc (.cells #[.int .i64 0] 3)) (hin.keep (hS1 _ _)) (hT.keep (hS1 _ _)) (by simp; omega) (by omega) (by have := One.new (w.alloc o) 3 0; simpa using this) (by omega) (by omega) (by omega) (by omega)
  have Hc := Lib.hid hc
  clear hc hS1 hin hT
  go_enter Tryz.func52, Tryz.ntmps52
  go_wp2_with (go_at_call 73; refine (Hc.out _).mono ?_; rintro e w' ⟨rfl, hch, hon⟩)
  go_ret
  refine ⟨rfl, ?_⟩
  have h1 : Ch (w.heap.size + 1) w ((w.alloc (.cells #[.int .i64 v.a.k, .int .i64 v.a.n, .int .i64 v.a.sc, .string v.a.s, .slice v.a.A v.l.length v.a.cap] 61)).alloc (.cells #[.int .i64 0] 3)) := ((Ch.refl _ w).alloc _).alloc _
  exact (h1.trans hch).below (by omega)
set_option maxRecDepth 100000 in
set_option maxHeartbeats 2000000 in
theorem vCheck_any (t : FT) (v : VT) (B : Nat) (w : World) (htin : FT.In B w t) (hin : VT.In B w v) (hT : Tabs B w) (hB : B ≤ w.heap.size) :
    Calls Tryz.prog 26 #[.agg #[.int .i64 t.a.k, .int .i64 t.a.sc, .slice t.a.A t.l.length t.a.cap], .agg #[.int .i64 v.a.k, .int .i64 v.a.n, .int .i64 v.a.sc, .string v.a.s, .slice v.a.A v.l.length v.a.cap]] w
      fun e w' => e = .returned (.int .i64 (checkS t v)) ∧ Below w.heap.size w w' := by
  obtain ⟨o1, ho1⟩ : ∃ o1, Obj.cells #[.int .i64 t.a.k, .int .i64 t.a.sc, .slice t.a.A t.l.length t.a.cap] 50 = o1 := ⟨_, rfl⟩
  obtain ⟨o2, ho2⟩ : ∃ o2, Obj.cells #[.int .i64 v.a.k, .int .i64 v.a.n, .int .i64 v.a.sc, .string v.a.s, .slice v.a.A v.l.length v.a.cap] 61 = o2 := ⟨_, rfl⟩
  obtain ⟨W0, hW0⟩ : ∃ W0, (w.alloc o1).alloc o2 = W0 := ⟨_, rfl⟩
  have hbw : Below w.heap.size w W0 := by rw [← hW0]; exact bel2 _ _ _
  have hz0 : w.heap.size + 1 < W0.heap.size := by rw [← hW0]; simp
  have f0 : W0.cell? ⟨w.heap.size, 0, none⟩ = some (.int .i64 t.a.k) := by rw [← hW0, ← ho1]; simp
  have f1 : W0.cell? ⟨w.heap.size, 1, none⟩ = some (.int .i64 t.a.sc) := by rw [← hW0, ← ho1]; simp
  have f2 : W0.cell? ⟨w.heap.size, 2, none⟩ = some (.slice t.a.A t.l.length t.a.cap) := by rw [← hW0, ← ho1]; simp
  have g0 : W0.cell? ⟨w.heap.size + 1, 0, none⟩ = some (.int .i64 v.a.k) := by rw [← hW0, ← ho2]; simp
  have g1 : W0.cell? ⟨w.heap.size + 1, 1, none⟩ = some (.int .i64 v.a.n) := by rw [← hW0, ← ho2]; simp
  have g2 : W0.cell? ⟨w.heap.size + 1, 2, none⟩ = some (.int .i64 v.a.sc) := by rw [← hW0, ← ho2]; simp
  have g3 : W0.cell? ⟨w.heap.size + 1, 3, none⟩ = some (.string v.a.s) := by rw [← hW0, ← ho2]; simp
  have g4 : W0.cell? ⟨w.heap.size + 1, 4, none⟩ = some (.slice v.a.A v.l.length v.a.cap) := by rw [← hW0, ← ho2]; simp
  have hS0 := Same.mono (Same.of_below hbw) hB
  have htin0 := htin.keep hS0
  have hin0 := hin.keep hS0
  have hT0 := hT.keep hS0
  have HW0 := Lib.hid hW0
  have Ho1 := Lib.hid ho1
  have Ho2 := Lib.hid ho2
  obtain ⟨R, hR⟩ : ∃ R, checkS t v = R := ⟨_, rfl⟩
  rw [hR]
  unfold checkS at hR
  have hct := Lib.hid (vCheckType_any t B W0 htin0 (by omega))
  clear hW0 ho1 ho2 htin hin hT hS0
  by_cases h0 : ctS t = 0
  · rw [h0, if_neg (by simp)] at hR
    have H0 := Lib.hid h0
    have hto := ckT_ok t 1 0 h0
    clear h0
    go_enter Tryz.func26, Tryz.ntmps26
    go_wp2_with fail
    rw [Ho1.out, Ho2.out, HW0.out]
    clear Ho1 Ho2 HW0
    refine hct.out.mono ?_
    rintro e w1 ⟨rfl, hb1⟩
    rw [H0.out]
    have hS1 : Same B W0 w1 := Same.mono (Same.of_below hb1) (by omega)
    have hz1 : W0.heap.size ≤ w1.heap.size := hb1.size
    have c1 : ∀ (o : Nat) (b : Nat) (u : Value), b < W0.heap.size → W0.cell? ⟨b, o, none⟩ = some u → w1.cell? ⟨b, o, none⟩ = some u := fun o b u hb h => (hb1.cell (p := ⟨b, o, none⟩) hb).trans h
    have g0 := c1 _ _ _ (by omega) g0
    have g1 := c1 _ _ _ (by omega) g1
    have g2 := c1 _ _ _ (by omega) g2
    have g3 := c1 _ _ _ (by omega) g3
    have g4 := c1 _ _ _ (by omega) g4
    have f0 := c1 _ _ _ (by omega) f0
    have f1 := c1 _ _ _ (by omega) f1
    have f2 := c1 _ _ _ (by omega) f2
    clear c1
    have hsd := Lib.hid (vSound_any v B w1 (hin0.keep hS1) (hT0.keep hS1) (by omega))
    cases h1 : (sdV 1 0 v).1
    · have HR : Hid (R = 1) := by rw [← hR, h1, if_pos rfl]; exact rfl
      have H1 := Lib.hid h1
      clear h1 hR hct
      go_wp2_with fail
      refine hsd.out.mono ?_
      rintro e w2 ⟨rfl, hb2⟩
      rw [H1.out]
      go_wp2
      go_ret
      exact ⟨by rw [HR.out]; rfl, hbw.trans ((hb1.trans (hb2.mono (by omega))).mono (by omega))⟩
    · rw [h1, if_neg (by simp)] at hR
      have H1 := Lib.hid h1
      have hvo := sdV_ok v 1 0 h1
      clear h1 hct
      go_wp2_with fail
      refine hsd.out.mono ?_
      rintro e w2 ⟨rfl, hb2⟩
      rw [H1.out]
      have hS2 : Same B w1 w2 := Same.mono (Same.of_below hb2) (by omega)
      have hz2 : w1.heap.size ≤ w2.heap.size := hb2.size
      have c1 : ∀ (o : Nat) (b : Nat) (u : Value), b < w1.heap.size → w1.cell? ⟨b, o, none⟩ = some u → w2.cell? ⟨b, o, none⟩ = some u := fun o b u hb h => (hb2.cell (p := ⟨b, o, none⟩) hb).trans h
      have g0 := c1 _ _ _ (by omega) g0
      have g1 := c1 _ _ _ (by omega) g1
      have g2 := c1 _ _ _ (by omega) g2
      have g3 := c1 _ _ _ (by omega) g3
      have g4 := c1 _ _ _ (by omega) g4
      have f0 := c1 _ _ _ (by omega) f0
      have f1 := c1 _ _ _ (by omega) f1
      have f2 := c1 _ _ _ (by omega) f2
      clear c1
      have hof := Lib.hid (vof_any v t B w2 ((hin0.keep hS1).keep hS2) ((htin0.keep hS1).keep hS2) hto hvo (by omega))
      cases h2 : ofT t v
      · have HR : Hid (R = 2) := by rw [← hR, h2, if_pos rfl]; exact rfl
        have H2 := Lib.hid h2
        clear h2 hR
        go_wp2_with fail
        refine hof.out.mono ?_
        rintro e w3 ⟨rfl, hb3⟩
        rw [H2.out]
        go_wp2
        go_ret
        exact ⟨by rw [HR.out]; rfl, hbw.trans ((hb1.trans ((hb2.trans (hb3.mono (by omega))).mono (by omega))).mono (by omega))⟩
      · rw [h2, if_neg (by simp)] at hR
        have H2 := Lib.hid h2
        have hR2 := Lib.hid hR
        clear hR
        go_wp2_with fail
        refine hof.out.mono ?_
        rintro e w3 ⟨rfl, hb3⟩
        rw [H2.out]
        have hS3 : Same B w2 w3 := Same.mono (Same.of_below hb3) (by omega)
        have hz3 : w2.heap.size ≤ w3.heap.size := hb3.size
        have c1 : ∀ (o : Nat) (b : Nat) (u : Value), b < w2.heap.size → w2.cell? ⟨b, o, none⟩ = some u → w3.cell? ⟨b, o, none⟩ = some u := fun o b u hb h => (hb3.cell (p := ⟨b, o, none⟩) hb).trans h
        have g0 := c1 _ _ _ (by omega) g0
        have g1 := c1 _ _ _ (by omega) g1
        have g2 := c1 _ _ _ (by omega) g2
        have g3 := c1 _ _ _ (by omega) g3
        have g4 := c1 _ _ _ (by omega) g4
        have f0 := c1 _ _ _ (by omega) f0
        have f1 := c1 _ _ _ (by omega) f1
        have f2 := c1 _ _ _ (by omega) f2
        clear c1
        have hmi := Lib.hid (vlacks_any v t B w3 (((hin0.keep hS1).keep hS2).keep hS3) (((htin0.keep hS1).keep hS2).keep hS3) hto hvo h2 (by omega))
        clear h2
        have hbx : Below w.heap.size w w3 := hbw.trans ((hb1.trans ((hb2.trans (hb3.mono (by omega))).mono (by omega))).mono (by omega))
        cases h3 : misT t v
        · have HR : Hid (R = 0) := by rw [← hR2.out, h3, if_neg (by simp)]; exact rfl
          have H3 := Lib.hid h3
          clear h3
          go_wp2_with fail
          refine hmi.out.mono ?_
          rintro e w4 ⟨rfl, hb4⟩
          rw [H3.out]
          go_wp2
          go_ret
          exact ⟨by rw [HR.out]; rfl, hbx.trans (hb4.mono (by omega))⟩
        · have HR : Hid (R = 9) := by rw [← hR2.out, h3, if_pos rfl]; exact rfl
          have H3 := Lib.hid h3
          clear h3
          go_wp2_with fail
          refine hmi.out.mono ?_
          rintro e w4 ⟨rfl, hb4⟩
          rw [H3.out]
          go_wp2
          go_ret
          exact ⟨by rw [HR.out]; rfl, hbx.trans (hb4.mono (by omega))⟩
  · rw [if_pos h0] at hR
    have n0 : (ctS t != 0) = true := by simpa using h0
    have HR := Lib.hid hR
    clear h0 hR
    go_enter Tryz.func26, Tryz.ntmps26
    go_wp2_with fail
    rw [Ho1.out, Ho2.out, HW0.out]
    clear Ho1 Ho2 HW0
    refine hct.out.mono ?_
    rintro e w1 ⟨rfl, hb1⟩
    go_wp2
    go_ret
    exact ⟨by rw [← HR.out]; rfl, hbw.trans (hb1.mono (by omega))⟩
end Go.Proofs.YtkadahfknccjfaaGreatDoor
