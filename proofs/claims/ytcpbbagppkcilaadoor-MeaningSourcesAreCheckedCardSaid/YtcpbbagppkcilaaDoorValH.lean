/-
  Package value: values of a type.
-/
import Derived.Test.YtcpbbagppkcilaaDoorLib2
import Derived.Test.YtcpbbagppkcilaaDoorSpec2
import Derived.Test.YtcpbbagppkcilaaDoorStill
namespace Go.Proofs.YtcpbbagppkcilaaDoor
open Go.RowKit
set_option maxRecDepth 100000 in
set_option maxHeartbeats 1000000 in
theorem vof1_any (x : VT) (tx : FT) (tb len tcap : Nat) (tad : Addr) (f : Bool) (W : World) (hlen : 0 < len) (h2 : W.cell? ⟨tb, 2, none⟩ = some (.slice (some tad) len tcap))
    (e3 : W.cell? ⟨tad.block, tad.off + 3, none⟩ = some (.int .i64 tx.a.k)) (e4 : W.cell? ⟨tad.block, tad.off + 4, none⟩ = some (.int .i64 tx.a.sc)) (e5 : W.cell? ⟨tad.block, tad.off + 5, none⟩ = some (.slice tx.a.A tx.l.length tx.a.cap))
    (hc : ∀ o, Calls Tryd.prog 48 #[.agg #[.int .i64 tx.a.k, .int .i64 tx.a.sc, .slice tx.a.A tx.l.length tx.a.cap], .agg #[.int .i64 x.a.k, .int .i64 x.a.n, .int .i64 x.a.sc, .string x.a.s, .slice x.a.A x.l.length x.a.cap]] (W.alloc o).drew fun e w' => e = .returned (.bool f) ∧ Below (W.alloc o).heap.size (W.alloc o).drew w') :
    Calls Tryd.prog 74 #[.agg #[.int .i64 x.a.k, .int .i64 x.a.n, .int .i64 x.a.sc, .string x.a.s, .slice x.a.A x.l.length x.a.cap], .pointer (some ⟨tb, 0, none⟩)] W fun e w' => e = .returned (.bool !f) ∧ Below W.heap.size W w' := by
  obtain ⟨o1, ho1⟩ : ∃ o1, Obj.cells #[.int .i64 x.a.k, .int .i64 x.a.n, .int .i64 x.a.sc, .string x.a.s, .slice x.a.A x.l.length x.a.cap] 50 = o1 := ⟨_, rfl⟩
  obtain ⟨W1, hW1⟩ : ∃ W1, W.alloc o1 = W1 := ⟨_, rfl⟩
  have g0 : W1.cell? ⟨W.heap.size, 0, none⟩ = some (.int .i64 x.a.k) := by rw [← hW1, ← ho1, cell_new]; rfl
  have g1 : W1.cell? ⟨W.heap.size, 1, none⟩ = some (.int .i64 x.a.n) := by rw [← hW1, ← ho1, cell_new]; rfl
  have g2 : W1.cell? ⟨W.heap.size, 2, none⟩ = some (.int .i64 x.a.sc) := by rw [← hW1, ← ho1, cell_new]; rfl
  have g3 : W1.cell? ⟨W.heap.size, 3, none⟩ = some (.string x.a.s) := by rw [← hW1, ← ho1, cell_new]; rfl
  have g4 : W1.cell? ⟨W.heap.size, 4, none⟩ = some (.slice x.a.A x.l.length x.a.cap) := by rw [← hW1, ← ho1, cell_new]; rfl
  have k2 : W1.cell? ⟨tb, 2, none⟩ = some (.slice (some tad) len tcap) := by rw [← hW1]; exact cell_old h2 _
  have k3 : W1.cell? ⟨tad.block, tad.off + 3, none⟩ = some (.int .i64 tx.a.k) := by rw [← hW1]; exact cell_old e3 _
  have k4 : W1.cell? ⟨tad.block, tad.off + 4, none⟩ = some (.int .i64 tx.a.sc) := by rw [← hW1]; exact cell_old e4 _
  have k5 : W1.cell? ⟨tad.block, tad.off + 5, none⟩ = some (.slice tx.a.A tx.l.length tx.a.cap) := by rw [← hW1]; exact cell_old e5 _
  have hbW : Below W.heap.size W W1 := by rw [← hW1]; exact bel1 _ _
  have Hc := hc o1
  rw [hW1] at Hc
  have Hc := Lib.hid Hc
  have HW1 := Lib.hid hW1
  have Ho1 := Lib.hid ho1
  have hz := hbW.size
  clear hW1 ho1 h2 e3 e4 e5 hc
  go_enter Tryd.func74, Tryd.ntmps74
  go_wp2_with fail
  rw [Ho1.out, HW1.out]
  (generalize hA0 : Act.mk _ _ = A0; refine wp_region_still_tail 6 (by kernel_rfl) (by kernel_rfl) ?_; simp only [List.take_succ_cons, List.take_zero, List.drop_succ_cons, List.drop_zero]; (iterate 6 (refine st_want (by rw [← hA0]; rfl) (fun K hK => ?_); subst hA0; go_simp; generalize hA0 : Act.mk _ _ = A0; refine hK A0 ?_; clear hK K)); refine wpStill_nil ?_; subst hA0)
  change wpList _ _ _ _ _ W1.drew
  go_wp2_with fail
  refine Hc.out.mono ?_
  rintro e w' ⟨rfl, hb⟩
  go_wp2
  go_ret
  exact ⟨rfl, hbW.drew.trans (hb.mono hz)⟩
set_option maxRecDepth 100000 in
set_option maxHeartbeats 1000000 in
theorem vof2_any (x : VT) (tx : FT) (f : Bool) (W : World)
    (hc : ∀ o o2, Calls Tryd.prog 48 #[.agg #[.int .i64 tx.a.k, .int .i64 tx.a.sc, .slice tx.a.A tx.l.length tx.a.cap], .agg #[.int .i64 x.a.k, .int .i64 x.a.n, .int .i64 x.a.sc, .string x.a.s, .slice x.a.A x.l.length x.a.cap]] ((W.alloc o).alloc o2) fun e w' => e = .returned (.bool f) ∧ Below ((W.alloc o).alloc o2).heap.size ((W.alloc o).alloc o2) w') :
    Calls Tryd.prog 76 #[.agg #[.int .i64 tx.a.id, .string tx.a.nm, .bool tx.a.nd, .int .i64 tx.a.k, .int .i64 tx.a.sc, .slice tx.a.A tx.l.length tx.a.cap], .agg #[.int .i64 x.a.k, .int .i64 x.a.n, .int .i64 x.a.sc, .string x.a.s, .slice x.a.A x.l.length x.a.cap]] W fun e w' => e = .returned (.bool f) ∧ Below W.heap.size W w' := by
  have Hc := Lib.hid hc
  clear hc
  go_enter Tryd.func76, Tryd.ntmps76
  go_wp2_with fail
  refine (Hc.out _ _).mono ?_
  rintro e w' ⟨rfl, hb⟩
  go_wp2
  go_ret
  exact ⟨rfl, (bel2 _ _ _).trans (hb.mono (by simp; omega))⟩
def OfSt (w : World) (k : Int) (fl : List FT) (l : List VT) (R : Bool) (j : Nat) (W : World) : Prop := Below w.heap.size w W ∧ ofI k fl j (l.drop j) = R
def OfFin (w : World) (R : Bool) (W : World) : Prop := Below w.heap.size w W ∧ R = false
set_option maxRecDepth 100000 in
set_option maxHeartbeats 4000000 in
theorem vof_any : ∀ (v : VT) (t : FT) (B : Nat) (w : World), VT.In B w v → FT.In B w t → TOk t → VOk v → B ≤ w.heap.size →
    Calls Tryd.prog 48 #[.agg #[.int .i64 t.a.k, .int .i64 t.a.sc, .slice t.a.A t.l.length t.a.cap], .agg #[.int .i64 v.a.k, .int .i64 v.a.n, .int .i64 v.a.sc, .string v.a.s, .slice v.a.A v.l.length v.a.cap]] w
      fun e w' => e = .returned (.bool (ofT t v)) ∧ Below w.heap.size w w' := by
  refine VT.ind fun a l ih t B w hin htin hto hvo hB => ?_
  obtain ⟨f, fl⟩ := t
  obtain ⟨id, nm, nd, tk, tsc, TA, tcap⟩ := f
  obtain ⟨k, n, sc, s, A, cap⟩ := a
  obtain ⟨_, _, _, hss, hr, hl⟩ := hin.parts
  obtain ⟨_, _, _, _, htr, htl⟩ := htin.parts
  obtain ⟨htk1, htk7, htk6, htsc, htox⟩ := hto.inv
  obtain ⟨hvl, hvs, hvox⟩ := hvo.inv
  simp only [VT.a_node, VT.l_node, FT.a_node, FT.l_node] at *
  obtain ⟨len, hlen⟩ : ∃ len, l.length = len := ⟨_, rfl⟩
  have hll : len ≤ 9223372036854775807 := by rw [← hlen]; exact Nat.le_trans hr.1 hr.2.1
  obtain ⟨flen, hflen⟩ : ∃ flen, fl.length = flen := ⟨_, rfl⟩
  have hfll : flen ≤ 9223372036854775807 := by rw [← hflen]; exact Nat.le_trans htr.1 htr.2.1
  obtain ⟨R, hR⟩ : ∃ R, ofT (.node ⟨id, nm, nd, tk, tsc, TA, tcap⟩ fl) (.node ⟨k, n, sc, s, A, cap⟩ l) = R := ⟨_, rfl⟩
  rw [hR]
  unfold ofT at hR
  simp only [] at hR
  rw [hlen, hflen] at hR ⊢
  have hlen' := Lib.hid hlen
  have hflen' := Lib.hid hflen
  clear hlen hflen
  have hlen := hlen'
  have hflen := hflen'
  clear hlen' hflen' hin htin hto hvo hss
  by_cases hk0 : k = 0
  · subst hk0
    have HR := Lib.hid (show true = R by rw [← hR, if_pos rfl])
    clear ih hr htr hl htl htox hvox hvl htk6 hR hvs htsc
    go_enter Tryd.func48, Tryd.ntmps48
    go_wp2
    go_ret
    exact ⟨by rw [← HR.out]; rfl, bel2 _ _ _⟩
  rw [if_neg hk0] at hR
  have nk0 : (k == 0) = false := by simpa using hk0
  by_cases hkt : k = tk
  · subst hkt
    rw [if_neg (by simp)] at hR
    by_cases h3 : k = 3
    · subst h3
      have hl0 := hvl (by decide) (by decide)
      subst hl0
      obtain rfl : len = 0 := by rw [← hlen.out]; rfl
      clear ih hr htr hl htl htox hvox hvl htk6 hvs htsc
      by_cases hsc : sc = tsc
      · subst hsc
        have HR := Lib.hid (show true = R by rw [← hR, if_neg (by simp), if_neg (by simp)]; unfold ofI; rfl)
        clear hR hk0
        go_enter Tryd.func48, Tryd.ntmps48
        go_wp2
        go_ret
        exact ⟨by rw [← HR.out]; simp, bel2 _ _ _⟩
      · have HR := Lib.hid (show false = R by rw [← hR, if_pos hsc])
        have ns : (sc == tsc) = false := by simpa using hsc
        clear hR hk0 hsc
        go_enter Tryd.func48, Tryd.ntmps48
        go_wp2
        go_ret
        exact ⟨by rw [← HR.out]; rfl, bel2 _ _ _⟩
    have e3 : (k == 3) = false := by simpa using h3
    obtain rfl : sc = 0 := hvs h3
    obtain rfl : tsc = 0 := htsc h3
    rw [if_neg (by simp)] at hR
    obtain ⟨W0, hW0⟩ : ∃ W0, ((w.alloc (.cells #[.int .i64 k, .int .i64 0, .slice TA flen tcap] 24)).alloc (.cells #[.int .i64 k, .int .i64 n, .int .i64 0, .string s, .slice A len cap] 50)) = W0 := ⟨_, rfl⟩
    have hbw : Below w.heap.size w W0 := by rw [← hW0]; exact bel2 _ _ _
    have hsz : w.heap.size + 1 < W0.heap.size := by rw [← hW0]; simp
    have hb2 : W0.cell? ⟨w.heap.size, 2, none⟩ = some (.slice TA flen tcap) := by rw [← hW0]; simp
    have hS0 := Same.mono (Same.of_below hbw) hB
    have hrW := hr.keep hS0
    have htrW := htr.keep hS0
    have hlW := fun x (hx : x ∈ l) => (hl x hx).keep hS0
    have htlW := fun x (hx : x ∈ fl) => (htl x hx).keep hS0
    have HW0 := Lib.hid hW0
    clear hW0 hr htr hl htl hS0 hvs htsc
    by_cases h6 : k = 6
    · subst h6
      rw [if_neg (by simp)] at hR
      have hfl1 : flen = 1 := by rw [← hflen.out]; exact htk6 rfl
      subst hfl1
      obtain ⟨tx, tad, htx, rfl, htb, _, _, _, e3', e4', e5'⟩ := htrW.get (show 0 < fl.length by rw [hflen.out]; omega)
      rw [show tad.add (0 * 6) = tad from rfl] at e3' e4' e5'
      have hct := ctV_any 74 #[.pointer (some ⟨w.heap.size, 0, none⟩)] (enters_of Tryd.func74 (by kernel_rfl) rfl) l A cap len B W0 hrW hlen (OfSt W0 6 fl l R) (OfFin W0 R) ⟨Below.refl _ _, hR⟩ (fun j W h => Same.mono (Same.of_below h.1) (by omega))
        (fun j x W hx hst => by
          obtain ⟨hbW, hRj⟩ := hst
          have hSW : Same B W0 W := Same.mono (Same.of_below hbW) (by omega)
          have hzW := hbW.size
          have hfd : fldAt 6 fl j = some tx := by unfold fldAt; rw [if_pos rfl]; exact htx
          rw [drop_of_get? hx] at hRj
          unfold ofI at hRj
          rw [hfd] at hRj
          simp only [] at hRj
          have hcall := vof1_any x tx w.heap.size 1 tcap tad (ofT tx x) W (by omega) ((hbW.cell (p := ⟨w.heap.size, 2, none⟩) (by show w.heap.size < _; omega)).trans hb2)
            ((hbW.cell (p := ⟨tad.block, tad.off + 3, none⟩) (cell_lt e3')).trans e3') ((hbW.cell (p := ⟨tad.block, tad.off + 4, none⟩) (cell_lt e4')).trans e4') ((hbW.cell (p := ⟨tad.block, tad.off + 5, none⟩) (cell_lt e5')).trans e5')
            (fun o => ih x (mem_of_get? hx) tx B (W.alloc o).drew ((hlW x (mem_of_get? hx)).keep (hSW.alloc (by omega) o)) ((htlW tx (mem_of_get? htx)).keep (hSW.alloc (by omega) o)) (htox tx (mem_of_get? htx)) (hvox x (mem_of_get? hx)) (show B ≤ (W.alloc o).heap.size by simp; omega))
          refine hcall.mono fun e w' ⟨he, hb⟩ => ?_
          have hb' := hbW.trans (hb.mono hzW)
          cases hf : ofT tx x
          · rw [hf] at he hRj
            exact .inl ⟨he, hb', by rw [← hRj]; rfl⟩
          · rw [hf] at he hRj
            exact .inr ⟨he, hb', by rw [← hRj]; rfl⟩)
      have Hct := Lib.hid hct
      clear hct ih hrW htrW hlW htlW htox hvox hvl htk6 hR htx hb2 e3' e4' e5' e3 nk0 hk0 h3
      go_enter Tryd.func48, Tryd.ntmps48
      go_wp2_with fail
      rw [HW0.out]
      refine Hct.out.mono ?_
      rintro e w1 (⟨rfl, hb1, hr1⟩ | ⟨rfl, hb1, hr1⟩)
      · have HR := Lib.hid hr1
        clear hr1
        go_wp2
        go_ret
        exact ⟨by rw [HR.out]; rfl, hbw.trans (hb1.mono (by omega))⟩
      · have HR : Hid (R = true) := by rw [← hr1, List.drop_eq_nil_of_le (by rw [hlen.out]; omega)]; unfold ofI; exact rfl
        clear hr1
        go_wp2
        go_ret
        exact ⟨by rw [HR.out]; rfl, hbw.trans (hb1.mono (by omega))⟩
    have e6 : (k == 6) = false := by simpa using h6
    by_cases h7 : k = 7
    · subst h7
      by_cases hln : flen = len
      · subst hln
        rw [if_neg (by simp)] at hR
        have hct := eqFV_any 76 #[] (enters_of Tryd.func76 (by kernel_rfl) rfl) fl l TA A tcap cap flen B W0 htrW hrW hflen hlen (OfSt W0 7 fl l R) (OfFin W0 R) ⟨Below.refl _ _, hR⟩ (fun j W h => Same.mono (Same.of_below h.1) (by omega)) (fun j W o h => ⟨h.1.alloc h.1.size o, h.2⟩)
          (fun j tx x W htx hx hst => by
            obtain ⟨hbW, hRj⟩ := hst
            have hSW : Same B W0 W := Same.mono (Same.of_below hbW) (by omega)
            have hzW := hbW.size
            have hfd : fldAt 7 fl j = some tx := by unfold fldAt; rw [if_neg (by simp)]; exact htx
            rw [drop_of_get? hx] at hRj
            unfold ofI at hRj
            rw [hfd] at hRj
            simp only [] at hRj
            have hcall := vof2_any x tx (ofT tx x) W
              (fun o o2 => ih x (mem_of_get? hx) tx B ((W.alloc o).alloc o2) ((hlW x (mem_of_get? hx)).keep ((hSW.alloc (by omega) o).alloc (by simp; omega) o2)) ((htlW tx (mem_of_get? htx)).keep ((hSW.alloc (by omega) o).alloc (by simp; omega) o2)) (htox tx (mem_of_get? htx)) (hvox x (mem_of_get? hx)) (by simp; omega))
            refine hcall.mono fun e w' ⟨he, hb⟩ => ?_
            have hb' := hbW.trans (hb.mono hzW)
            cases hf : ofT tx x
            · rw [hf] at he hRj
              exact .inl ⟨he, hb', by rw [← hRj]; rfl⟩
            · rw [hf] at he hRj
              exact .inr ⟨he, hb', by rw [← hRj]; rfl⟩)
        have Hct := Lib.hid hct
        clear hct ih hrW htrW hlW htlW htox hvox hvl htk6 hR hb2 e3 nk0 hk0 h3 e6 h6
        go_enter Tryd.func48, Tryd.ntmps48
        go_wp2_with fail
        rw [HW0.out]
        refine Hct.out.mono ?_
        rintro e w1 (⟨rfl, hb1, hr1⟩ | ⟨rfl, hb1, hr1⟩)
        · have HR := Lib.hid hr1
          clear hr1
          go_wp2
          go_ret
          exact ⟨by rw [HR.out]; rfl, hbw.trans (hb1.mono (by omega))⟩
        · have HR : Hid (R = true) := by rw [← hr1, List.drop_eq_nil_of_le (by rw [hlen.out]; omega)]; unfold ofI; exact rfl
          clear hr1
          go_wp2
          go_ret
          exact ⟨by rw [HR.out]; rfl, hbw.trans (hb1.mono (by omega))⟩
      · have HR := Lib.hid (show false = R by rw [← hR, if_pos ⟨rfl, fun e => hln e.symm⟩])
        have hlE := Lib.hid (eqFV_lens (.func (.func 76) #[] #[]) TA A tcap cap flen len W0 (by unfold maxLen; omega) (by unfold maxLen; omega) hln)
        clear ih hrW htrW hlW htlW htox hvox hvl htk6 hR hb2 e3 nk0 hk0 h3 e6 h6 hln
        go_enter Tryd.func48, Tryd.ntmps48
        go_wp2_with fail
        rw [HW0.out]
        refine hlE.out.mono ?_
        rintro e w1 ⟨rfl, rfl⟩
        go_wp2
        go_ret
        exact ⟨by rw [← HR.out]; rfl, hbw⟩
    · have e7 : (k == 7) = false := by simpa using h7
      have hl0 := hvl h6 h7
      subst hl0
      have HR := Lib.hid (show true = R by rw [← hR, if_neg (by simp [h7])]; unfold ofI; rfl)
      clear ih hrW htrW hlW htlW htox hvox hvl htk6 hR hb2 hk0 h3 h6 h7
      go_enter Tryd.func48, Tryd.ntmps48
      go_wp2
      rw [HW0.out]
      go_ret
      exact ⟨by rw [← HR.out]; rfl, hbw⟩
  · have HR := Lib.hid (show false = R by rw [← hR, if_pos hkt])
    have nkt : (k != tk) = true := by simpa using hkt
    clear ih hr htr hl htl htox hvox hvl htk6 hR hkt hk0 hvs htsc
    go_enter Tryd.func48, Tryd.ntmps48
    go_wp2
    go_ret
    exact ⟨by rw [← HR.out]; rfl, bel2 _ _ _⟩
end Go.Proofs.YtcpbbagppkcilaaDoor
