/-
  The reference of package value: the check of types, level by level.
-/
import Derived.Test.YtcpbbagppkcilaaDoorRefD
import Derived.Test.YtcpbbagppkcilaaDoorBox
namespace Go.Proofs.YtcpbbagppkcilaaDoor
open Go.RowKit
def CkPost (g : Nat) (w : World) (r : Int × Int) (e : Ending) (w' : World) : Prop := e = .returned (.int .i64 r.1) ∧ Ch g w w' ∧ One w' g r.2
set_option maxRecDepth 100000 in
set_option maxHeartbeats 4000000 in
theorem checkType_any : ∀ (t : FT) (lv c : Int) (g B : Nat) (w : World), FT.In B w t → B ≤ w.heap.size → B ≤ g → One w g c → 1 ≤ lv → lv ≤ 5 → 0 ≤ c → c ≤ 40 →
    Calls Tryd.prog 78 #[.agg #[.int .i64 t.a.k, .int .i64 t.a.sc, .slice t.a.A t.l.length t.a.cap], .int .i64 lv, .pointer (some ⟨g, 0, none⟩)] w (CkPost g w (ckT lv c t)) := by
  refine FT.ind fun a l ih lv c g B w hin hB hg hone hlv1 hlv5 hc0 hc40 => ?_
  obtain ⟨id, nm, nd, k, sc, A, cap⟩ := a
  obtain ⟨_, _, _, _, hr, hl⟩ := hin.inv
  simp only [FT.a_node, FT.l_node] at hr ⊢
  have hgl := hone.lt
  have hcell := hone.cell
  have hfr := hone.frozen
  obtain ⟨len, hlen⟩ : ∃ len, l.length = len := ⟨_, rfl⟩
  have hll : len ≤ 9223372036854775807 := by rw [← hlen]; exact Nat.le_trans hr.1 hr.2.1
  rw [hlen]
  have hlen := Lib.hid hlen
  by_cases h4 : 4 < lv
  · have hf := Lib.hid (show ckT lv c (.node ⟨id, nm, nd, k, sc, A, cap⟩ l) = (7, c) by unfold ckT; rw [if_pos h4])
    rw [hf.out]
    clear ih hr hl hin
    go_enter Tryd.func78, Tryd.ntmps78
    go_wp2
    go_ret
    exact ⟨rfl, (Ch.refl g w).alloc _, hone.alloc _⟩
  have hnot4 : ¬ lv > 4 := h4
  clear h4
  have h4 : lv ≤ 4 := by omega
  obtain ⟨r, hr0⟩ : ∃ r, ckT lv c (.node ⟨id, nm, nd, k, sc, A, cap⟩ l) = r := ⟨_, rfl⟩
  rw [hr0]
  unfold ckT at hr0
  rw [if_neg hnot4] at hr0
  clear hnot4
  cases hlf : leafB k
  · rw [hlf] at hr0
    have Hlf := Lib.hid hlf
    obtain ⟨c1, hc1⟩ : ∃ c1, c1 = c := ⟨_, rfl⟩
    have H0 : Hid ((if shapeS k sc l ≠ 0 then (shapeS k sc l, c1) else ckTs (lv + 1) c1 l) = r) := by rw [hc1, ← hr0]; simp [Hid]
    have hc10 : 0 ≤ c1 := by omega
    have hc11 : c1 ≤ 40 := by omega
    obtain ⟨W1, hW1⟩ : ∃ W1, w.alloc (.cells #[.int .i64 k, .int .i64 sc, .slice A len cap] 24) = W1 := ⟨_, rfl⟩
    have hone1 : One W1 g c1 := by rw [← hW1, hc1]; exact hone.alloc _
    have hch1 : Ch g w W1 := by rw [← hW1]; exact (Ch.refl g w).alloc _
    clear hlf hr0 hin hc1
    have hbsz : w.heap.size < W1.heap.size := by rw [← hW1]; simp
    have hbox : W1.cell? ⟨w.heap.size, 2, none⟩ = some (.slice A len cap) := by rw [← hW1]; simp
    have hS1 : Same B w W1 := hch1.same hB hg
    have hrW := hr.keep hS1
    have hlW := fun x (hx : x ∈ l) => (hl x hx).keep hS1
    have HW1 := Lib.hid hW1
    clear hW1 hr hl
    go_enter Tryd.func78, Tryd.ntmps78
    go_wp2_with (go_at_call 97; refine (rLeaf_any _ _).mono ?_; rintro e w' ⟨rfl, rfl⟩; rw [Hlf.out])
    rw [HW1.out]
    clear hcell hfr
    refine (shape_any k sc A cap len l hrW hlW (by omega) hlen).mono ?_
    rintro e w2 ⟨rfl, hb2⟩
    have hone2 := hone1.below hb2
    have hch2 := hch1.then_below hb2
    have hbox2 := (hb2.cell (p := ⟨w.heap.size, 2, none⟩) hbsz).trans hbox
    have hbsz2 : w.heap.size < w2.heap.size := Nat.lt_of_lt_of_le hbsz hb2.size
    have hS2 : Same B w w2 := hch2.same hB hg
    have hrW2 := hrW.keep (Same.mono (Same.of_below hb2) (by omega))
    have hlW2 := fun x (hx : x ∈ l) => (hlW x hx).keep (Same.mono (Same.of_below hb2) (by omega))
    clear hrW hlW hbox hb2 HW1 hone1 hch1 hone hS1 hS2
    by_cases hs0 : shapeS k sc l = 0
    · have hs0' := Lib.hid hs0
      have H1 : Hid (ckTs (lv + 1) c1 l = r) := by have := H0.out; rw [hs0, if_neg (by simp)] at this; exact this
      rw [hs0]
      clear hs0 H0
      go_wp2
      go_loopw [32] (fun i wr => ∃ (j : Nat) (c' : Int), j ≤ len ∧ i = .int .i64 j ∧ Ch g w wr ∧ One wr g c' ∧ 0 ≤ c' ∧ c' ≤ 40 ∧ wr.cell? ⟨w.heap.size, 2, none⟩ = some (.slice A len cap) ∧ w.heap.size < wr.heap.size ∧ Same B w2 wr ∧ Hid (ckTs (lv + 1) c' (l.drop j) = r)) (fun i _ => len - (intOf i).toNat)
      case atStart => exact ⟨0, c1, Nat.zero_le _, rfl, hch2, hone2, hc10, hc11, hbox2, hbsz2, Same.refl _ _, H1⟩
      case round =>
        obtain ⟨j, c', hj, rfl, hch, hon, hc'0, hc'1, hbx, hbs, hsm, HR⟩ := hrel
        by_cases hlt : j < len
        · obtain ⟨x, ad, hx, rfl, hb, _, _, _, d3, d4, d5⟩ := (hrW2.keep hsm).get (show j < l.length by rw [hlen.out]; exact hlt)
          have hxi := (hlW2 x (mem_of_get? hx)).keep hsm
          have hic := ih x (mem_of_get? hx) (lv + 1) c' g B wr hxi (by omega) hg hon (by omega) (by omega) hc'0 hc'1
          obtain ⟨f, c2, hfc⟩ : ∃ f c2, ckT (lv + 1) c' x = (f, c2) := ⟨_, _, rfl⟩
          have hbd := ckT_bd x (lv + 1) c' hc'0 hc'1
          rw [hfc] at hic hbd
          have hdr := drop_of_get? hx
          have HR2 := HR.out
          rw [hdr] at HR2
          unfold ckTs at HR2
          rw [hfc] at HR2
          have Hic := Lib.hid hic
          have HR3 := Lib.hid HR2
          clear HR2 hic hdr hfc HR hxi hrW2 hlW2 ih hx hbox2
          by_cases hf0 : f = 0
          · subst hf0
            have HR4 : Hid (ckTs (lv + 1) c2 (l.drop (j + 1)) = r) := by have := HR3.out; rw [if_neg (by simp)] at this; exact this
            go_wp2_with (go_at_call 78; refine (Hic.out).mono ?_; rintro e w' ⟨rfl, hch3, hon3⟩)
            go_roundw
            case rel => exact ⟨j + 1, c2, by omega, by go_num, hch.trans hch3, hon3, hbd.1, hbd.2, (hch3.cell (p := ⟨w.heap.size, 2, none⟩) hbs (by simp; omega)).trans hbx, Nat.lt_of_lt_of_le hbs hch3.size, hsm.trans (hch3.same (by have := hch.size; omega) hg), HR4⟩
            case measure => simp [intOf]; omega
          · have HR4 : Hid ((f, c2) = r) := by have := HR3.out; rw [if_pos (by simpa using hf0)] at this; exact this
            have nf : (f != 0) = true := by simpa using hf0
            clear hf0
            go_wp2_with (go_at_call 78; refine (Hic.out).mono ?_; rintro e w' ⟨rfl, hch3, hon3⟩)
            go_ret
            exact ⟨by rw [← HR4.out]; rfl, hch.trans hch3, by rw [← HR4.out]; exact hon3⟩
        · have HR2 : Hid ((0, c') = r) := by have := HR.out; rw [List.drop_eq_nil_of_le (by rw [hlen.out]; omega)] at this; unfold ckTs at this; exact this
          go_wp2
          go_ret
          exact ⟨by rw [← HR2.out]; rfl, hch, by rw [← HR2.out]; exact hon⟩
    · have hs0' : (shapeS k sc l != 0) = true := by simpa using hs0
      have H1 : Hid ((shapeS k sc l, c1) = r) := by have := H0.out; rw [if_pos hs0] at this; exact this
      clear hs0
      go_wp2
      go_ret
      exact ⟨by rw [← H1.out]; rfl, hch2, by rw [← H1.out]; exact hone2⟩
  · rw [hlf] at hr0
    have Hlf := Lib.hid hlf
    clear hlf
    by_cases h40 : c = 40
    · subst h40
      have hf := Lib.hid (show r = (7, 40) by rw [← hr0]; simp)
      rw [hf.out]
      clear ih hr hl hin hr0
      go_enter Tryd.func78, Tryd.ntmps78
      go_wp2_with (go_at_call 97; refine (rLeaf_any _ _).mono ?_; rintro e w' ⟨rfl, rfl⟩; rw [Hlf.out])
      go_ret
      exact ⟨rfl, (Ch.refl g w).alloc _, hone.alloc _⟩
    · have n40 : (c == 40) = false := by simpa using h40
      obtain ⟨c1, hc1⟩ : ∃ c1, c1 = c + 1 := ⟨_, rfl⟩
      have H0 : Hid ((if shapeS k sc l ≠ 0 then (shapeS k sc l, c1) else ckTs (lv + 1) c1 l) = r) := by rw [hc1, ← hr0, if_neg (show ¬ (true = true ∧ c = 40) by simpa using h40)]; simp [Hid]
      have hc10 : 0 ≤ c1 := by omega
      have hc11 : c1 ≤ 40 := by omega
      obtain ⟨W1, hW1⟩ : ∃ W1, (w.setCell ⟨g, 0, none⟩ (.int .i64 (c + 1))).alloc (.cells #[.int .i64 k, .int .i64 sc, .slice A len cap] 24) = W1 := ⟨_, rfl⟩
      have hone1 : One W1 g c1 := by rw [← hW1, hc1]; exact (hone.set _).alloc _
      have hch1 : Ch g w W1 := by rw [← hW1]; exact ((Ch.refl g w).setCell _ _).alloc _
      clear h40 hr0 hin hc1
      have hbsz : w.heap.size < W1.heap.size := by rw [← hW1]; simp
      have hbox : W1.cell? ⟨w.heap.size, 2, none⟩ = some (.slice A len cap) := by rw [← hW1]; exact cell_new_set _ _ _ _ _ _
      have hS1 : Same B w W1 := hch1.same hB hg
      have hrW := hr.keep hS1
      have hlW := fun x (hx : x ∈ l) => (hl x hx).keep hS1
      have HW1 := Lib.hid hW1
      clear hW1 hr hl
      go_enter Tryd.func78, Tryd.ntmps78
      go_wp2_with (go_at_call 97; refine (rLeaf_any _ _).mono ?_; rintro e w' ⟨rfl, rfl⟩; rw [Hlf.out])
      rw [HW1.out]
      clear hcell hfr
      refine (shape_any k sc A cap len l hrW hlW (by omega) hlen).mono ?_
      rintro e w2 ⟨rfl, hb2⟩
      have hone2 := hone1.below hb2
      have hch2 := hch1.then_below hb2
      have hbox2 := (hb2.cell (p := ⟨w.heap.size, 2, none⟩) hbsz).trans hbox
      have hbsz2 : w.heap.size < w2.heap.size := Nat.lt_of_lt_of_le hbsz hb2.size
      have hS2 : Same B w w2 := hch2.same hB hg
      have hrW2 := hrW.keep (Same.mono (Same.of_below hb2) (by omega))
      have hlW2 := fun x (hx : x ∈ l) => (hlW x hx).keep (Same.mono (Same.of_below hb2) (by omega))
      clear hrW hlW hbox hb2 HW1 hone1 hch1 hone hS1 hS2
      by_cases hs0 : shapeS k sc l = 0
      · have hs0' := Lib.hid hs0
        have H1 : Hid (ckTs (lv + 1) c1 l = r) := by have := H0.out; rw [hs0, if_neg (by simp)] at this; exact this
        rw [hs0]
        clear hs0 H0
        go_wp2
        go_loopw [32] (fun i wr => ∃ (j : Nat) (c' : Int), j ≤ len ∧ i = .int .i64 j ∧ Ch g w wr ∧ One wr g c' ∧ 0 ≤ c' ∧ c' ≤ 40 ∧ wr.cell? ⟨w.heap.size, 2, none⟩ = some (.slice A len cap) ∧ w.heap.size < wr.heap.size ∧ Same B w2 wr ∧ Hid (ckTs (lv + 1) c' (l.drop j) = r)) (fun i _ => len - (intOf i).toNat)
        case atStart => exact ⟨0, c1, Nat.zero_le _, rfl, hch2, hone2, hc10, hc11, hbox2, hbsz2, Same.refl _ _, H1⟩
        case round =>
          obtain ⟨j, c', hj, rfl, hch, hon, hc'0, hc'1, hbx, hbs, hsm, HR⟩ := hrel
          by_cases hlt : j < len
          · obtain ⟨x, ad, hx, rfl, hb, _, _, _, d3, d4, d5⟩ := (hrW2.keep hsm).get (show j < l.length by rw [hlen.out]; exact hlt)
            have hxi := (hlW2 x (mem_of_get? hx)).keep hsm
            have hic := ih x (mem_of_get? hx) (lv + 1) c' g B wr hxi (by omega) hg hon (by omega) (by omega) hc'0 hc'1
            obtain ⟨f, c2, hfc⟩ : ∃ f c2, ckT (lv + 1) c' x = (f, c2) := ⟨_, _, rfl⟩
            have hbd := ckT_bd x (lv + 1) c' hc'0 hc'1
            rw [hfc] at hic hbd
            have hdr := drop_of_get? hx
            have HR2 := HR.out
            rw [hdr] at HR2
            unfold ckTs at HR2
            rw [hfc] at HR2
            have Hic := Lib.hid hic
            have HR3 := Lib.hid HR2
            clear HR2 hic hdr hfc HR hxi hrW2 hlW2 ih hx hbox2
            by_cases hf0 : f = 0
            · subst hf0
              have HR4 : Hid (ckTs (lv + 1) c2 (l.drop (j + 1)) = r) := by have := HR3.out; rw [if_neg (by simp)] at this; exact this
              go_wp2_with (go_at_call 78; refine (Hic.out).mono ?_; rintro e w' ⟨rfl, hch3, hon3⟩)
              go_roundw
              case rel => exact ⟨j + 1, c2, by omega, by go_num, hch.trans hch3, hon3, hbd.1, hbd.2, (hch3.cell (p := ⟨w.heap.size, 2, none⟩) hbs (by simp; omega)).trans hbx, Nat.lt_of_lt_of_le hbs hch3.size, hsm.trans (hch3.same (by have := hch.size; omega) hg), HR4⟩
              case measure => simp [intOf]; omega
            · have HR4 : Hid ((f, c2) = r) := by have := HR3.out; rw [if_pos (by simpa using hf0)] at this; exact this
              have nf : (f != 0) = true := by simpa using hf0
              clear hf0
              go_wp2_with (go_at_call 78; refine (Hic.out).mono ?_; rintro e w' ⟨rfl, hch3, hon3⟩)
              go_ret
              exact ⟨by rw [← HR4.out]; rfl, hch.trans hch3, by rw [← HR4.out]; exact hon3⟩
          · have HR2 : Hid ((0, c') = r) := by have := HR.out; rw [List.drop_eq_nil_of_le (by rw [hlen.out]; omega)] at this; unfold ckTs at this; exact this
            go_wp2
            go_ret
            exact ⟨by rw [← HR2.out]; rfl, hch, by rw [← HR2.out]; exact hon⟩
      · have hs0' : (shapeS k sc l != 0) = true := by simpa using hs0
        have H1 : Hid ((shapeS k sc l, c1) = r) := by have := H0.out; rw [if_pos hs0] at this; exact this
        clear hs0
        go_wp2
        go_ret
        exact ⟨by rw [← H1.out]; rfl, hch2, by rw [← H1.out]; exact hone2⟩
theorem ckT_nonneg : ∀ (t : FT) (lv c : Int), 0 ≤ (ckT lv c t).1 ∧ (ckT lv c t).1 ≤ 7 := by
  refine FT.ind fun a l ih lv c => ?_
  have hsh : 0 ≤ shapeS a.k a.sc l ∧ shapeS a.k a.sc l ≤ 7 := by unfold shapeS; repeat' split <;> omega
  have hs : ∀ (r : List FT), (∀ x, x ∈ r → x ∈ l) → ∀ c, 0 ≤ (ckTs (lv + 1) c r).1 ∧ (ckTs (lv + 1) c r).1 ≤ 7 := by
    intro r
    induction r with
    | nil => intro _ c; simp [ckTs]
    | cons x r ihr =>
      intro hm c
      unfold ckTs
      split
      · exact ih x (hm x (by simp)) (lv + 1) c
      · exact ihr (fun y hy => hm y (by simp [hy])) _
  unfold ckT
  split
  · simp
  split
  · simp
  split
  · exact hsh
  · exact hs l (fun _ h => h) _
/-- What is wrong with a type. -/
def ctS (t : FT) : Int := (ckT 1 0 t).1
set_option maxRecDepth 100000 in
set_option maxHeartbeats 1000000 in
theorem rCheckType_any (t : FT) (B : Nat) (w : World) (hin : FT.In B w t) (hB : B ≤ w.heap.size) :
    Calls Tryd.prog 52 #[.agg #[.int .i64 t.a.k, .int .i64 t.a.sc, .slice t.a.A t.l.length t.a.cap]] w fun e w' => e = .returned (.int .i64 (ctS t)) ∧ Below w.heap.size w w' := by
  have hS1 := fun (o : Obj) (o2 : Obj) (v : Value) => (((Same.refl B w).alloc hB o).alloc (show B ≤ (w.alloc o).heap.size by simp; omega) o2).setCell (p := ⟨w.heap.size + 1, 0, none⟩) (show B ≤ w.heap.size + 1 by omega) v
  have hc := fun (o : Obj) => checkType_any t 1 0 (w.heap.size + 1) B ((w.alloc o).alloc (.cells #[.int .i64 0] 3)) (hin.keep (((Same.refl B w).alloc hB o).alloc (show B ≤ (w.alloc o).heap.size by simp; omega) _)) (by simp; omega) (by omega) (by have := One.new (w.alloc o) 3 0; simpa using this) (by omega) (by omega) (by omega) (by omega)
  have Hc := Lib.hid hc
  clear hc hS1 hin
  go_enter Tryd.func52, Tryd.ntmps52
  go_wp2_with (go_at_call 78; refine (Hc.out _).mono ?_; rintro e w' ⟨rfl, hch, hon⟩)
  go_ret
  refine ⟨rfl, ?_⟩
  have h1 : Ch (w.heap.size + 1) w ((w.alloc (.cells #[.int .i64 t.a.k, .int .i64 t.a.sc, .slice t.a.A t.l.length t.a.cap] 24)).alloc (.cells #[.int .i64 0] 3)) := ((Ch.refl _ w).alloc _).alloc _
  exact (h1.trans hch).below (by omega)
end Go.Proofs.YtcpbbagppkcilaaDoor
