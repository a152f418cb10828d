/-
  The reference of package value: sound values.
-/
import Derived.Test.YteeabfdafnncfaaDoorQRefG
namespace Go.Proofs.YteeabfdafnncfaaDoor
open Go.RowKit
def SdPost (g : Nat) (w : World) (r : Bool × Int) (e : Ending) (w' : World) : Prop := e = .returned (.bool r.1) ∧ Ch g w w' ∧ One w' g r.2
theorem VT.In.inv {B : Nat} {w : World} {a : VP} {l : List VT} (h : VT.In B w (.node a l)) : I64 a.k ∧ I64 a.n ∧ I64 a.sc ∧ a.s.size ≤ maxLen ∧ VT.Row B w a.A a.cap l ∧ ∀ x, x ∈ l → VT.In B w x := by
  cases h
  exact ⟨by assumption, by assumption, by assumption, by assumption, by assumption, by assumption⟩
theorem sdV_bd : ∀ (v : VT) (lv c : Int), 0 ≤ c → c ≤ 256 → 0 ≤ (sdV lv c v).2 ∧ ((sdV lv c v).1 = true → (sdV lv c v).2 ≤ 256) := by
  refine VT.ind fun a l ih lv c h0 h1 => ?_
  have hs : ∀ (r : List VT), (∀ x, x ∈ r → x ∈ l) → ∀ c, 0 ≤ c → c ≤ 256 → 0 ≤ (sdVs (lv + 1) c r).2 ∧ ((sdVs (lv + 1) c r).1 = true → (sdVs (lv + 1) c r).2 ≤ 256) := by
    intro r
    induction r with
    | nil => intro _ c h0 h1; simpa [sdVs] using ⟨h0, h1⟩
    | cons x r ihr =>
      intro hm c h0 h1
      have hx := ih x (hm x (by simp)) (lv + 1) c h0 h1
      unfold sdVs
      split
      · rename_i h; exact ihr (fun y hy => hm y (by simp [hy])) _ hx.1 (hx.2 h)
      · exact hx
  unfold sdV
  have hb : 0 ≤ (if a.k = 0 then c else c + 1) := by split <;> omega
  by_cases hn : lv > 4 ∨ (if a.k = 0 then c else c + 1) > 256 ∨ aloneS a.k a.n a.sc a.s l.length = false
  · rw [if_pos hn]; exact ⟨hb, fun h => by cases h⟩
  · rw [if_neg hn]; exact hs l (fun _ h => h) _ hb (by omega)
set_option maxRecDepth 100000 in
set_option maxHeartbeats 4000000 in
theorem rsound_any : ∀ (v : VT) (lv c : Int) (g B : Nat) (w : World), VT.In B w v → Tabs B w → B ≤ w.heap.size → B ≤ g → One w g c → 1 ≤ lv → lv ≤ 5 → 0 ≤ c → c ≤ 256 →
    Calls Tryd.prog 26 #[.agg #[.int .i64 v.a.k, .int .i64 v.a.n, .int .i64 v.a.sc, .string v.a.s, .slice v.a.A v.l.length v.a.cap], .int .i64 lv, .pointer (some ⟨g, 0, none⟩)] w (SdPost g w (sdV lv c v)) := by
  refine VT.ind fun a l ih lv c g B w hin hT hB hg hone hlv1 hlv5 hc0 hc256 => ?_
  obtain ⟨k, n, sc, s, A, cap⟩ := a
  obtain ⟨_, _, _, hss, hr, hl⟩ := hin.inv
  simp only [VT.a_node, VT.l_node] at hr hss ⊢
  have hgl := hone.lt
  have hcell := hone.cell
  have hfr := hone.frozen
  obtain ⟨len, hlen⟩ : ∃ len, l.length = len := ⟨_, rfl⟩
  have hll : len ≤ 9223372036854775807 := by rw [← hlen]; exact Nat.le_trans hr.1 hr.2.1
  obtain ⟨r, hr0⟩ : ∃ r, sdV lv c (.node ⟨k, n, sc, s, A, cap⟩ l) = r := ⟨_, rfl⟩
  rw [hr0]
  unfold sdV at hr0
  rw [hlen] at hr0 ⊢
  have hlen := Lib.hid hlen
  simp only [] at hr0
  by_cases hk : k = 0
  · rw [if_pos hk] at hr0
    have nk : (k != 0) = false := by simpa using hk
    obtain ⟨c1, hc1⟩ : ∃ c1, c1 = c := ⟨_, rfl⟩
    have H0 : Hid ((if lv > 4 ∨ c1 > 256 ∨ aloneS k n sc s len = false then (false, c1) else sdVs (lv + 1) c1 l) = r) := by rw [hc1, ← hr0]; simp [Hid]
    have hc10 : 0 ≤ c1 := by omega
    obtain ⟨W1, hW1⟩ : ∃ W1, w.alloc (.cells #[.int .i64 k, .int .i64 n, .int .i64 sc, .string s, .slice A len cap] 29) = W1 := ⟨_, rfl⟩
    have hone1 : One W1 g c1 := by rw [← hW1, hc1]; exact hone.alloc _
    have hch1 : Ch g w W1 := by rw [← hW1]; exact (Ch.refl g w).alloc _
    clear hk hr0 hin
    have hc1 := Lib.hid hc1
    have hbsz : w.heap.size < W1.heap.size := by rw [← hW1]; simp
    have hbox : W1.cell? ⟨w.heap.size, 4, none⟩ = some (.slice A len cap) := by rw [← hW1]; simp
    have hS1 : Same B w W1 := hch1.same hB hg
    have hrW := hr.keep hS1
    have hlW := fun x (hx : x ∈ l) => (hl x hx).keep hS1
    have hT1 := hT.keep hS1
    have HW1 := Lib.hid hW1
    clear hW1 hr hl hT
    by_cases h4 : 4 < lv
    · have hf := Lib.hid (show r = (false, c1) by rw [← H0.out, if_pos (.inl h4)])
      clear H0
      go_enter Tryd.func26, Tryd.ntmps26
      go_wp2
      rw [HW1.out]
      go_ret
      exact ⟨by rw [hf.out]; rfl, hch1, by rw [hf.out]; exact hone1⟩
    by_cases h256 : 256 < c1
    · first
      | (exfalso; have := hc1.out; omega)
      | (have hf := Lib.hid (show r = (false, c1) by rw [← H0.out, if_pos (.inr (.inl h256))])
         clear H0
         rw [hc1.out] at h256
         go_enter Tryd.func26, Tryd.ntmps26
         go_wp2
         rw [HW1.out]
         go_ret
         exact ⟨by rw [hf.out]; rfl, hch1, by rw [hf.out]; exact hone1⟩)
    have hal := Lib.hid (ralone_any k n sc s A len cap B W1 (by unfold maxLen; omega) hss (by omega) hT1)
    cases ha : aloneS k n sc s len
    · have Ha := Lib.hid ha
      have hf := Lib.hid (show r = (false, c1) by rw [← H0.out, if_pos (.inr (.inr ha))])
      clear H0 ha
      have h256' : ¬ 256 < c := by rw [← hc1.out]; exact h256
      go_enter Tryd.func26, Tryd.ntmps26
      go_wp2_with fail
      rw [HW1.out]
      refine hal.out.mono ?_
      rintro e w2 ⟨rfl, hb2⟩
      rw [Ha.out]
      go_wp2
      go_ret
      exact ⟨by rw [hf.out]; rfl, hch1.then_below hb2, by rw [hf.out]; exact hone1.below hb2⟩
    have Ha := Lib.hid ha
    have H1 : Hid (sdVs (lv + 1) c1 l = r) := by have := H0.out; rw [if_neg (by simp [ha]; omega)] at this; exact this
    clear H0 ha
    have h256' : ¬ 256 < c := by rw [← hc1.out]; exact h256
    have hc11 : c1 ≤ 256 := by omega
    go_enter Tryd.func26, Tryd.ntmps26
    go_wp2_with fail
    rw [HW1.out]
    refine hal.out.mono ?_
    rintro e w2 ⟨rfl, hb2⟩
    rw [Ha.out]
    have hone2 := hone1.below hb2
    have hch2 := hch1.then_below hb2
    have hbox2 := (hb2.cell (p := ⟨w.heap.size, 4, none⟩) hbsz).trans hbox
    have hbsz2 : w.heap.size < w2.heap.size := Nat.lt_of_lt_of_le hbsz hb2.size
    have hS2 : Same B W1 w2 := Same.mono (Same.of_below hb2) (by omega)
    have hrW2 := hrW.keep hS2
    have hlW2 := fun x (hx : x ∈ l) => (hlW x hx).keep hS2
    have hT2 := hT1.keep hS2
    clear hrW hlW hbox hb2 HW1 hone1 hch1 hone hS1 hS2 hT1 hal hcell hfr
    go_wp2
    go_loopw [32] (fun i wr => ∃ (j : Nat) (c' : Int), j ≤ len ∧ i = .int .i64 j ∧ Ch g w wr ∧ One wr g c' ∧ 0 ≤ c' ∧ c' ≤ 256 ∧ wr.cell? ⟨w.heap.size, 4, none⟩ = some (.slice A len cap) ∧ w.heap.size < wr.heap.size ∧ Same B w2 wr ∧ Hid (sdVs (lv + 1) c' (l.drop j) = r)) (fun i _ => len - (intOf i).toNat)
    case atStart => exact ⟨0, c1, Nat.zero_le _, rfl, hch2, hone2, hc10, hc11, hbox2, hbsz2, Same.refl _ _, H1⟩
    case round =>
      obtain ⟨j, c', hj, rfl, hch, hon, hc'0, hc'1, hbx, hbs, hsm, HR⟩ := hrel
      by_cases hlt : j < len
      · obtain ⟨x, ad, hx, rfl, hb, d0, d1, d2, d3, d4⟩ := (hrW2.keep hsm).get (show j < l.length by rw [hlen.out]; exact hlt)
        have hxi := (hlW2 x (mem_of_get? hx)).keep hsm
        have hic := ih x (mem_of_get? hx) (lv + 1) c' g B wr hxi (hT2.keep hsm) (by omega) hg hon (by omega) (by omega) hc'0 hc'1
        obtain ⟨f, c2, hfc⟩ : ∃ f c2, sdV (lv + 1) c' x = (f, c2) := ⟨_, _, rfl⟩
        have hbd := sdV_bd x (lv + 1) c' hc'0 hc'1
        rw [hfc] at hic hbd
        have hdr := drop_of_get? hx
        have HR2 := HR.out
        rw [hdr] at HR2
        unfold sdVs at HR2
        rw [hfc] at HR2
        have Hic := Lib.hid hic
        have HR3 := Lib.hid HR2
        clear HR2 hic hdr hfc HR hxi hrW2 hlW2 ih hx hbox2 hT2
        cases f
        · have HR4 : Hid ((false, c2) = r) := by have := HR3.out; rw [if_neg (by simp)] at this; exact this
          go_wp2_with (go_at_call 26; refine (Hic.out).mono ?_; rintro e w' ⟨rfl, hch3, hon3⟩)
          go_ret
          exact ⟨by rw [← HR4.out]; rfl, hch.trans hch3, by rw [← HR4.out]; exact hon3⟩
        · have HR4 : Hid (sdVs (lv + 1) c2 (l.drop (j + 1)) = r) := by have := HR3.out; rw [if_pos rfl] at this; exact this
          go_wp2_with (go_at_call 26; refine (Hic.out).mono ?_; rintro e w' ⟨rfl, hch3, hon3⟩)
          go_roundw
          case rel => exact ⟨j + 1, c2, by omega, by go_num, hch.trans hch3, hon3, hbd.1, hbd.2 (by simp), (hch3.cell (p := ⟨w.heap.size, 4, none⟩) hbs (by simp; omega)).trans hbx, Nat.lt_of_lt_of_le hbs hch3.size, hsm.trans (hch3.same (by have := hch.size; omega) hg), HR4⟩
          case measure => simp [intOf]; omega
      · have HR2 : Hid ((true, c') = r) := by have := HR.out; rw [List.drop_eq_nil_of_le (by rw [hlen.out]; omega)] at this; unfold sdVs at this; exact this
        go_wp2
        go_ret
        exact ⟨by rw [← HR2.out]; rfl, hch, by rw [← HR2.out]; exact hon⟩
  · rw [if_neg hk] at hr0
    have nk : (k != 0) = true := by simpa using hk
    obtain ⟨c1, hc1⟩ : ∃ c1, c1 = c + 1 := ⟨_, rfl⟩
    have H0 : Hid ((if lv > 4 ∨ c1 > 256 ∨ aloneS k n sc s len = false then (false, c1) else sdVs (lv + 1) c1 l) = r) := by rw [hc1, ← hr0]; simp [Hid]
    have hc10 : 0 ≤ c1 := by omega
    obtain ⟨W1, hW1⟩ : ∃ W1, (w.setCell ⟨g, 0, none⟩ (.int .i64 (c + 1))).alloc (.cells #[.int .i64 k, .int .i64 n, .int .i64 sc, .string s, .slice A len cap] 29) = W1 := ⟨_, rfl⟩
    have hone1 : One W1 g c1 := by rw [← hW1, hc1]; exact (hone.set _).alloc _
    have hch1 : Ch g w W1 := by rw [← hW1]; exact ((Ch.refl g w).setCell _ _).alloc _
    clear hk hr0 hin
    have hc1 := Lib.hid hc1
    have hbsz : w.heap.size < W1.heap.size := by rw [← hW1]; simp
    have hbox : W1.cell? ⟨w.heap.size, 4, none⟩ = some (.slice A len cap) := by rw [← hW1]; exact cell_new_set _ _ _ _ _ _
    have hS1 : Same B w W1 := hch1.same hB hg
    have hrW := hr.keep hS1
    have hlW := fun x (hx : x ∈ l) => (hl x hx).keep hS1
    have hT1 := hT.keep hS1
    have HW1 := Lib.hid hW1
    clear hW1 hr hl hT
    by_cases h4 : 4 < lv
    · have hf := Lib.hid (show r = (false, c1) by rw [← H0.out, if_pos (.inl h4)])
      clear H0
      go_enter Tryd.func26, Tryd.ntmps26
      go_wp2
      rw [HW1.out]
      go_ret
      exact ⟨by rw [hf.out]; rfl, hch1, by rw [hf.out]; exact hone1⟩
    by_cases h256 : 256 < c1
    · first
      | (exfalso; have := hc1.out; omega)
      | (have hf := Lib.hid (show r = (false, c1) by rw [← H0.out, if_pos (.inr (.inl h256))])
         clear H0
         rw [hc1.out] at h256
         go_enter Tryd.func26, Tryd.ntmps26
         go_wp2
         rw [HW1.out]
         go_ret
         exact ⟨by rw [hf.out]; rfl, hch1, by rw [hf.out]; exact hone1⟩)
    have hal := Lib.hid (ralone_any k n sc s A len cap B W1 (by unfold maxLen; omega) hss (by omega) hT1)
    cases ha : aloneS k n sc s len
    · have Ha := Lib.hid ha
      have hf := Lib.hid (show r = (false, c1) by rw [← H0.out, if_pos (.inr (.inr ha))])
      clear H0 ha
      have h256' : ¬ 256 < c + 1 := by rw [← hc1.out]; exact h256
      go_enter Tryd.func26, Tryd.ntmps26
      go_wp2_with fail
      rw [HW1.out]
      refine hal.out.mono ?_
      rintro e w2 ⟨rfl, hb2⟩
      rw [Ha.out]
      go_wp2
      go_ret
      exact ⟨by rw [hf.out]; rfl, hch1.then_below hb2, by rw [hf.out]; exact hone1.below hb2⟩
    have Ha := Lib.hid ha
    have H1 : Hid (sdVs (lv + 1) c1 l = r) := by have := H0.out; rw [if_neg (by simp [ha]; omega)] at this; exact this
    clear H0 ha
    have h256' : ¬ 256 < c + 1 := by rw [← hc1.out]; exact h256
    have hc11 : c1 ≤ 256 := by omega
    go_enter Tryd.func26, Tryd.ntmps26
    go_wp2_with fail
    rw [HW1.out]
    refine hal.out.mono ?_
    rintro e w2 ⟨rfl, hb2⟩
    rw [Ha.out]
    have hone2 := hone1.below hb2
    have hch2 := hch1.then_below hb2
    have hbox2 := (hb2.cell (p := ⟨w.heap.size, 4, none⟩) hbsz).trans hbox
    have hbsz2 : w.heap.size < w2.heap.size := Nat.lt_of_lt_of_le hbsz hb2.size
    have hS2 : Same B W1 w2 := Same.mono (Same.of_below hb2) (by omega)
    have hrW2 := hrW.keep hS2
    have hlW2 := fun x (hx : x ∈ l) => (hlW x hx).keep hS2
    have hT2 := hT1.keep hS2
    clear hrW hlW hbox hb2 HW1 hone1 hch1 hone hS1 hS2 hT1 hal hcell hfr
    go_wp2
    go_loopw [32] (fun i wr => ∃ (j : Nat) (c' : Int), j ≤ len ∧ i = .int .i64 j ∧ Ch g w wr ∧ One wr g c' ∧ 0 ≤ c' ∧ c' ≤ 256 ∧ wr.cell? ⟨w.heap.size, 4, none⟩ = some (.slice A len cap) ∧ w.heap.size < wr.heap.size ∧ Same B w2 wr ∧ Hid (sdVs (lv + 1) c' (l.drop j) = r)) (fun i _ => len - (intOf i).toNat)
    case atStart => exact ⟨0, c1, Nat.zero_le _, rfl, hch2, hone2, hc10, hc11, hbox2, hbsz2, Same.refl _ _, H1⟩
    case round =>
      obtain ⟨j, c', hj, rfl, hch, hon, hc'0, hc'1, hbx, hbs, hsm, HR⟩ := hrel
      by_cases hlt : j < len
      · obtain ⟨x, ad, hx, rfl, hb, d0, d1, d2, d3, d4⟩ := (hrW2.keep hsm).get (show j < l.length by rw [hlen.out]; exact hlt)
        have hxi := (hlW2 x (mem_of_get? hx)).keep hsm
        have hic := ih x (mem_of_get? hx) (lv + 1) c' g B wr hxi (hT2.keep hsm) (by omega) hg hon (by omega) (by omega) hc'0 hc'1
        obtain ⟨f, c2, hfc⟩ : ∃ f c2, sdV (lv + 1) c' x = (f, c2) := ⟨_, _, rfl⟩
        have hbd := sdV_bd x (lv + 1) c' hc'0 hc'1
        rw [hfc] at hic hbd
        have hdr := drop_of_get? hx
        have HR2 := HR.out
        rw [hdr] at HR2
        unfold sdVs at HR2
        rw [hfc] at HR2
        have Hic := Lib.hid hic
        have HR3 := Lib.hid HR2
        clear HR2 hic hdr hfc HR hxi hrW2 hlW2 ih hx hbox2 hT2
        cases f
        · have HR4 : Hid ((false, c2) = r) := by have := HR3.out; rw [if_neg (by simp)] at this; exact this
          go_wp2_with (go_at_call 26; refine (Hic.out).mono ?_; rintro e w' ⟨rfl, hch3, hon3⟩)
          go_ret
          exact ⟨by rw [← HR4.out]; rfl, hch.trans hch3, by rw [← HR4.out]; exact hon3⟩
        · have HR4 : Hid (sdVs (lv + 1) c2 (l.drop (j + 1)) = r) := by have := HR3.out; rw [if_pos rfl] at this; exact this
          go_wp2_with (go_at_call 26; refine (Hic.out).mono ?_; rintro e w' ⟨rfl, hch3, hon3⟩)
          go_roundw
          case rel => exact ⟨j + 1, c2, by omega, by go_num, hch.trans hch3, hon3, hbd.1, hbd.2 (by simp), (hch3.cell (p := ⟨w.heap.size, 4, none⟩) hbs (by simp; omega)).trans hbx, Nat.lt_of_lt_of_le hbs hch3.size, hsm.trans (hch3.same (by have := hch.size; omega) hg), HR4⟩
          case measure => simp [intOf]; omega
      · have HR2 : Hid ((true, c') = r) := by have := HR.out; rw [List.drop_eq_nil_of_le (by rw [hlen.out]; omega)] at this; unfold sdVs at this; exact this
        go_wp2
        go_ret
        exact ⟨by rw [← HR2.out]; rfl, hch, by rw [← HR2.out]; exact hon⟩
end Go.Proofs.YteeabfdafnncfaaDoor
