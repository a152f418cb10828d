/-
  Package value: sound values.
-/
import Derived.Test.YteeabfdafnncfaaDoorQValF
import Derived.Test.YteeabfdafnncfaaDoorQRefH
namespace Go.Proofs.YteeabfdafnncfaaDoor
open Go.RowKit
theorem cell_at_new (w : World) {b : Nat} (hb : w.heap.size = b) (cs : Array Value) (t : TypeId) (i : Nat) (v : Value) (h : cs[i]? = some v) : (w.alloc (.cells cs t)).cell? ⟨b, i, none⟩ = some v := by
  rw [← hb, cell_new]
  exact h
set_option maxRecDepth 100000 in
set_option maxHeartbeats 1000000 in
theorem vsound1_any (x : VT) (lv : Int) (g b1 b2 : Nat) (f : Bool) (c2 : Int) (W : World) (h1 : W.cell? ⟨b1, 0, none⟩ = some (.int .i64 lv)) (h2 : W.cell? ⟨b2, 0, none⟩ = some (.pointer (some ⟨g, 0, none⟩))) (hlv1 : 1 ≤ lv) (hlv4 : lv ≤ 4)
    (hc : ∀ o, Calls Tryd.prog 18 #[.agg #[.int .i64 x.a.k, .int .i64 x.a.n, .int .i64 x.a.sc, .string x.a.s, .slice x.a.A x.l.length x.a.cap], .int .i64 (lv + 1), .pointer (some ⟨g, 0, none⟩)] (W.alloc o) (SdPost g (W.alloc o) (f, c2))) :
    Calls Tryd.prog 31 #[.agg #[.int .i64 x.a.k, .int .i64 x.a.n, .int .i64 x.a.sc, .string x.a.s, .slice x.a.A x.l.length x.a.cap], .pointer (some ⟨b1, 0, none⟩), .pointer (some ⟨b2, 0, none⟩)] W (SdPost g W (!f, c2)) := by
  have Hc := Lib.hid hc
  have k1 := fun o => cell_old h1 o
  have k2 := fun o => cell_old h2 o
  have l1 := cell_lt h1
  have l2 := cell_lt h2
  simp only [] at l1 l2
  clear hc h1 h2
  go_enter Tryd.func31, Tryd.ntmps31
  go_wp2_with (go_at_call 18; refine (Hc.out _).mono ?_; rintro e w' ⟨rfl, hch, hon⟩)
  go_ret
  exact ⟨rfl, ((Ch.refl g W).alloc _).trans hch, hon⟩
/-- Behind the first j items. -/
def SoSt (g : Nat) (w3 : World) (lv : Int) (l : List VT) (r : Bool × Int) (j : Nat) (W : World) : Prop := ∃ c' : Int, Ch g w3 W ∧ One W g c' ∧ 0 ≤ c' ∧ c' ≤ 256 ∧ sdVs (lv + 1) c' (l.drop j) = r
def SoFin (g : Nat) (w3 : World) (r : Bool × Int) (W : World) : Prop := Ch g w3 W ∧ ∃ c', One W g c' ∧ r = (false, c')
theorem items_ct {B g b1 b2 : Nat} {w : World} (A : Option Addr) (cap len : Nat) (l : List VT) (lv c : Int) (r : Bool × Int) (hr : VT.Row B w A cap l) (hB : B ≤ w.heap.size) (hg : B ≤ g) (hlen : Hid (l.length = len)) (hlv1 : 1 ≤ lv) (hlv4 : lv ≤ 4)
    (h1 : w.cell? ⟨b1, 0, none⟩ = some (.int .i64 lv)) (h2 : w.cell? ⟨b2, 0, none⟩ = some (.pointer (some ⟨g, 0, none⟩))) (hb1 : b1 ≠ g) (hb2 : b2 ≠ g) (hone : One w g c) (hc0 : 0 ≤ c) (hc1 : c ≤ 256) (hR : sdVs (lv + 1) c l = r)
    (ih : ∀ x, x ∈ l → ∀ (c : Int) (w' : World), Same B w w' → B ≤ w'.heap.size → One w' g c → 0 ≤ c → c ≤ 256 →
      Calls Tryd.prog 18 #[.agg #[.int .i64 x.a.k, .int .i64 x.a.n, .int .i64 x.a.sc, .string x.a.s, .slice x.a.A x.l.length x.a.cap], .int .i64 (lv + 1), .pointer (some ⟨g, 0, none⟩)] w' (SdPost g w' (sdV (lv + 1) c x))) :
    Calls Tryd.prog 30 #[.slice A len cap, .func (.func 31) #[] #[.pointer (some ⟨b1, 0, none⟩), .pointer (some ⟨b2, 0, none⟩)]] w (CtPost len (SoSt g w lv l r) (SoFin g w r)) := by
  refine ctV_any 31 #[.pointer (some ⟨b1, 0, none⟩), .pointer (some ⟨b2, 0, none⟩)] (enters_of Tryd.func31 (by kernel_rfl) rfl) l A cap len B w hr hlen (SoSt g w lv l r) (SoFin g w r) ⟨c, Ch.refl _ _, hone, hc0, hc1, hR⟩ (fun j W h => ?_) (fun j x W hx hst => ?_)
  · obtain ⟨c', hch, _⟩ := h
    exact hch.same hB hg
  · obtain ⟨c', hch, hon, hc'0, hc'1, hRj⟩ := hst
    have hS := hch.same hB hg
    have hBW : B ≤ W.heap.size := Nat.le_trans hB hch.size
    rw [drop_of_get? hx] at hRj
    unfold sdVs at hRj
    have hbd := sdV_bd x (lv + 1) c' hc'0 hc'1
    have hcall := vsound1_any x lv g b1 b2 (sdV (lv + 1) c' x).1 (sdV (lv + 1) c' x).2 W ((hch.cell (p := ⟨b1, 0, none⟩) (cell_lt h1) hb1).trans h1) ((hch.cell (p := ⟨b2, 0, none⟩) (cell_lt h2) hb2).trans h2) hlv1 hlv4
      (fun o => ih x (mem_of_get? hx) c' (W.alloc o) (hS.alloc hBW o) (by simp; omega) (hon.alloc o) hc'0 hc'1)
    refine hcall.mono fun e w' ⟨he, hch', hon'⟩ => ?_
    cases hf : (sdV (lv + 1) c' x).1
    · rw [hf] at he hRj
      rw [if_neg (by simp)] at hRj
      refine .inl ⟨he, hch.trans hch', _, hon', ?_⟩
      rw [← hRj, ← hf]
    · rw [hf] at he hRj
      rw [if_pos rfl] at hRj
      exact .inr ⟨he, _, hch.trans hch', hon', hbd.1, hbd.2 hf, hRj⟩
set_option maxRecDepth 100000 in
set_option maxHeartbeats 4000000 in
theorem vsound_any : ∀ (v : VT) (lv c : Int) (g B : Nat) (w : World), VT.In B w v → Tabs B w → B ≤ w.heap.size → B ≤ g → One w g c → 1 ≤ lv → lv ≤ 5 → 0 ≤ c → c ≤ 256 →
    Calls Tryd.prog 18 #[.agg #[.int .i64 v.a.k, .int .i64 v.a.n, .int .i64 v.a.sc, .string v.a.s, .slice v.a.A v.l.length v.a.cap], .int .i64 lv, .pointer (some ⟨g, 0, none⟩)] w (SdPost g w (sdV lv c v)) := by
  refine VT.ind fun a l ih lv c g B w hin hT hB hg hone hlv1 hlv5 hc0 hc256 => ?_
  obtain ⟨k, n, sc, s, A, cap⟩ := a
  obtain ⟨_, _, _, hss, hr, hl⟩ := hin.parts
  simp only [VT.a_node, VT.l_node] at hr hss ⊢
  have hgl := hone.lt
  have hgl1 : g < w.heap.size + 1 := by omega
  have hgl2 : g < w.heap.size + 1 + 1 := by omega
  have hcell := hone.cell
  have hfr := hone.frozen
  obtain ⟨len, hlen⟩ : ∃ len, l.length = len := ⟨_, rfl⟩
  have hll : len ≤ 9223372036854775807 := by rw [← hlen]; exact Nat.le_trans hr.1 hr.2.1
  obtain ⟨r, hr0⟩ : ∃ r, sdV lv c (.node ⟨k, n, sc, s, A, cap⟩ l) = r := ⟨_, rfl⟩
  rw [hr0]
  unfold sdV at hr0
  rw [hlen] at hr0 ⊢
  have hlen' := Lib.hid hlen
  clear hlen
  have hlen := hlen'
  clear hlen'
  simp only [] at hr0
  by_cases hk : k = 0
  · rw [if_pos hk] at hr0
    have nk : (k != 0) = false := by simpa using hk
    obtain ⟨c1, hc1⟩ : ∃ c1, c1 = c := ⟨_, rfl⟩
    have H0 : Hid ((if lv > 4 ∨ c1 > 256 ∨ aloneS k n sc s len = false then (false, c1) else sdVs (lv + 1) c1 l) = r) := by rw [hc1, ← hr0]; simp [Hid]
    have hc10 : 0 ≤ c1 := by omega
    obtain ⟨W1, hW1⟩ : ∃ W1, ((w.alloc (.cells #[.int .i64 k, .int .i64 n, .int .i64 sc, .string s, .slice A len cap] 29)).alloc (.cells #[.int .i64 lv] 3)).alloc (.cells #[.pointer (some ⟨g, 0, none⟩)] 45) = W1 := ⟨_, rfl⟩
    have hone1 : One W1 g c1 := by rw [← hW1, hc1]; exact ((hone.alloc _).alloc _).alloc _
    have hch1 : Ch g w W1 := by rw [← hW1]; exact (((Ch.refl g w).alloc _).alloc _).alloc _
    clear hk hr0 hin
    have hc1 := Lib.hid hc1
    have hbsz : w.heap.size + 1 + 1 < W1.heap.size := by rw [← hW1]; simp
    have hp4 : W1.cell? ⟨w.heap.size, 4, none⟩ = some (.slice A len cap) := by rw [← hW1]; exact cell_old (cell_old (cell_at_new _ rfl _ _ _ _ rfl) _) _
    have hp1 : W1.cell? ⟨w.heap.size + 1, 0, none⟩ = some (.int .i64 lv) := by rw [← hW1]; exact cell_old (cell_at_new _ (by simp) _ _ _ _ rfl) _
    have hp2 : W1.cell? ⟨w.heap.size + 1 + 1, 0, none⟩ = some (.pointer (some ⟨g, 0, none⟩)) := by rw [← hW1]; exact cell_at_new _ (by simp) _ _ _ _ rfl
    have hS1 : Same B w W1 := hch1.same hB hg
    have hrW := hr.keep hS1
    have hlW := fun x (hx : x ∈ l) => (hl x hx).keep hS1
    have hT1 := hT.keep hS1
    have HW1 := Lib.hid hW1
    clear hW1 hr hl hT
    by_cases h4 : 4 < lv
    · have hf := Lib.hid (show r = (false, c1) by rw [← H0.out, if_pos (.inl h4)])
      clear H0 ih
      go_enter Tryd.func18, Tryd.ntmps18
      go_wp2
      rw [HW1.out]
      go_ret
      exact ⟨by rw [hf.out]; rfl, hch1, by rw [hf.out]; exact hone1⟩
    by_cases h256 : 256 < c1
    · first
      | (exfalso; have := hc1.out; omega)
      | (have hf := Lib.hid (show r = (false, c1) by rw [← H0.out, if_pos (.inr (.inl h256))])
         clear H0 ih
         rw [hc1.out] at h256
         go_enter Tryd.func18, Tryd.ntmps18
         go_wp2
         rw [HW1.out]
         go_ret
         exact ⟨by rw [hf.out]; rfl, hch1, by rw [hf.out]; exact hone1⟩)
    have hal := Lib.hid (vplain_any k n sc s A len cap B W1 (by unfold maxLen; omega) hss (by omega) hT1)
    cases ha : aloneS k n sc s len
    · have Ha := Lib.hid ha
      have hf := Lib.hid (show r = (false, c1) by rw [← H0.out, if_pos (.inr (.inr ha))])
      clear H0 ha ih
      have h256' : ¬ 256 < c := by rw [← hc1.out]; exact h256
      go_enter Tryd.func18, Tryd.ntmps18
      go_wp2_with fail
      rw [HW1.out]
      refine hal.out.mono ?_
      rintro e w2 ⟨rfl, hb2⟩
      rw [Ha.out]
      go_wp2
      go_ret
      exact ⟨by rw [hf.out]; rfl, hch1.then_below hb2, by rw [hf.out]; exact hone1.below hb2⟩
    have Ha := Lib.hid ha
    have H1 : Hid (sdVs (lv + 1) c1 l = r) := by have := H0.out; rw [if_neg (by simp [ha]; omega)] at this; exact this
    clear H0 ha
    have h256' : ¬ 256 < c := by rw [← hc1.out]; exact h256
    have hc11 : c1 ≤ 256 := by omega
    go_enter Tryd.func18, Tryd.ntmps18
    go_wp2_with fail
    rw [HW1.out]
    refine hal.out.mono ?_
    rintro e w2 ⟨rfl, hb2⟩
    rw [Ha.out]
    have hone2 := hone1.below hb2
    have hch2 := hch1.then_below hb2
    have hq4 := (hb2.cell (p := ⟨w.heap.size, 4, none⟩) (by show w.heap.size < _; omega)).trans hp4
    have hq1 := (hb2.cell (p := ⟨w.heap.size + 1, 0, none⟩) (by show w.heap.size + 1 < _; omega)).trans hp1
    have hq2 := (hb2.cell (p := ⟨w.heap.size + 1 + 1, 0, none⟩) (by show w.heap.size + 1 + 1 < _; omega)).trans hp2
    have hz2 : W1.heap.size ≤ w2.heap.size := hb2.size
    have hS2 : Same B W1 w2 := Same.mono (Same.of_below hb2) (by omega)
    have hct := Lib.hid (items_ct (b1 := w.heap.size + 1) (b2 := w.heap.size + 1 + 1) A cap len l lv c1 r (hrW.keep hS2) (by omega) hg hlen hlv1 (by omega) hq1 hq2 (by omega) (by omega) hone2 hc10 hc11 H1.out
      (fun x hx c w' hs hB' hon h0 h1 => ih x hx (lv + 1) c g B w' (((hlW x hx).keep hS2).keep hs) ((hT1.keep hS2).keep hs) hB' hg hon (by omega) (by omega) h0 h1))
    clear hrW hlW hp4 hp1 hp2 hb2 HW1 hone1 hch1 hone hS1 hS2 hT1 hal hcell hfr ih
    go_wp2_with fail
    refine hct.out.mono ?_
    rintro e w3 (⟨rfl, hch3, c', hon3, hr3⟩ | ⟨rfl, c', hch3, hon3, _, _, hr3⟩)
    · have HR := Lib.hid hr3
      clear hr3
      go_wp2
      go_ret
      exact ⟨by rw [HR.out]; rfl, hch2.trans hch3, by rw [HR.out]; exact hon3⟩
    · have HR : Hid (r = (true, c')) := by rw [← hr3, List.drop_eq_nil_of_le (by rw [hlen.out]; omega)]; unfold sdVs; exact rfl
      clear hr3
      go_wp2
      go_ret
      exact ⟨by rw [HR.out]; rfl, hch2.trans hch3, by rw [HR.out]; exact hon3⟩
  · rw [if_neg hk] at hr0
    have nk : (k != 0) = true := by simpa using hk
    obtain ⟨c1, hc1⟩ : ∃ c1, c1 = c + 1 := ⟨_, rfl⟩
    have H0 : Hid ((if lv > 4 ∨ c1 > 256 ∨ aloneS k n sc s len = false then (false, c1) else sdVs (lv + 1) c1 l) = r) := by rw [hc1, ← hr0]; simp [Hid]
    have hc10 : 0 ≤ c1 := by omega
    obtain ⟨W1, hW1⟩ : ∃ W1, (((w.setCell ⟨g, 0, none⟩ (.int .i64 (c + 1))).alloc (.cells #[.int .i64 k, .int .i64 n, .int .i64 sc, .string s, .slice A len cap] 29)).alloc (.cells #[.int .i64 lv] 3)).alloc (.cells #[.pointer (some ⟨g, 0, none⟩)] 45) = W1 := ⟨_, rfl⟩
    have hone1 : One W1 g c1 := by rw [← hW1, hc1]; exact (((hone.set _).alloc _).alloc _).alloc _
    have hch1 : Ch g w W1 := by rw [← hW1]; exact ((((Ch.refl g w).setCell _ _).alloc _).alloc _).alloc _
    have hzs : (w.setCell ⟨g, 0, none⟩ (.int .i64 (c + 1))).heap.size = w.heap.size := size_setCell _ _ _
    clear hk hr0 hin
    have hc1 := Lib.hid hc1
    have hbsz : w.heap.size + 1 + 1 < W1.heap.size := by rw [← hW1]; simp
    have hp4 : W1.cell? ⟨w.heap.size, 4, none⟩ = some (.slice A len cap) := by rw [← hW1]; exact cell_old (cell_old (cell_at_new _ hzs _ _ _ _ rfl) _) _
    have hp1 : W1.cell? ⟨w.heap.size + 1, 0, none⟩ = some (.int .i64 lv) := by rw [← hW1]; exact cell_old (cell_at_new _ (by simp) _ _ _ _ rfl) _
    have hp2 : W1.cell? ⟨w.heap.size + 1 + 1, 0, none⟩ = some (.pointer (some ⟨g, 0, none⟩)) := by rw [← hW1]; exact cell_at_new _ (by simp) _ _ _ _ rfl
    have hS1 : Same B w W1 := hch1.same hB hg
    have hrW := hr.keep hS1
    have hlW := fun x (hx : x ∈ l) => (hl x hx).keep hS1
    have hT1 := hT.keep hS1
    have HW1 := Lib.hid hW1
    clear hW1 hr hl hT
    by_cases h4 : 4 < lv
    · have hf := Lib.hid (show r = (false, c1) by rw [← H0.out, if_pos (.inl h4)])
      clear H0 ih
      go_enter Tryd.func18, Tryd.ntmps18
      go_wp2
      rw [HW1.out]
      go_ret
      exact ⟨by rw [hf.out]; rfl, hch1, by rw [hf.out]; exact hone1⟩
    by_cases h256 : 256 < c1
    · first
      | (exfalso; have := hc1.out; omega)
      | (have hf := Lib.hid (show r = (false, c1) by rw [← H0.out, if_pos (.inr (.inl h256))])
         clear H0 ih
         rw [hc1.out] at h256
         go_enter Tryd.func18, Tryd.ntmps18
         go_wp2
         rw [HW1.out]
         go_ret
         exact ⟨by rw [hf.out]; rfl, hch1, by rw [hf.out]; exact hone1⟩)
    have hal := Lib.hid (vplain_any k n sc s A len cap B W1 (by unfold maxLen; omega) hss (by omega) hT1)
    cases ha : aloneS k n sc s len
    · have Ha := Lib.hid ha
      have hf := Lib.hid (show r = (false, c1) by rw [← H0.out, if_pos (.inr (.inr ha))])
      clear H0 ha ih
      have h256' : ¬ 256 < c + 1 := by rw [← hc1.out]; exact h256
      go_enter Tryd.func18, Tryd.ntmps18
      go_wp2_with fail
      rw [HW1.out]
      refine hal.out.mono ?_
      rintro e w2 ⟨rfl, hb2⟩
      rw [Ha.out]
      go_wp2
      go_ret
      exact ⟨by rw [hf.out]; rfl, hch1.then_below hb2, by rw [hf.out]; exact hone1.below hb2⟩
    have Ha := Lib.hid ha
    have H1 : Hid (sdVs (lv + 1) c1 l = r) := by have := H0.out; rw [if_neg (by simp [ha]; omega)] at this; exact this
    clear H0 ha
    have h256' : ¬ 256 < c + 1 := by rw [← hc1.out]; exact h256
    have hc11 : c1 ≤ 256 := by omega
    go_enter Tryd.func18, Tryd.ntmps18
    go_wp2_with fail
    rw [HW1.out]
    refine hal.out.mono ?_
    rintro e w2 ⟨rfl, hb2⟩
    rw [Ha.out]
    have hone2 := hone1.below hb2
    have hch2 := hch1.then_below hb2
    have hq4 := (hb2.cell (p := ⟨w.heap.size, 4, none⟩) (by show w.heap.size < _; omega)).trans hp4
    have hq1 := (hb2.cell (p := ⟨w.heap.size + 1, 0, none⟩) (by show w.heap.size + 1 < _; omega)).trans hp1
    have hq2 := (hb2.cell (p := ⟨w.heap.size + 1 + 1, 0, none⟩) (by show w.heap.size + 1 + 1 < _; omega)).trans hp2
    have hz2 : W1.heap.size ≤ w2.heap.size := hb2.size
    have hS2 : Same B W1 w2 := Same.mono (Same.of_below hb2) (by omega)
    have hct := Lib.hid (items_ct (b1 := w.heap.size + 1) (b2 := w.heap.size + 1 + 1) A cap len l lv c1 r (hrW.keep hS2) (by omega) hg hlen hlv1 (by omega) hq1 hq2 (by omega) (by omega) hone2 hc10 hc11 H1.out
      (fun x hx c w' hs hB' hon h0 h1 => ih x hx (lv + 1) c g B w' (((hlW x hx).keep hS2).keep hs) ((hT1.keep hS2).keep hs) hB' hg hon (by omega) (by omega) h0 h1))
    clear hrW hlW hp4 hp1 hp2 hb2 HW1 hone1 hch1 hone hS1 hS2 hT1 hal hcell hfr ih
    go_wp2_with fail
    refine hct.out.mono ?_
    rintro e w3 (⟨rfl, hch3, c', hon3, hr3⟩ | ⟨rfl, c', hch3, hon3, _, _, hr3⟩)
    · have HR := Lib.hid hr3
      clear hr3
      go_wp2
      go_ret
      exact ⟨by rw [HR.out]; rfl, hch2.trans hch3, by rw [HR.out]; exact hon3⟩
    · have HR : Hid (r = (true, c')) := by rw [← hr3, List.drop_eq_nil_of_le (by rw [hlen.out]; omega)]; unfold sdVs; exact rfl
      clear hr3
      go_wp2
      go_ret
      exact ⟨by rw [HR.out]; rfl, hch2.trans hch3, by rw [HR.out]; exact hon3⟩
end Go.Proofs.YteeabfdafnncfaaDoor
