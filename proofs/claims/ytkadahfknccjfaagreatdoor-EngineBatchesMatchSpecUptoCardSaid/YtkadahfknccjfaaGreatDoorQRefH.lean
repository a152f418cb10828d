/-
  The reference of package value: texts, and values without their items.
  The reference of package value: a value without its items.
  The reference of package value: sound values.
-/
import Derived.Test.YtkadahfknccjfaaGreatDoorQData3
import Derived.Test.YtkadahfknccjfaaGreatDoorQRefE
import Derived.Test.YtkadahfknccjfaaGreatDoorQShelfV
import Derived.Deep.Light
namespace Go.Proofs.YtkadahfknccjfaaGreatDoor
open Go.RowKit
/-- The two tables of unicode/utf8 lie below B as their initialisers lay them. -/
def Tabs (B : Nat) (w : World) : Prop := 0 < B ∧ 1 < B ∧ Lib.Utf8Tabs 0 1 w
theorem Tabs.keep {B : Nat} {w w' : World} (h : Tabs B w) (hs : Same B w w') : Tabs B w' := by
  obtain ⟨h1, h2, h3, h4⟩ := h
  refine ⟨h1, h2, fun c hc => ?_, fun i hi => ⟨?_, ?_⟩⟩
  · rw [hs.cell (p := ⟨0, c, none⟩) h1]; exact h3 c hc
  · rw [hs.cell (p := ⟨1, 2 * i, none⟩) h2]; exact (h4 i hi).1
  · rw [hs.cell (p := ⟨1, 2 * i + 1, none⟩) h2]; exact (h4 i hi).2
theorem chars_not {s : ByteArray} {j : Nat} (hlt : j < s.size) (hg : chB s[j] = false) : charsB s = false := by
  rw [Bool.eq_false_iff]
  intro h
  simp only [charsB, Bool.and_eq_true, decide_eq_true_eq] at h
  rw [h.2 j hlt] at hg
  cases hg
theorem chars_step {s : ByteArray} {j : Nat} {hlt : j < s.size} (h : Hid (∀ i (h : i < s.size), i < j → chB s[i] = true)) (hg : Hid (chB s[j] = true)) : Hid (∀ i (h : i < s.size), i < j + 1 → chB s[i] = true) := by
  intro i hi hj
  by_cases e : i = j
  · subst e; exact hg
  · exact h i hi (by omega)
set_option maxRecDepth 100000 in
set_option maxHeartbeats 1000000 in
theorem rcharacters_any (s : ByteArray) (B : Nat) (w : World) (hs : s.size ≤ maxLen) (hT : Tabs B w) :
    Calls Tryz.prog 106 #[.string s] w fun e w' => e = .returned (.bool (charsB s)) ∧ Below w.heap.size w w' := by
  unfold maxLen at hs
  have hV := Lib.hid (Tryz.utf8_ValidString s w (by omega) hT.2.2)
  cases hv : Lib.validD s.data.toList
  · have Hv := Lib.hid hv
    have hf := Lib.hid (show charsB s = false by simp [charsB, hv])
    clear hv hT
    go_enter Tryz.func106, Tryz.ntmps106
    go_wp2_with (go_at_call 109; refine (hV.out).mono ?_; rintro e w' ⟨rfl, hb⟩; rw [Hv.out])
    go_ret
    exact ⟨by rw [hf.out]; rfl, hb⟩
  · have Hv := Lib.hid hv
    by_cases h2 : 256 < s.size
    · have hf := Lib.hid (show charsB s = false by simp [charsB]; omega)
      clear hv hT
      go_enter Tryz.func106, Tryz.ntmps106
      go_wp2_with (go_at_call 109; refine (hV.out).mono ?_; rintro e w' ⟨rfl, hb⟩; rw [Hv.out])
      go_ret
      exact ⟨by rw [hf.out]; rfl, hb⟩
    · clear hv hT
      go_enter Tryz.func106, Tryz.ntmps106
      go_wp2_with (go_at_call 109; refine (hV.out).mono ?_; rintro e w' ⟨rfl, hb⟩; rw [Hv.out])
      go_loop [3] (fun i => ∃ j : Nat, j ≤ s.size ∧ i = .int .i64 j ∧ Hid (∀ i (h : i < s.size), i < j → chB s[i] = true)) (fun i => s.size - (intOf i).toNat)
      case atStart => exact ⟨0, Nat.zero_le _, rfl, fun i _ h => absurd h (by omega)⟩
      case round =>
        obtain ⟨j, hj, rfl, hall⟩ := hrel
        by_cases hlt : j < s.size
        · have hx : (0 ≤ (s[j].toNat : Int) ∧ (s[j].toNat : Int) < 32) ∨ (32 ≤ (s[j].toNat : Int) ∧ (s[j].toNat : Int) < 127) ∨ (127 < (s[j].toNat : Int) ∧ (s[j].toNat : Int) < 256) ∨ ((s[j].toNat : Int) = 127) := by
            have := s[j].toNat_lt
            omega
          rcases hx with ⟨a, b⟩ | ⟨a, b⟩ | ⟨a, b⟩ | a
          · have hg := Lib.hid (chars_not (by omega) (show chB s[j] = false by simp [chB]; omega))
            go_wp2
            go_ret
            exact ⟨by rw [hg.out]; rfl, hb⟩
          · have hg := Lib.hid (show chB s[j] = true by simp [chB]; omega)
            have e3 : ((s[j].toNat : Int) == 127) = false := by simp; omega
            go_wp2
            go_round
            case rel => exact ⟨j + 1, by omega, by go_num, chars_step hall hg⟩
            case measure => simp [intOf]; omega
          · have hg := Lib.hid (show chB s[j] = true by simp [chB]; omega)
            have e3 : ((s[j].toNat : Int) == 127) = false := by simp; omega
            go_wp2
            go_round
            case rel => exact ⟨j + 1, by omega, by go_num, chars_step hall hg⟩
            case measure => simp [intOf]; omega
          · have hg := Lib.hid (chars_not (by omega) (show chB s[j] = false by simp [chB]; omega))
            have e3 : ((s[j].toNat : Int) == 127) = true := by simp; omega
            have a1 : 126 < (s[j].toNat : Int) := by omega
            clear a
            go_wp2
            go_ret
            exact ⟨by rw [hg.out]; rfl, hb⟩
        · have hg := Lib.hid (show charsB s = true by
            have h1 := hall.out
            have h3 := Hv.out
            simp only [charsB, Bool.and_eq_true, decide_eq_true_eq]
            exact ⟨⟨h3, by omega⟩, fun i h => h1 i h (by omega)⟩)
          go_wp2
          go_ret
          exact ⟨by rw [hg.out]; rfl, hb⟩
end Go.Proofs.YtkadahfknccjfaaGreatDoor
namespace Go.Proofs.YtkadahfknccjfaaGreatDoor
open Go.RowKit
set_option maxRecDepth 100000 in
set_option maxHeartbeats 4000000 in
theorem ralone_any (k n sc : Int) (s : ByteArray) (A : Option Addr) (len cap B : Nat) (w : World) (hl : len ≤ maxLen) (hs : s.size ≤ maxLen) (hB : B ≤ w.heap.size) (hT : Tabs B w) :
    Calls Tryz.prog 96 #[.agg #[.int .i64 k, .int .i64 n, .int .i64 sc, .string s, .slice A len cap]] w fun e w' => e = .returned (.bool (aloneS k n sc s len)) ∧ Below w.heap.size w w' := by
  have hC := Lib.hid fun o => rcharacters_any s B (w.alloc o) hs (hT.keep ((Same.refl B w).alloc hB o))
  unfold maxLen at hl
  clear hs hT
  have hbw : ∀ o, Below w.heap.size w (w.alloc o) := fun o => (Below.refl _ _).alloc (Nat.le_refl _) _
  obtain ⟨R, hR⟩ : ∃ R, aloneS k n sc s len = R := ⟨_, rfl⟩
  rw [hR]
  have HR := Lib.hid hR
  clear hR
  go_enter Tryz.func96, Tryz.ntmps96
  go_wp2_with (first | (go_at_call 84; refine (rwithin_any _ _ _ _).mono ?_; rintro e w' ⟨rfl, rfl⟩) | (go_at_call 106; refine (hC.out _).mono ?_; rintro e w' ⟨rfl, hb⟩))
  all_goals
    go_ret
    refine ⟨?_, by first | exact hbw _ | exact (hbw _).trans (hb.mono (by simp))⟩
    rw [← HR.out]
    go_light
    simp_all [aloneS] <;> omega
end Go.Proofs.YtkadahfknccjfaaGreatDoor
namespace Go.Proofs.YtkadahfknccjfaaGreatDoor
open Go.RowKit
def SdPost (g : Nat) (w : World) (r : Bool × Int) (e : Ending) (w' : World) : Prop := e = .returned (.bool r.1) ∧ Ch g w w' ∧ One w' g r.2
theorem VT.In.inv {B : Nat} {w : World} {a : VP} {l : List VT} (h : VT.In B w (.node a l)) : I64 a.k ∧ I64 a.n ∧ I64 a.sc ∧ a.s.size ≤ maxLen ∧ VT.Row B w a.A a.cap l ∧ ∀ x, x ∈ l → VT.In B w x := by
  cases h
  exact ⟨by assumption, by assumption, by assumption, by assumption, by assumption, by assumption⟩
theorem sdV_bd : ∀ (v : VT) (lv c : Int), 0 ≤ c → c ≤ 256 → 0 ≤ (sdV lv c v).2 ∧ ((sdV lv c v).1 = true → (sdV lv c v).2 ≤ 256) := by
  refine VT.ind fun a l ih lv c h0 h1 => ?_
  have hs : ∀ (r : List VT), (∀ x, x ∈ r → x ∈ l) → ∀ c, 0 ≤ c → c ≤ 256 → 0 ≤ (sdVs (lv + 1) c r).2 ∧ ((sdVs (lv + 1) c r).1 = true → (sdVs (lv + 1) c r).2 ≤ 256) := by
    intro r
    induction r with
    | nil => intro _ c h0 h1; simpa [sdVs] using ⟨h0, h1⟩
    | cons x r ihr =>
      intro hm c h0 h1
      have hx := ih x (hm x (by simp)) (lv + 1) c h0 h1
      unfold sdVs
      split
      · rename_i h; exact ihr (fun y hy => hm y (by simp [hy])) _ hx.1 (hx.2 h)
      · exact hx
  unfold sdV
  have hb : 0 ≤ (if a.k = 0 then c else c + 1) := by split <;> omega
  by_cases hn : lv > 4 ∨ (if a.k = 0 then c else c + 1) > 256 ∨ aloneS a.k a.n a.sc a.s l.length = false
  · rw [if_pos hn]; exact ⟨hb, fun h => by cases h⟩
  · rw [if_neg hn]; exact hs l (fun _ h => h) _ hb (by omega)
set_option maxRecDepth 100000 in
set_option maxHeartbeats 4000000 in
theorem rsound_any : ∀ (v : VT) (lv c : Int) (g B : Nat) (w : World), VT.In B w v → Tabs B w → B ≤ w.heap.size → B ≤ g → One w g c → 1 ≤ lv → lv ≤ 5 → 0 ≤ c → c ≤ 256 →
    Calls Tryz.prog 83 #[.agg #[.int .i64 v.a.k, .int .i64 v.a.n, .int .i64 v.a.sc, .string v.a.s, .slice v.a.A v.l.length v.a.cap], .int .i64 lv, .pointer (some ⟨g, 0, none⟩)] w (SdPost g w (sdV lv c v)) := by
  refine VT.ind fun a l ih lv c g B w hin hT hB hg hone hlv1 hlv5 hc0 hc256 => ?_
  obtain ⟨k, n, sc, s, A, cap⟩ := a
  obtain ⟨_, _, _, hss, hr, hl⟩ := hin.inv
  simp only [VT.a_node, VT.l_node] at hr hss ⊢
  have hgl := hone.lt
  have hcell := hone.cell
  have hfr := hone.frozen
  obtain ⟨len, hlen⟩ : ∃ len, l.length = len := ⟨_, rfl⟩
  have hll : len ≤ 9223372036854775807 := by rw [← hlen]; exact Nat.le_trans hr.1 hr.2.1
  obtain ⟨r, hr0⟩ : ∃ r, sdV lv c (.node ⟨k, n, sc, s, A, cap⟩ l) = r := ⟨_, rfl⟩
  rw [hr0]
  unfold sdV at hr0
  rw [hlen] at hr0 ⊢
  have hlen := Lib.hid hlen
  simp only [] at hr0
  by_cases hk : k = 0
  · rw [if_pos hk] at hr0
    have nk : (k != 0) = false := by simpa using hk
    obtain ⟨c1, hc1⟩ : ∃ c1, c1 = c := ⟨_, rfl⟩
    have H0 : Hid ((if lv > 4 ∨ c1 > 256 ∨ aloneS k n sc s len = false then (false, c1) else sdVs (lv + 1) c1 l) = r) := by rw [hc1, ← hr0]; simp [Hid]
    have hc10 : 0 ≤ c1 := by omega
    obtain ⟨W1, hW1⟩ : ∃ W1, w.alloc (.cells #[.int .i64 k, .int .i64 n, .int .i64 sc, .string s, .slice A len cap] 61) = W1 := ⟨_, rfl⟩
    have hone1 : One W1 g c1 := by rw [← hW1, hc1]; exact hone.alloc _
    have hch1 : Ch g w W1 := by rw [← hW1]; exact (Ch.refl g w).alloc _
    clear hk hr0 hin
    have hc1 := Lib.hid hc1
    have hbsz : w.heap.size < W1.heap.size := by rw [← hW1]; simp
    have hbox : W1.cell? ⟨w.heap.size, 4, none⟩ = some (.slice A len cap) := by rw [← hW1]; simp
    have hS1 : Same B w W1 := hch1.same hB hg
    have hrW := hr.keep hS1
    have hlW := fun x (hx : x ∈ l) => (hl x hx).keep hS1
    have hT1 := hT.keep hS1
    have HW1 := Lib.hid hW1
    clear hW1 hr hl hT
    by_cases h4 : 4 < lv
    · have hf := Lib.hid (show r = (false, c1) by rw [← H0.out, if_pos (.inl h4)])
      clear H0
      go_enter Tryz.func83, Tryz.ntmps83
      go_wp2
      rw [HW1.out]
      go_ret
      exact ⟨by rw [hf.out]; rfl, hch1, by rw [hf.out]; exact hone1⟩
    by_cases h256 : 256 < c1
    · first
      | (exfalso; have := hc1.out; omega)
      | (have hf := Lib.hid (show r = (false, c1) by rw [← H0.out, if_pos (.inr (.inl h256))])
         clear H0
         rw [hc1.out] at h256
         go_enter Tryz.func83, Tryz.ntmps83
         go_wp2
         rw [HW1.out]
         go_ret
         exact ⟨by rw [hf.out]; rfl, hch1, by rw [hf.out]; exact hone1⟩)
    have hal := Lib.hid (ralone_any k n sc s A len cap B W1 (by unfold maxLen; omega) hss (by omega) hT1)
    cases ha : aloneS k n sc s len
    · have Ha := Lib.hid ha
      have hf := Lib.hid (show r = (false, c1) by rw [← H0.out, if_pos (.inr (.inr ha))])
      clear H0 ha
      have h256' : ¬ 256 < c := by rw [← hc1.out]; exact h256
      go_enter Tryz.func83, Tryz.ntmps83
      go_wp2_with fail
      rw [HW1.out]
      refine hal.out.mono ?_
      rintro e w2 ⟨rfl, hb2⟩
      rw [Ha.out]
      go_wp2
      go_ret
      exact ⟨by rw [hf.out]; rfl, hch1.then_below hb2, by rw [hf.out]; exact hone1.below hb2⟩
    have Ha := Lib.hid ha
    have H1 : Hid (sdVs (lv + 1) c1 l = r) := by have := H0.out; rw [if_neg (by simp [ha]; omega)] at this; exact this
    clear H0 ha
    have h256' : ¬ 256 < c := by rw [← hc1.out]; exact h256
    have hc11 : c1 ≤ 256 := by omega
    go_enter Tryz.func83, Tryz.ntmps83
    go_wp2_with fail
    rw [HW1.out]
    refine hal.out.mono ?_
    rintro e w2 ⟨rfl, hb2⟩
    rw [Ha.out]
    have hone2 := hone1.below hb2
    have hch2 := hch1.then_below hb2
    have hbox2 := (hb2.cell (p := ⟨w.heap.size, 4, none⟩) hbsz).trans hbox
    have hbsz2 : w.heap.size < w2.heap.size := Nat.lt_of_lt_of_le hbsz hb2.size
    have hS2 : Same B W1 w2 := Same.mono (Same.of_below hb2) (by omega)
    have hrW2 := hrW.keep hS2
    have hlW2 := fun x (hx : x ∈ l) => (hlW x hx).keep hS2
    have hT2 := hT1.keep hS2
    clear hrW hlW hbox hb2 HW1 hone1 hch1 hone hS1 hS2 hT1 hal hcell hfr
    go_wp2
    go_loopw [32] (fun i wr => ∃ (j : Nat) (c' : Int), j ≤ len ∧ i = .int .i64 j ∧ Ch g w wr ∧ One wr g c' ∧ 0 ≤ c' ∧ c' ≤ 256 ∧ wr.cell? ⟨w.heap.size, 4, none⟩ = some (.slice A len cap) ∧ w.heap.size < wr.heap.size ∧ Same B w2 wr ∧ Hid (sdVs (lv + 1) c' (l.drop j) = r)) (fun i _ => len - (intOf i).toNat)
    case atStart => exact ⟨0, c1, Nat.zero_le _, rfl, hch2, hone2, hc10, hc11, hbox2, hbsz2, Same.refl _ _, H1⟩
    case round =>
      obtain ⟨j, c', hj, rfl, hch, hon, hc'0, hc'1, hbx, hbs, hsm, HR⟩ := hrel
      by_cases hlt : j < len
      · obtain ⟨x, ad, hx, rfl, hb, d0, d1, d2, d3, d4⟩ := (hrW2.keep hsm).get (show j < l.length by rw [hlen.out]; exact hlt)
        have hxi := (hlW2 x (mem_of_get? hx)).keep hsm
        have hic := ih x (mem_of_get? hx) (lv + 1) c' g B wr hxi (hT2.keep hsm) (by omega) hg hon (by omega) (by omega) hc'0 hc'1
        obtain ⟨f, c2, hfc⟩ : ∃ f c2, sdV (lv + 1) c' x = (f, c2) := ⟨_, _, rfl⟩
        have hbd := sdV_bd x (lv + 1) c' hc'0 hc'1
        rw [hfc] at hic hbd
        have hdr := drop_of_get? hx
        have HR2 := HR.out
        rw [hdr] at HR2
        unfold sdVs at HR2
        rw [hfc] at HR2
        have Hic := Lib.hid hic
        have HR3 := Lib.hid HR2
        clear HR2 hic hdr hfc HR hxi hrW2 hlW2 ih hx hbox2 hT2
        cases f
        · have HR4 : Hid ((false, c2) = r) := by have := HR3.out; rw [if_neg (by simp)] at this; exact this
          go_wp2_with (go_at_call 83; refine (Hic.out).mono ?_; rintro e w' ⟨rfl, hch3, hon3⟩)
          go_ret
          exact ⟨by rw [← HR4.out]; rfl, hch.trans hch3, by rw [← HR4.out]; exact hon3⟩
        · have HR4 : Hid (sdVs (lv + 1) c2 (l.drop (j + 1)) = r) := by have := HR3.out; rw [if_pos rfl] at this; exact this
          go_wp2_with (go_at_call 83; refine (Hic.out).mono ?_; rintro e w' ⟨rfl, hch3, hon3⟩)
          go_roundw
          case rel => exact ⟨j + 1, c2, by omega, by go_num, hch.trans hch3, hon3, hbd.1, hbd.2 (by simp), (hch3.cell (p := ⟨w.heap.size, 4, none⟩) hbs (by simp; omega)).trans hbx, Nat.lt_of_lt_of_le hbs hch3.size, hsm.trans (hch3.same (by have := hch.size; omega) hg), HR4⟩
          case measure => simp [intOf]; omega
      · have HR2 : Hid ((true, c') = r) := by have := HR.out; rw [List.drop_eq_nil_of_le (by rw [hlen.out]; omega)] at this; unfold sdVs at this; exact this
        go_wp2
        go_ret
        exact ⟨by rw [← HR2.out]; rfl, hch, by rw [← HR2.out]; exact hon⟩
  · rw [if_neg hk] at hr0
    have nk : (k != 0) = true := by simpa using hk
    obtain ⟨c1, hc1⟩ : ∃ c1, c1 = c + 1 := ⟨_, rfl⟩
    have H0 : Hid ((if lv > 4 ∨ c1 > 256 ∨ aloneS k n sc s len = false then (false, c1) else sdVs (lv + 1) c1 l) = r) := by rw [hc1, ← hr0]; simp [Hid]
    have hc10 : 0 ≤ c1 := by omega
    obtain ⟨W1, hW1⟩ : ∃ W1, (w.setCell ⟨g, 0, none⟩ (.int .i64 (c + 1))).alloc (.cells #[.int .i64 k, .int .i64 n, .int .i64 sc, .string s, .slice A len cap] 61) = W1 := ⟨_, rfl⟩
    have hone1 : One W1 g c1 := by rw [← hW1, hc1]; exact (hone.set _).alloc _
    have hch1 : Ch g w W1 := by rw [← hW1]; exact ((Ch.refl g w).setCell _ _).alloc _
    clear hk hr0 hin
    have hc1 := Lib.hid hc1
    have hbsz : w.heap.size < W1.heap.size := by rw [← hW1]; simp
    have hbox : W1.cell? ⟨w.heap.size, 4, none⟩ = some (.slice A len cap) := by rw [← hW1]; exact cell_new_set _ _ _ _ _ _
    have hS1 : Same B w W1 := hch1.same hB hg
    have hrW := hr.keep hS1
    have hlW := fun x (hx : x ∈ l) => (hl x hx).keep hS1
    have hT1 := hT.keep hS1
    have HW1 := Lib.hid hW1
    clear hW1 hr hl hT
    by_cases h4 : 4 < lv
    · have hf := Lib.hid (show r = (false, c1) by rw [← H0.out, if_pos (.inl h4)])
      clear H0
      go_enter Tryz.func83, Tryz.ntmps83
      go_wp2
      rw [HW1.out]
      go_ret
      exact ⟨by rw [hf.out]; rfl, hch1, by rw [hf.out]; exact hone1⟩
    by_cases h256 : 256 < c1
    · first
      | (exfalso; have := hc1.out; omega)
      | (have hf := Lib.hid (show r = (false, c1) by rw [← H0.out, if_pos (.inr (.inl h256))])
         clear H0
         rw [hc1.out] at h256
         go_enter Tryz.func83, Tryz.ntmps83
         go_wp2
         rw [HW1.out]
         go_ret
         exact ⟨by rw [hf.out]; rfl, hch1, by rw [hf.out]; exact hone1⟩)
    have hal := Lib.hid (ralone_any k n sc s A len cap B W1 (by unfold maxLen; omega) hss (by omega) hT1)
    cases ha : aloneS k n sc s len
    · have Ha := Lib.hid ha
      have hf := Lib.hid (show r = (false, c1) by rw [← H0.out, if_pos (.inr (.inr ha))])
      clear H0 ha
      have h256' : ¬ 256 < c + 1 := by rw [← hc1.out]; exact h256
      go_enter Tryz.func83, Tryz.ntmps83
      go_wp2_with fail
      rw [HW1.out]
      refine hal.out.mono ?_
      rintro e w2 ⟨rfl, hb2⟩
      rw [Ha.out]
      go_wp2
      go_ret
      exact ⟨by rw [hf.out]; rfl, hch1.then_below hb2, by rw [hf.out]; exact hone1.below hb2⟩
    have Ha := Lib.hid ha
    have H1 : Hid (sdVs (lv + 1) c1 l = r) := by have := H0.out; rw [if_neg (by simp [ha]; omega)] at this; exact this
    clear H0 ha
    have h256' : ¬ 256 < c + 1 := by rw [← hc1.out]; exact h256
    have hc11 : c1 ≤ 256 := by omega
    go_enter Tryz.func83, Tryz.ntmps83
    go_wp2_with fail
    rw [HW1.out]
    refine hal.out.mono ?_
    rintro e w2 ⟨rfl, hb2⟩
    rw [Ha.out]
    have hone2 := hone1.below hb2
    have hch2 := hch1.then_below hb2
    have hbox2 := (hb2.cell (p := ⟨w.heap.size, 4, none⟩) hbsz).trans hbox
    have hbsz2 : w.heap.size < w2.heap.size := Nat.lt_of_lt_of_le hbsz hb2.size
    have hS2 : Same B W1 w2 := Same.mono (Same.of_below hb2) (by omega)
    have hrW2 := hrW.keep hS2
    have hlW2 := fun x (hx : x ∈ l) => (hlW x hx).keep hS2
    have hT2 := hT1.keep hS2
    clear hrW hlW hbox hb2 HW1 hone1 hch1 hone hS1 hS2 hT1 hal hcell hfr
    go_wp2
    go_loopw [32] (fun i wr => ∃ (j : Nat) (c' : Int), j ≤ len ∧ i = .int .i64 j ∧ Ch g w wr ∧ One wr g c' ∧ 0 ≤ c' ∧ c' ≤ 256 ∧ wr.cell? ⟨w.heap.size, 4, none⟩ = some (.slice A len cap) ∧ w.heap.size < wr.heap.size ∧ Same B w2 wr ∧ Hid (sdVs (lv + 1) c' (l.drop j) = r)) (fun i _ => len - (intOf i).toNat)
    case atStart => exact ⟨0, c1, Nat.zero_le _, rfl, hch2, hone2, hc10, hc11, hbox2, hbsz2, Same.refl _ _, H1⟩
    case round =>
      obtain ⟨j, c', hj, rfl, hch, hon, hc'0, hc'1, hbx, hbs, hsm, HR⟩ := hrel
      by_cases hlt : j < len
      · obtain ⟨x, ad, hx, rfl, hb, d0, d1, d2, d3, d4⟩ := (hrW2.keep hsm).get (show j < l.length by rw [hlen.out]; exact hlt)
        have hxi := (hlW2 x (mem_of_get? hx)).keep hsm
        have hic := ih x (mem_of_get? hx) (lv + 1) c' g B wr hxi (hT2.keep hsm) (by omega) hg hon (by omega) (by omega) hc'0 hc'1
        obtain ⟨f, c2, hfc⟩ : ∃ f c2, sdV (lv + 1) c' x = (f, c2) := ⟨_, _, rfl⟩
        have hbd := sdV_bd x (lv + 1) c' hc'0 hc'1
        rw [hfc] at hic hbd
        have hdr := drop_of_get? hx
        have HR2 := HR.out
        rw [hdr] at HR2
        unfold sdVs at HR2
        rw [hfc] at HR2
        have Hic := Lib.hid hic
        have HR3 := Lib.hid HR2
        clear HR2 hic hdr hfc HR hxi hrW2 hlW2 ih hx hbox2 hT2
        cases f
        · have HR4 : Hid ((false, c2) = r) := by have := HR3.out; rw [if_neg (by simp)] at this; exact this
          go_wp2_with (go_at_call 83; refine (Hic.out).mono ?_; rintro e w' ⟨rfl, hch3, hon3⟩)
          go_ret
          exact ⟨by rw [← HR4.out]; rfl, hch.trans hch3, by rw [← HR4.out]; exact hon3⟩
        · have HR4 : Hid (sdVs (lv + 1) c2 (l.drop (j + 1)) = r) := by have := HR3.out; rw [if_pos rfl] at this; exact this
          go_wp2_with (go_at_call 83; refine (Hic.out).mono ?_; rintro e w' ⟨rfl, hch3, hon3⟩)
          go_roundw
          case rel => exact ⟨j + 1, c2, by omega, by go_num, hch.trans hch3, hon3, hbd.1, hbd.2 (by simp), (hch3.cell (p := ⟨w.heap.size, 4, none⟩) hbs (by simp; omega)).trans hbx, Nat.lt_of_lt_of_le hbs hch3.size, hsm.trans (hch3.same (by have := hch.size; omega) hg), HR4⟩
          case measure => simp [intOf]; omega
      · have HR2 : Hid ((true, c') = r) := by have := HR.out; rw [List.drop_eq_nil_of_le (by rw [hlen.out]; omega)] at this; unfold sdVs at this; exact this
        go_wp2
        go_ret
        exact ⟨by rw [← HR2.out]; rfl, hch, by rw [← HR2.out]; exact hon⟩
end Go.Proofs.YtkadahfknccjfaaGreatDoor
