/-
  The reference of package meaning: Show.
-/
import Derived.Test.YteeabfdafnncfaaDoorQTxU
import Derived.Test.YteeabfdafnncfaaDoorQTxTd
namespace Go.Proofs.YteeabfdafnncfaaDoor
open Go.RowKit
set_option maxRecDepth 100000 in
set_option maxHeartbeats 6000000 in
theorem rShow_any (RA : Option Addr) (rcap n : Nat) (rows : List VT) (B : Nat) (w : World) (hr : VT.RRow B w RA rcap rows) (hT : Tabs B w) (hP : PowTab B w) (hB : B ≤ w.heap.size) (hn : rows.length = n) (hmax : n ≤ 1048576) (hfit : RowsFit rows) :
    Calls Tryd.prog 6 #[.slice RA n rcap] w (ShPost rows w) := by
  obtain ⟨is, his, isz, iss, isb⟩ := info_str
  have Hn := Lib.hid hn
  have Hr := Lib.hid hr
  have HT := Lib.hid hT
  have HP := Lib.hid hP
  have Hfit := Lib.hid hfit
  clear hn hr hT hP hfit
  go_enter Tryd.func6, Tryd.ntmps6
  go_wp2_with fail
  go_loopw [3, 11] (fun ov i wo => StR rowT rows w.heap.size w n ov i wo) (fun _ i _ => n - (intOf i).toNat)
  case atStart => exact ⟨0, Nat.zero_le _, rfl, World.ownsRow_nil _ _ _ _, Below.refl _ _⟩
  case round =>
    obtain ⟨wo, rfl⟩ : ∃ wo : World, wo = wr := ⟨_, rfl⟩
    obtain ⟨j, hj, rfl, hown, hbo⟩ := hrel
    by_cases hlt : j < n
    · have hS := Same.mono (Same.of_below hbo) hB
      obtain ⟨r, ad, hx, rfl, hb, d0⟩ := (Hr.out.keep hS).get (show j < rows.length by rw [Hn.out]; exact hlt)
      have hrm := mem_of_get? hx
      have hrw := Hr.out.2.2.1 r hrm
      have hcnt := Hfit.out.count hrm
      obtain ⟨m, hm⟩ : ∃ m, r.l.length = m := ⟨_, rfl⟩
      rw [hm] at d0 hcnt
      have Hm := Lib.hid hm
      have Hrw := Lib.hid hrw
      have Hrm := Lib.hid hrm
      have Hx := Lib.hid hx
      have Hown := Lib.hid hown
      have Hcnt := Lib.hid hcnt
      clear hm hrw hrm hx hown hS
      go_wp2_with fail
      go_loopw [6, 17] (fun o i wr => ∃ q : Nat, q ≤ m ∧ o = .string (jT [32, 124, 32] (r.l.map txtA) q) ∧ i = .int .i64 q ∧ Below wo.heap.size wo wr) (fun _ i _ => m - (intOf i).toNat)
      case atStart => exact ⟨0, Nat.zero_le _, by unfold jT; rfl, rfl, Below.refl _ _⟩
      case round =>
        obtain ⟨q, hq, rfl, rfl, hbr⟩ := hrel
        have hbw := hbo.trans (hbr.mono hbo.size)
        by_cases hqlt : q < m
        · have hS := Same.mono (Same.of_below hbw) hB
          obtain ⟨x, yad, hxx, hyA, hyb, e0, e1, e2, e3, e4⟩ := (Hrw.out.1.keep hS).get (show q < r.l.length by rw [Hm.out]; exact hqlt)
          have hxm := mem_of_get? hxx
          obtain ⟨W4, hW4⟩ : ∃ W4, wr.alloc (.cells #[.int .i64 x.a.k, .int .i64 x.a.n, .int .i64 x.a.sc, .string x.a.s, .slice x.a.A x.l.length x.a.cap] 29) = W4 := ⟨_, rfl⟩
          have hb4 : Below wr.heap.size wr W4 := by rw [← hW4]; exact (Below.refl _ _).alloc (Nat.le_refl _) _
          have hbw4 := hbw.trans (hb4.mono hbw.size)
          have hS4 := Same.mono (Same.of_below hbw4) hB
          have hcp := Lib.hid (rText_any x B W4 ((Hrw.out.2 x hxm).keep hS4) (HT.out.keep hS4) (HP.out.keep hS4) (Nat.le_trans hB hbw4.size) (Hfit.out.one Hrm.out hxm))
          have hjs := jT_step [32, 124, 32] (r.l.map txtA) q (txtA x) (by rw [List.getElem?_map, hxx]; rfl)
          have hxl := bs_size (txtA x)
          have hxl2 := Hfit.out.one Hrm.out hxm
          have hjz := jT_size [32, 124, 32] (r.l.map txtA) q
          have hJ2 : (Lib.join (r.l.map txtA) [32, 124, 32]).length ≤ 4398046511104 := Hfit.out r Hrm.out
          have Hj1 := Lib.hid hjs.1
          have Hj2 := Lib.hid hjs.2
          have HW4 := Lib.hid hW4
          rw [hyA] at *
          generalize jT [32, 124, 32] (r.l.map txtA) q = O at *
          generalize bs (txtA x) = X at *
          clear hW4 hxx hS hS4 hxm hyA hjs
          rcases Nat.eq_zero_or_pos q with h0 | h0
          · have Hq := Lib.hid (Hj1.out h0)
            clear Hj1 Hj2
            have hng : decide ((0 : Int) < (q : Int)) = false := by simp; omega
            have hng2 : ¬ (0 : Int) < (q : Int) := by omega
            clear h0
            go_wp2_with fail
            rw [HW4.out]
            refine hcp.out.mono ?_
            rintro e w5 ⟨rfl, hb5⟩
            have hbr5 : Below wo.heap.size wo w5 := hbr.trans ((hb4.trans (hb5.mono hb4.size)).mono hbr.size)
            clear hcp
            go_wp2
            go_roundw
            case rel => exact ⟨q + 1, by omega, by rw [← Hq.out], by go_num, hbr5⟩
            case measure => simp [intOf]; omega
          · have Hq := Lib.hid (Hj2.out h0)
            clear Hj1 Hj2
            have hng2 : (0 : Int) < (q : Int) := by omega
            clear h0
            go_wp2_with fail
            rw [HW4.out]
            refine hcp.out.mono ?_
            rintro e w5 ⟨rfl, hb5⟩
            have hbr5 : Below wo.heap.size wo w5 := hbr.trans ((hb4.trans (hb5.mono hb4.size)).mono hbr.size)
            clear hcp
            go_wp2
            go_roundw
            case rel => exact ⟨q + 1, by omega, by rw [← Hq.out]; rfl, by go_num, hbr5⟩
            case measure => simp [intOf]; omega
        · obtain rfl : q = m := by omega
          have hfull : jT [32, 124, 32] (r.l.map txtA) q = bs (rowT r) := by unfold jT; rw [List.take_of_length_le (by rw [List.length_map, Hm.out]; exact Nat.le_refl _)]; rfl
          rw [hfull]
          have h3 : Hid (j + 1 ≤ maxLen) := by show _ ≤ _; unfold maxLen; omega
          have h4 : Hid ((j + 1) * 16 ≤ 140737488355328) := by show _ ≤ _; omega
          have hownZ := strOwn_below Hown.out hbr
          have h5 : Hid (∀ o, w.heap.size ≤ (wr.alloc o).heap.size) := fun o => by have := hbr.size; have := hbo.size; simp; omega
          clear hfull
          go_wp2_with (at_builtin; refine wpList_append_own2 _ rfl _ _ 24 rfl w.heap.size 9 is _ 1 16 Tryd.underlying24 his isz iss isb rfl (by decide) _ j (strRow ((rows.take j).map rowT)) rfl (hownZ.alloc _) ⟨wr.heap.size, 0, none⟩ 1 1 [.string (bs (rowT r))] rfl (by decide) rfl (strNew _ _ _) (by simp [Value.oneCell']) h3.out h4.out (h5.out _) ?_; intro ov' w8 hown8 hg8 hm8)
          have HST := Lib.hid (StR.step (f := rowT) rfl Hx.out hlt Hown.out hbo hbr _ hown8 hg8)
          clear hown8 hg8 hm8 hownZ
          go_wp2
          go_roundw
          case rel => exact HST.out
          case measure => simp [intOf]; omega
    · obtain rfl : j = n := by omega
      rw [List.take_of_length_le (by rw [Hn.out]; omega)] at hown
      obtain ⟨A, cap, rfl, hat, hc1, hc2, hc3⟩ := StrAt.of_own hown (by rw [List.length_map]; exact Hn.out)
      have Hat := Lib.hid hat
      have Hbo := Lib.hid hbo
      clear hown hat hc1 hc2 hc3 hbo
      go_wp2
      go_ret
      exact ⟨A, cap, by rw [Hn.out]; rfl, Hbo.out, Hat.out⟩
end Go.Proofs.YteeabfdafnncfaaDoor
