/-
  Package meaning: Show.
-/
import Derived.Test.YteeabfdafnncfaaDoorQTxU
namespace Go.Proofs.YteeabfdafnncfaaDoor
open Go.RowKit
set_option maxRecDepth 100000 in
set_option maxHeartbeats 6000000 in
theorem mShow_any (RA : Option Addr) (rcap n : Nat) (rows : List VT) (B : Nat) (w : World) (hr : VT.RRow B w RA rcap rows) (hT : Tabs B w) (hP : PowTab B w) (hB : B ≤ w.heap.size) (hn : rows.length = n) (hmax : n ≤ 1048576) (hfit : RowsFit rows) :
    Calls Tryd.prog 5 #[.slice RA n rcap] w (ShPost rows w) := by
  obtain ⟨is, his, isz, iss, isb⟩ := info_str
  have Hn := Lib.hid hn
  have Hr := Lib.hid hr
  have HT := Lib.hid hT
  have HP := Lib.hid hP
  have Hfit := Lib.hid hfit
  clear hn hr hT hP hfit
  go_enter Tryd.func5, Tryd.ntmps5
  go_wp2_with fail
  go_loopw [3, 11] (fun ov i wo => StR rowT rows w.heap.size w n ov i wo) (fun _ i _ => n - (intOf i).toNat)
  case atStart => exact ⟨0, Nat.zero_le _, rfl, World.ownsRow_nil _ _ _ _, Below.refl _ _⟩
  case round =>
    obtain ⟨wo, rfl⟩ : ∃ wo : World, wo = wr := ⟨_, rfl⟩
    obtain ⟨j, hj, rfl, hown, hbo⟩ := hrel
    by_cases hlt : j < n
    · have hS := Same.mono (Same.of_below hbo) hB
      obtain ⟨r, ad, hx, rfl, hb, d0⟩ := (Hr.out.keep hS).get (show j < rows.length by rw [Hn.out]; exact hlt)
      have hrm := mem_of_get? hx
      have hrw := Hr.out.2.2.1 r hrm
      have hcnt := Hfit.out.count hrm
      obtain ⟨m, hm⟩ : ∃ m, r.l.length = m := ⟨_, rfl⟩
      rw [hm] at d0 hcnt
      have Hm := Lib.hid hm
      have Hrw := Lib.hid hrw
      have Hrm := Lib.hid hrm
      have Hx := Lib.hid hx
      have Hown := Lib.hid hown
      have Hcnt := Lib.hid hcnt
      clear hm hrw hrm hx hown hS
      go_wp2_with fail
      go_loopw [6, 17] (fun sv i wr => StR txtA r.l wo.heap.size wo m sv i wr) (fun _ i _ => m - (intOf i).toNat)
      case atStart => exact ⟨0, Nat.zero_le _, rfl, World.ownsRow_nil _ _ _ _, Below.refl _ _⟩
      case round =>
        obtain ⟨q, hq, rfl, hown2, hbr⟩ := hrel
        have hbw := hbo.trans (hbr.mono hbo.size)
        by_cases hqlt : q < m
        · have hS := Same.mono (Same.of_below hbw) hB
          obtain ⟨x, yad, hxx, hyA, hyb, e0, e1, e2, e3, e4⟩ := (Hrw.out.1.keep hS).get (show q < r.l.length by rw [Hm.out]; exact hqlt)
          have hxm := mem_of_get? hxx
          obtain ⟨W4, hW4⟩ : ∃ W4, wr.alloc (.cells #[.int .i64 x.a.k, .int .i64 x.a.n, .int .i64 x.a.sc, .string x.a.s, .slice x.a.A x.l.length x.a.cap] 29) = W4 := ⟨_, rfl⟩
          have hb4 : Below wr.heap.size wr W4 := by rw [← hW4]; exact (Below.refl _ _).alloc (Nat.le_refl _) _
          have hbw4 := hbw.trans (hb4.mono hbw.size)
          have hS4 := Same.mono (Same.of_below hbw4) hB
          have hcp := Lib.hid (vText_any x B W4 ((Hrw.out.2 x hxm).keep hS4) (HT.out.keep hS4) (HP.out.keep hS4) (Nat.le_trans hB hbw4.size) (Hfit.out.one Hrm.out hxm))
          have h3 : Hid (q + 1 ≤ maxLen) := by show _ ≤ _; unfold maxLen; have := Hcnt.out; omega
          have h4 : Hid ((q + 1) * 16 ≤ 140737488355328) := by show _ ≤ _; have := Hcnt.out; omega
          have HW4 := Lib.hid hW4
          have Hxx := Lib.hid hxx
          have Hown2 := Lib.hid hown2
          rw [hyA] at *
          clear hW4 hxx hown2 hS hS4 hxm hyA
          go_wp2_with fail
          rw [HW4.out]
          refine hcp.out.mono ?_
          rintro e w5 ⟨rfl, hb5⟩
          have hbr5 : Below wr.heap.size wr w5 := hb4.trans (hb5.mono hb4.size)
          have hownY := strOwn_below Hown2.out hbr5
          have h5 : Hid (∀ o, wo.heap.size ≤ (w5.alloc o).heap.size) := fun o => by have := hbr5.size; have := hbr.size; simp; omega
          clear hcp
          go_wp2_with (at_builtin; refine wpList_append_own2 _ rfl _ _ 24 rfl wo.heap.size 9 is _ 1 16 Tryd.underlying24 his isz iss isb rfl (by decide) _ q (strRow ((r.l.take q).map txtA)) rfl (hownY.alloc _) ⟨w5.heap.size, 0, none⟩ 1 1 [.string (bs (txtA x))] rfl (by decide) rfl (strNew _ _ _) (by simp [Value.oneCell']) h3.out h4.out (h5.out _) ?_; intro sv' w6 hown6 hg6 hm6)
          have HST := Lib.hid (StR.step (f := txtA) rfl Hxx.out hqlt Hown2.out hbr hbr5 _ hown6 hg6)
          clear hown6 hg6 hm6 hownY
          go_wp2
          go_roundw
          case rel => exact HST.out
          case measure => simp [intOf]; omega
        · obtain rfl : q = m := by omega
          rw [List.take_of_length_le (by rw [Hm.out]; omega)] at hown2
          have hjn := Lib.hid (join_own hown2 (by rw [List.length_map]; exact Hm.out) (sep := [32, 124, 32]) (by decide) (Nat.le_trans (Hfit.out r Hrm.out) (by decide)))
          have hjs : Lib.join (r.l.map txtA) [32, 124, 32] = rowT r := rfl
          rw [hjs] at hjn
          have h3 : Hid (j + 1 ≤ maxLen) := by show _ ≤ _; unfold maxLen; omega
          have h4 : Hid ((j + 1) * 16 ≤ 140737488355328) := by show _ ≤ _; omega
          clear hown2 hjs
          go_wp2_with fail
          refine hjn.out.mono ?_
          rintro e w7 ⟨rfl, hb7⟩
          have hbo7 : Below wo.heap.size wo w7 := hbr.trans (hb7.mono hbr.size)
          have hownZ := strOwn_below Hown.out hbo7
          have h5 : Hid (∀ o, w.heap.size ≤ (w7.alloc o).heap.size) := fun o => by have := hbo7.size; have := hbo.size; simp; omega
          clear hjn
          go_wp2_with (at_builtin; refine wpList_append_own2 _ rfl _ _ 24 rfl w.heap.size 9 is _ 1 16 Tryd.underlying24 his isz iss isb rfl (by decide) _ j (strRow ((rows.take j).map rowT)) rfl (hownZ.alloc _) ⟨w7.heap.size, 0, none⟩ 1 1 [.string (bs (rowT r))] rfl (by decide) rfl (strNew _ _ _) (by simp [Value.oneCell']) h3.out h4.out (h5.out _) ?_; intro ov' w8 hown8 hg8 hm8)
          have HST := Lib.hid (StR.step (f := rowT) rfl Hx.out hlt Hown.out hbo hbo7 _ hown8 hg8)
          clear hown8 hg8 hm8 hownZ
          go_wp2
          go_roundw
          case rel => exact HST.out
          case measure => simp [intOf]; omega
    · obtain rfl : j = n := by omega
      rw [List.take_of_length_le (by rw [Hn.out]; omega)] at hown
      obtain ⟨A, cap, rfl, hat, hc1, hc2, hc3⟩ := StrAt.of_own hown (by rw [List.length_map]; exact Hn.out)
      have hcl := Lib.hid (clipT_any A j cap wo hc1 hc2 hc3)
      have Hat := Lib.hid hat
      have Hbo := Lib.hid hbo
      clear hown hat hc1 hc2 hc3 hbo
      go_wp2_with (go_at_call 9; refine (hcl.out).mono ?_; rintro e w' ⟨rfl, rfl⟩)
      go_ret
      exact ⟨A, j, by rw [Hn.out]; rfl, Hbo.out, Hat.out⟩
end Go.Proofs.YteeabfdafnncfaaDoor
