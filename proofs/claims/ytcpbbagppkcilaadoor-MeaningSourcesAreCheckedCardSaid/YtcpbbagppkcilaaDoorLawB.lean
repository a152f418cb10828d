/-
  The law on tables: what it comes to at any tables in memory.
-/
import Derived.Test.YtcpbbagppkcilaaDoorMeanL
import Derived.Deep.RegionHeld3
namespace Go.Proofs.YtcpbbagppkcilaaDoor
open Go.RowKit
set_option maxRecDepth 100000 in
set_option maxHeartbeats 4000000 in
theorem lawB_any (A : Option Addr) (cap len : Nat) (l : List ST) (B : Nat) (w : World) (hr : ST.Row B w A cap l) (hin : ∀ x, x ∈ l → ST.In B w x) (hT : Tabs B w) (hB : B ≤ w.heap.size) (hlen : Hid (l.length = len)) :
    Calls Tryd.prog 4 #[.slice A len cap] w fun e w' => e = .returned (.bool true) ∧ Below w.heap.size w w' := by
  have hll : len ≤ 9223372036854775807 := by rw [← hlen.out]; exact Nat.le_trans hr.1 hr.2.1
  go_enter Tryd.func4, Tryd.ntmps4
  go_wp2
  go_loopw [7] (fun i wr => ∃ j : Nat, j ≤ len ∧ i = .int .i64 j ∧ Below w.heap.size w wr) (fun i _ => len - (intOf i).toNat)
  case atStart => exact ⟨0, Nat.zero_le _, rfl, Below.refl _ _⟩
  case round =>
    obtain ⟨j, hj, rfl, hbr⟩ := hrel
    by_cases hlt : j < len
    · have hSr := Same.mono (Same.of_below hbr) hB
      obtain ⟨x, ad, hx, rfl, hb, d0, d1, d2⟩ := (hr.keep hSr).get (show j < l.length by rw [hlen.out]; exact hlt)
      have hzr := hbr.size
      have hxin := hin x (mem_of_get? hx)
      obtain ⟨nm, TA, tcap, ts, RA, rcap, rs⟩ := x
      obtain ⟨S, hS⟩ : ∃ S, sourceS ⟨nm, TA, tcap, ts, RA, rcap, rs⟩ = S := ⟨_, rfl⟩
      obtain ⟨tl, htl⟩ : ∃ n, ts.length = n := ⟨_, rfl⟩
      obtain ⟨rl, hrl⟩ : ∃ n, rs.length = n := ⟨_, rfl⟩
      simp only [htl, hrl] at d0 d1 d2
      obtain ⟨o1, ho1⟩ : ∃ o1, Obj.cells #[.string nm, .slice TA tl tcap, .slice RA rl rcap] 44 = o1 := ⟨_, rfl⟩
      obtain ⟨W1, hW1⟩ : ∃ W1, wr.alloc o1 = W1 := ⟨_, rfl⟩
      have hbW1 : Below w.heap.size w W1 := by rw [← hW1]; exact hbr.alloc hzr _
      have hzW : wr.heap.size < W1.heap.size := by rw [← hW1]; simp
      have g0 : W1.cell? ⟨wr.heap.size, 0, none⟩ = some (.string nm) := by rw [← hW1, ← ho1, cell_new]; rfl
      have g1 : W1.cell? ⟨wr.heap.size, 1, none⟩ = some (.slice TA tl tcap) := by rw [← hW1, ← ho1, cell_new]; rfl
      have g2 : W1.cell? ⟨wr.heap.size, 2, none⟩ = some (.slice RA rl rcap) := by rw [← hW1, ← ho1, cell_new]; rfl
      have hSW : ∀ W, Below W1.heap.size W1 W → Same B w W ∧ B ≤ W.heap.size := fun W h => by
        have hbW := hbW1.trans (h.mono (by omega))
        exact ⟨Same.mono (Same.of_below hbW) hB, Nat.le_trans hB hbW.size⟩
      have hm : Hid (∀ W, Below W1.heap.size W1 W → Calls Tryd.prog 12 #[.agg #[.string nm, .slice TA tl tcap, .slice RA rl rcap]] W fun e w' => e = .returned (.int .i64 S) ∧ Below W1.heap.size W1 w') := fun W h => by
        have hc := mCheckSource_any _ B W (hxin.keep (hSW W h).1) (hT.keep (hSW W h).1) (hSW W h).2
        simp only [htl, hrl, hS] at hc
        exact hc.mono fun e w' ⟨he, hb⟩ => ⟨he, h.trans (hb.mono h.size)⟩
      have hq : Hid (∀ W, Below W1.heap.size W1 W → Calls Tryd.prog 13 #[.agg #[.string nm, .slice TA tl tcap, .slice RA rl rcap]] W fun e w' => e = .returned (.int .i64 S) ∧ Below W1.heap.size W1 w') := fun W h => by
        have hc := rCheckSource_any _ B W (hxin.keep (hSW W h).1) (hT.keep (hSW W h).1) (hSW W h).2
        simp only [htl, hrl, hS] at hc
        exact hc.mono fun e w' ⟨he, hb⟩ => ⟨he, h.trans (hb.mono h.size)⟩
      obtain ⟨xb, hxb⟩ : ∃ n, wr.heap.size = n := ⟨_, rfl⟩
      have hk : Hid (∀ W, Below W1.heap.size W1 W → Below W1.heap.size W1 W ∧ W.cell? ⟨xb, 0, none⟩ = some (.string nm) ∧ W.cell? ⟨xb, 1, none⟩ = some (.slice TA tl tcap) ∧ W.cell? ⟨xb, 2, none⟩ = some (.slice RA rl rcap)) := fun W h => by
        rw [← hxb]
        exact ⟨h, (h.cell (p := ⟨wr.heap.size, 0, none⟩) hzW).trans g0, (h.cell (p := ⟨wr.heap.size, 1, none⟩) hzW).trans g1, (h.cell (p := ⟨wr.heap.size, 2, none⟩) hzW).trans g2⟩
      have HW1 := Lib.hid hW1
      have Ho1 := Lib.hid ho1
      have Hxb := Lib.hid hxb
      clear hW1 ho1 hxb hS hSW hxin hx hr hin hT htl hrl g0 g1 g2
      go_wp2_with fail
      rw [Ho1.out, HW1.out, Hxb.out]
      clear d0 d1 d2
      go_region_held3 (fun w' => Below W1.heap.size W1 w' ∧ w'.cell? ⟨xb, 0, none⟩ = some (.string nm) ∧ w'.cell? ⟨xb, 1, none⟩ = some (.slice TA tl tcap) ∧ w'.cell? ⟨xb, 2, none⟩ = some (.slice RA rl rcap))
        (first | exact hk.out _ (Below.refl _ _) | exact hk.out _ (Below.drew (Below.refl _ _)) | exact hk.out _ (by assumption) | exact hk.out _ (Below.drew (by assumption)))
        (first | (go_at_call 12; refine (hm.out _ ?_).mono ?_; (first | assumption | (apply And.left; assumption)); rintro e w' ⟨rfl, hb1⟩) | (go_at_call 13; refine (hq.out _ ?_).mono ?_; (first | assumption | (apply And.left; assumption)); rintro e w' ⟨rfl, hb2⟩))
      all_goals
        go_wp2
        go_roundw
        case rel =>
          refine ⟨j + 1, by omega, by go_num, ?_⟩
          refine hbW1.trans (Below.mono (B := W1.heap.size) ?_ (by omega))
          first | assumption | (apply And.left; assumption)
        case measure => simp [intOf]; omega
    · have hSr := Same.mono (Same.of_below hbr) hB
      have hzr := hbr.size
      have hc1 := Lib.hid (mCheckSources_any A cap len l B wr (hr.keep hSr) (fun x hx => (hin x hx).keep hSr) (hT.keep hSr) (by omega) hlen)
      go_wp2_with fail
      refine hc1.out.mono ?_
      rintro e w1 ⟨rfl, hb1⟩
      have hbx : Below w.heap.size w w1 := hbr.trans (hb1.mono hzr)
      have hSx := Same.mono (Same.of_below hbx) hB
      have hzx := hbx.size
      have hc2 := Lib.hid (rCheckSources_any A cap len l B w1 (hr.keep hSx) (fun x hx => (hin x hx).keep hSx) (hT.keep hSx) (by omega) hlen)
      go_wp2_with fail
      refine hc2.out.mono ?_
      rintro e w2 ⟨rfl, hb2⟩
      go_wp2
      go_ret
      exact ⟨by simp, hbx.trans (hb2.mono hzx)⟩
end Go.Proofs.YtcpbbagppkcilaaDoor
