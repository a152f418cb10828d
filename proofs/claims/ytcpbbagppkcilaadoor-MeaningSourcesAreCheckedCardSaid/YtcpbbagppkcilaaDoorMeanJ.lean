/-
  A table, checked: package meaning and its reference.
-/
import Derived.Test.YtcpbbagppkcilaaDoorMeanI
import Derived.Test.YtcpbbagppkcilaaDoorMeanE
import Derived.Test.YtcpbbagppkcilaaDoorMeanG
namespace Go.Proofs.YtcpbbagppkcilaaDoor
open Go.RowKit
/-- What is wrong with a table. -/
def sourceS (x : ST) : Int := if tableB x.nm = false then 4 else if 120 < x.ts.length ∨ 2000 < x.rs.length then 7 else if plainsS x.ts ≠ 0 then plainsS x.ts else rowsS x.ts x.rs
set_option maxRecDepth 100000 in
set_option maxHeartbeats 2000000 in
theorem mCheckSource_any (x : ST) (B : Nat) (w : World) (hin : ST.In B w x) (hT : Tabs B w) (hB : B ≤ w.heap.size) :
    Calls Tryd.prog 12 #[.agg #[.string x.nm, .slice x.TA x.ts.length x.tcap, .slice x.RA x.rs.length x.rcap]] w fun e w' => e = .returned (.int .i64 (sourceS x)) ∧ Below w.heap.size w w' := by
  obtain ⟨nm, TA, tcap, ts, RA, rcap, rs⟩ := x
  obtain ⟨hnm, hts, hrs⟩ := hin
  simp only [] at hnm hts hrs ⊢
  obtain ⟨R, hR⟩ : ∃ R, sourceS ⟨nm, TA, tcap, ts, RA, rcap, rs⟩ = R := ⟨_, rfl⟩
  rw [hR]
  unfold sourceS at hR
  simp only [] at hR
  have htl : ts.length ≤ 9223372036854775807 := Nat.le_trans hts.1 hts.2.1
  have hrl : rs.length ≤ 9223372036854775807 := Nat.le_trans hrs.1 hrs.2.1
  obtain ⟨tlen, htlen⟩ : ∃ n, ts.length = n := ⟨_, rfl⟩
  obtain ⟨rlen, hrlen⟩ : ∃ n, rs.length = n := ⟨_, rfl⟩
  rw [htlen, hrlen] at hR ⊢
  rw [htlen] at htl
  rw [hrlen] at hrl
  have Htlen := Lib.hid htlen
  have Hrlen := Lib.hid hrlen
  clear htlen hrlen
  obtain ⟨W0, hW0⟩ : ∃ W0, w.alloc (.cells #[.string nm, .slice TA tlen tcap, .slice RA rlen rcap] 44) = W0 := ⟨_, rfl⟩
  have hbw : Below w.heap.size w W0 := by rw [← hW0]; exact bel1 _ _
  have hz0 : w.heap.size < W0.heap.size := by rw [← hW0]; simp
  have p0 : W0.cell? ⟨w.heap.size, 0, none⟩ = some (.string nm) := by rw [← hW0]; simp
  have p1 : W0.cell? ⟨w.heap.size, 1, none⟩ = some (.slice TA tlen tcap) := by rw [← hW0]; simp
  have p2 : W0.cell? ⟨w.heap.size, 2, none⟩ = some (.slice RA rlen rcap) := by rw [← hW0]; simp
  have hS0 := Same.mono (Same.of_below hbw) hB
  have hn := Lib.hid (mtableName_any nm W0 hnm)
  have HW0 := Lib.hid hW0
  clear hW0
  cases ht : tableB nm
  · have Ht := Lib.hid ht
    have HR := Lib.hid (show 4 = R by rw [← hR, ht, if_pos rfl])
    clear ht hR
    go_enter Tryd.func12, Tryd.ntmps12
    go_wp2_with fail
    rw [HW0.out]
    refine hn.out.mono ?_
    rintro e w1 ⟨rfl, hb1⟩
    rw [Ht.out]
    go_wp2
    go_ret
    exact ⟨by rw [← HR.out]; rfl, hbw.trans (hb1.mono (by omega))⟩
  rw [ht, if_neg (by simp)] at hR
  have Ht := Lib.hid ht
  clear ht
  by_cases h1 : 120 < tlen
  · have HR := Lib.hid (show 7 = R by rw [← hR, if_pos (.inl h1)])
    clear hR
    go_enter Tryd.func12, Tryd.ntmps12
    go_wp2_with fail
    rw [HW0.out]
    refine hn.out.mono ?_
    rintro e w1 ⟨rfl, hb1⟩
    rw [Ht.out]
    have q1 := (hb1.cell (p := ⟨w.heap.size, 1, none⟩) hz0).trans p1
    have q2 := (hb1.cell (p := ⟨w.heap.size, 2, none⟩) hz0).trans p2
    clear p0 p1 p2
    go_wp2
    go_ret
    exact ⟨by rw [← HR.out]; rfl, hbw.trans (hb1.mono (by omega))⟩
  by_cases h2 : 2000 < rlen
  · have HR := Lib.hid (show 7 = R by rw [← hR, if_pos (.inr h2)])
    clear hR
    go_enter Tryd.func12, Tryd.ntmps12
    go_wp2_with fail
    rw [HW0.out]
    refine hn.out.mono ?_
    rintro e w1 ⟨rfl, hb1⟩
    rw [Ht.out]
    have q1 := (hb1.cell (p := ⟨w.heap.size, 1, none⟩) hz0).trans p1
    have q2 := (hb1.cell (p := ⟨w.heap.size, 2, none⟩) hz0).trans p2
    clear p0 p1 p2
    go_wp2
    go_ret
    exact ⟨by rw [← HR.out]; rfl, hbw.trans (hb1.mono (by omega))⟩
  rw [if_neg (by omega)] at hR
  by_cases h3 : plainsS ts = 0
  · have H3 := Lib.hid h3
    have HR := Lib.hid (show rowsS ts rs = R by rw [← hR, h3, if_neg (by simp)])
    clear hR h3
    go_enter Tryd.func12, Tryd.ntmps12
    go_wp2_with fail
    rw [HW0.out]
    refine hn.out.mono ?_
    rintro e w1 ⟨rfl, hb1⟩
    rw [Ht.out]
    have hz1 : W0.heap.size ≤ w1.heap.size := hb1.size
    have q1 := (hb1.cell (p := ⟨w.heap.size, 1, none⟩) hz0).trans p1
    have q2 := (hb1.cell (p := ⟨w.heap.size, 2, none⟩) hz0).trans p2
    have hS1 : Same B w w1 := hS0.trans (Same.mono (Same.of_below hb1) (by omega))
    have hpt := Lib.hid (mplainTypes_any TA tcap tlen ts B w1 (hts.keep hS1) (by omega) Htlen)
    clear p0 p1 p2 hn HW0
    go_wp2_with fail
    refine hpt.out.mono ?_
    rintro e w2 ⟨rfl, hb2⟩
    rw [H3.out]
    have hz2 : w1.heap.size ≤ w2.heap.size := hb2.size
    have r1 := (hb2.cell (p := ⟨w.heap.size, 1, none⟩) (show w.heap.size < w1.heap.size by omega)).trans q1
    have r2 := (hb2.cell (p := ⟨w.heap.size, 2, none⟩) (show w.heap.size < w1.heap.size by omega)).trans q2
    have hS2 : Same B w w2 := hS1.trans (Same.mono (Same.of_below hb2) (by omega))
    have hcr := Lib.hid (mcheckRows_any TA RA tcap rcap tlen rlen ts rs B w2 (hts.keep hS2) (hrs.keep hS2) (hT.keep hS2) (by omega) Htlen Hrlen)
    clear q1 q2 hpt
    go_wp2_with fail
    refine hcr.out.mono ?_
    rintro e w3 ⟨rfl, hb3⟩
    go_wp2
    go_ret
    exact ⟨by rw [← HR.out]; rfl, hbw.trans ((hb1.trans ((hb2.trans (hb3.mono hz2)).mono hz1)).mono (by omega))⟩
  · have n3 : (plainsS ts != 0) = true := by simpa using h3
    have HR := Lib.hid (show plainsS ts = R by rw [← hR, if_pos h3])
    clear hR h3
    go_enter Tryd.func12, Tryd.ntmps12
    go_wp2_with fail
    rw [HW0.out]
    refine hn.out.mono ?_
    rintro e w1 ⟨rfl, hb1⟩
    rw [Ht.out]
    have hz1 : W0.heap.size ≤ w1.heap.size := hb1.size
    have q1 := (hb1.cell (p := ⟨w.heap.size, 1, none⟩) hz0).trans p1
    have q2 := (hb1.cell (p := ⟨w.heap.size, 2, none⟩) hz0).trans p2
    have hS1 : Same B w w1 := hS0.trans (Same.mono (Same.of_below hb1) (by omega))
    have hpt := Lib.hid (mplainTypes_any TA tcap tlen ts B w1 (hts.keep hS1) (by omega) Htlen)
    clear p0 p1 p2 hn HW0
    go_wp2_with fail
    refine hpt.out.mono ?_
    rintro e w2 ⟨rfl, hb2⟩
    go_wp2
    go_ret
    exact ⟨by rw [← HR.out]; rfl, hbw.trans ((hb1.trans (hb2.mono hz1)).mono (by omega))⟩
set_option maxRecDepth 100000 in
set_option maxHeartbeats 2000000 in
theorem rCheckSource_any (x : ST) (B : Nat) (w : World) (hin : ST.In B w x) (hT : Tabs B w) (hB : B ≤ w.heap.size) :
    Calls Tryd.prog 13 #[.agg #[.string x.nm, .slice x.TA x.ts.length x.tcap, .slice x.RA x.rs.length x.rcap]] w fun e w' => e = .returned (.int .i64 (sourceS x)) ∧ Below w.heap.size w w' := by
  obtain ⟨nm, TA, tcap, ts, RA, rcap, rs⟩ := x
  obtain ⟨hnm, hts, hrs⟩ := hin
  simp only [] at hnm hts hrs ⊢
  obtain ⟨R, hR⟩ : ∃ R, sourceS ⟨nm, TA, tcap, ts, RA, rcap, rs⟩ = R := ⟨_, rfl⟩
  rw [hR]
  unfold sourceS at hR
  simp only [] at hR
  have htl : ts.length ≤ 9223372036854775807 := Nat.le_trans hts.1 hts.2.1
  have hrl : rs.length ≤ 9223372036854775807 := Nat.le_trans hrs.1 hrs.2.1
  obtain ⟨tlen, htlen⟩ : ∃ n, ts.length = n := ⟨_, rfl⟩
  obtain ⟨rlen, hrlen⟩ : ∃ n, rs.length = n := ⟨_, rfl⟩
  rw [htlen, hrlen] at hR ⊢
  rw [htlen] at htl
  rw [hrlen] at hrl
  have Htlen := Lib.hid htlen
  have Hrlen := Lib.hid hrlen
  clear htlen hrlen
  obtain ⟨W0, hW0⟩ : ∃ W0, w.alloc (.cells #[.string nm, .slice TA tlen tcap, .slice RA rlen rcap] 44) = W0 := ⟨_, rfl⟩
  have hbw : Below w.heap.size w W0 := by rw [← hW0]; exact bel1 _ _
  have hz0 : w.heap.size < W0.heap.size := by rw [← hW0]; simp
  have p0 : W0.cell? ⟨w.heap.size, 0, none⟩ = some (.string nm) := by rw [← hW0]; simp
  have p1 : W0.cell? ⟨w.heap.size, 1, none⟩ = some (.slice TA tlen tcap) := by rw [← hW0]; simp
  have p2 : W0.cell? ⟨w.heap.size, 2, none⟩ = some (.slice RA rlen rcap) := by rw [← hW0]; simp
  have hS0 := Same.mono (Same.of_below hbw) hB
  have hn := Lib.hid (rTableName_below nm W0 hnm)
  have HW0 := Lib.hid hW0
  clear hW0
  cases ht : tableB nm
  · have Ht := Lib.hid ht
    have HR := Lib.hid (show 4 = R by rw [← hR, ht, if_pos rfl])
    clear ht hR
    go_enter Tryd.func13, Tryd.ntmps13
    go_wp2_with fail
    rw [HW0.out]
    refine hn.out.mono ?_
    rintro e w1 ⟨rfl, hb1⟩
    rw [Ht.out]
    go_wp2
    go_ret
    exact ⟨by rw [← HR.out]; rfl, hbw.trans (hb1.mono (by omega))⟩
  rw [ht, if_neg (by simp)] at hR
  have Ht := Lib.hid ht
  clear ht
  by_cases h1 : 120 < tlen
  · have HR := Lib.hid (show 7 = R by rw [← hR, if_pos (.inl h1)])
    clear hR
    go_enter Tryd.func13, Tryd.ntmps13
    go_wp2_with fail
    rw [HW0.out]
    refine hn.out.mono ?_
    rintro e w1 ⟨rfl, hb1⟩
    rw [Ht.out]
    have q1 := (hb1.cell (p := ⟨w.heap.size, 1, none⟩) hz0).trans p1
    have q2 := (hb1.cell (p := ⟨w.heap.size, 2, none⟩) hz0).trans p2
    clear p0 p1 p2
    go_wp2
    go_ret
    exact ⟨by rw [← HR.out]; rfl, hbw.trans (hb1.mono (by omega))⟩
  by_cases h2 : 2000 < rlen
  · have HR := Lib.hid (show 7 = R by rw [← hR, if_pos (.inr h2)])
    clear hR
    go_enter Tryd.func13, Tryd.ntmps13
    go_wp2_with fail
    rw [HW0.out]
    refine hn.out.mono ?_
    rintro e w1 ⟨rfl, hb1⟩
    rw [Ht.out]
    have q1 := (hb1.cell (p := ⟨w.heap.size, 1, none⟩) hz0).trans p1
    have q2 := (hb1.cell (p := ⟨w.heap.size, 2, none⟩) hz0).trans p2
    clear p0 p1 p2
    go_wp2
    go_ret
    exact ⟨by rw [← HR.out]; rfl, hbw.trans (hb1.mono (by omega))⟩
  rw [if_neg (by omega)] at hR
  by_cases h3 : plainsS ts = 0
  · have H3 := Lib.hid h3
    have HR := Lib.hid (show rowsS ts rs = R by rw [← hR, h3, if_neg (by simp)])
    clear hR h3
    go_enter Tryd.func13, Tryd.ntmps13
    go_wp2_with fail
    rw [HW0.out]
    refine hn.out.mono ?_
    rintro e w1 ⟨rfl, hb1⟩
    rw [Ht.out]
    have hz1 : W0.heap.size ≤ w1.heap.size := hb1.size
    have q1 := (hb1.cell (p := ⟨w.heap.size, 1, none⟩) hz0).trans p1
    have q2 := (hb1.cell (p := ⟨w.heap.size, 2, none⟩) hz0).trans p2
    have hS1 : Same B w w1 := hS0.trans (Same.mono (Same.of_below hb1) (by omega))
    have hpt := Lib.hid (rCheckTypes_any TA tcap tlen ts B w1 (hts.keep hS1) (by omega) Htlen)
    clear p0 p1 p2 hn HW0
    go_wp2_with fail
    refine hpt.out.mono ?_
    rintro e w2 ⟨rfl, hb2⟩
    rw [H3.out]
    have hz2 : w1.heap.size ≤ w2.heap.size := hb2.size
    have r1 := (hb2.cell (p := ⟨w.heap.size, 1, none⟩) (show w.heap.size < w1.heap.size by omega)).trans q1
    have r2 := (hb2.cell (p := ⟨w.heap.size, 2, none⟩) (show w.heap.size < w1.heap.size by omega)).trans q2
    have hS2 : Same B w w2 := hS1.trans (Same.mono (Same.of_below hb2) (by omega))
    have hcr := Lib.hid (rcheckRows_any TA RA tcap rcap tlen rlen ts rs B w2 (hts.keep hS2) (hrs.keep hS2) (hT.keep hS2) (by omega) Htlen Hrlen)
    clear q1 q2 hpt
    go_wp2_with fail
    refine hcr.out.mono ?_
    rintro e w3 ⟨rfl, hb3⟩
    go_wp2
    go_ret
    exact ⟨by rw [← HR.out]; rfl, hbw.trans ((hb1.trans ((hb2.trans (hb3.mono hz2)).mono hz1)).mono (by omega))⟩
  · have n3 : (plainsS ts != 0) = true := by simpa using h3
    have HR := Lib.hid (show plainsS ts = R by rw [← hR, if_pos h3])
    clear hR h3
    go_enter Tryd.func13, Tryd.ntmps13
    go_wp2_with fail
    rw [HW0.out]
    refine hn.out.mono ?_
    rintro e w1 ⟨rfl, hb1⟩
    rw [Ht.out]
    have hz1 : W0.heap.size ≤ w1.heap.size := hb1.size
    have q1 := (hb1.cell (p := ⟨w.heap.size, 1, none⟩) hz0).trans p1
    have q2 := (hb1.cell (p := ⟨w.heap.size, 2, none⟩) hz0).trans p2
    have hS1 : Same B w w1 := hS0.trans (Same.mono (Same.of_below hb1) (by omega))
    have hpt := Lib.hid (rCheckTypes_any TA tcap tlen ts B w1 (hts.keep hS1) (by omega) Htlen)
    clear p0 p1 p2 hn HW0
    go_wp2_with fail
    refine hpt.out.mono ?_
    rintro e w2 ⟨rfl, hb2⟩
    go_wp2
    go_ret
    exact ⟨by rw [← HR.out]; rfl, hbw.trans ((hb1.trans (hb2.mono hz1)).mono (by omega))⟩
end Go.Proofs.YtcpbbagppkcilaaDoor
