/-
  Vectors: types, and the form of any vector.
-/
import Derived.Test.YtkadahfknccjfaaGreatDoorQMeanBa
import Derived.Test.YtkadahfknccjfaaGreatDoorQVecF
namespace Go.Proofs.YtkadahfknccjfaaGreatDoor
open Go.RowKit
theorem kindS_cases (k : Int) : (kindS k = 4 ∧ k = 4) ∨ (kindS k = 6 ∧ k = 6) ∨ (kindS k = 6 ∧ k = 7) ∨ kindS k = 2 := by
  unfold kindS
  by_cases h4 : k = 4
  · exact .inl ⟨by rw [if_pos h4], h4⟩
  · rw [if_neg h4]
    by_cases h6 : k = 6
    · exact .inr (.inl ⟨by rw [if_pos (.inl h6)], h6⟩)
    · by_cases h7 : k = 7
      · exact .inr (.inr (.inl ⟨by rw [if_pos (.inr h7)], h7⟩))
      · exact .inr (.inr (.inr (by rw [if_neg (by omega)])))
theorem eformed_any (v : VecT) (size B : Nat) (w : World) (hv : VecT.In B w v) (hB : B ≤ w.heap.size) (hs : size ≤ 1024) :
    Calls Tryz.prog 66 #[.agg #[.int .i64 v.t.a.k, .int .i64 v.t.a.sc, .slice v.t.a.A v.t.l.length v.t.a.cap, .slice v.NA v.ns.length v.ncap, .slice v.IA v.is.length v.icap, .slice v.SA v.ss.length v.scap, .slice v.VA v.vs.length v.vcap], .int .i64 (size : Int)] w fun e w' => e = .returned (.bool (formS v size)) ∧ Below w.heap.size w w' := by
  rcases kindS_cases v.t.a.k with ⟨h, _⟩ | ⟨h, _⟩ | ⟨h, _⟩ | h
  · exact eformed4 v size B w hv hB hs h
  · exact eformed6 v size B w hv hB hs h
  · exact eformed6 v size B w hv hB hs h
  · exact eformed2 v size B w hv hB hs h
set_option maxRecDepth 100000 in
set_option maxHeartbeats 1000000 in
theorem eplainType_any (t : FT) (B : Nat) (w : World) (hin : FT.In B w t) (hB : B ≤ w.heap.size) :
    Calls Tryz.prog 25 #[.agg #[.int .i64 t.a.k, .int .i64 t.a.sc, .slice t.a.A t.l.length t.a.cap]] w fun e w' => e = .returned (.int .i64 (plainS t)) ∧ Below w.heap.size w w' := by
  obtain ⟨W0, hW0⟩ : ∃ W0, w.alloc (.cells #[.int .i64 t.a.k, .int .i64 t.a.sc, .slice t.a.A t.l.length t.a.cap] 50) = W0 := ⟨_, rfl⟩
  have hbw : Below w.heap.size w W0 := by rw [← hW0]; exact bel1 _ _
  have hz0 : w.heap.size < W0.heap.size := by rw [← hW0]; simp
  have p0 : W0.cell? ⟨w.heap.size, 0, none⟩ = some (.int .i64 t.a.k) := by rw [← hW0]; simp
  have p1 : W0.cell? ⟨w.heap.size, 1, none⟩ = some (.int .i64 t.a.sc) := by rw [← hW0]; simp
  have p2 : W0.cell? ⟨w.heap.size, 2, none⟩ = some (.slice t.a.A t.l.length t.a.cap) := by rw [← hW0]; simp
  have hS0 := Same.mono (Same.of_below hbw) hB
  have hin0 := hin.keep hS0
  have hct := Lib.hid (vCheckType_any t B W0 hin0 (by omega))
  obtain ⟨R, hR⟩ : ∃ R, plainS t = R := ⟨_, rfl⟩
  rw [hR]
  unfold plainS at hR
  have HW0 := Lib.hid hW0
  clear hW0 hin hS0
  by_cases h0 : ctS t = 0
  · rw [h0, if_neg (by simp)] at hR
    have H0 := Lib.hid h0
    clear h0
    go_enter Tryz.func25, Tryz.ntmps25
    go_wp2_with fail
    rw [HW0.out]
    refine hct.out.mono ?_
    rintro e w1 ⟨rfl, hb1⟩
    rw [H0.out]
    have hz1 : W0.heap.size ≤ w1.heap.size := hb1.size
    have q0 := (hb1.cell (p := ⟨w.heap.size, 0, none⟩) hz0).trans p0
    have q1 := (hb1.cell (p := ⟨w.heap.size, 1, none⟩) hz0).trans p1
    have q2 := (hb1.cell (p := ⟨w.heap.size, 2, none⟩) hz0).trans p2
    have hpl := Lib.hid (mPlain_any t B w1 (hin0.keep (Same.mono (Same.of_below hb1) (by omega))) (by omega))
    clear p0 p1 p2 HW0 hct
    cases hp : plT t
    · have HR := Lib.hid (show 1 = R by rw [← hR, hp, if_pos rfl])
      have Hp := Lib.hid hp
      clear hp hR
      go_wp2_with fail
      refine hpl.out.mono ?_
      rintro e w2 ⟨rfl, hb2⟩
      rw [Hp.out]
      go_wp2
      go_ret
      exact ⟨by rw [← HR.out]; rfl, hbw.trans ((hb1.trans (hb2.mono (by omega))).mono (by omega))⟩
    · have HR := Lib.hid (show 0 = R by rw [← hR, hp, if_neg (by simp)])
      have Hp := Lib.hid hp
      clear hp hR
      go_wp2_with fail
      refine hpl.out.mono ?_
      rintro e w2 ⟨rfl, hb2⟩
      rw [Hp.out]
      go_wp2
      go_ret
      exact ⟨by rw [← HR.out]; rfl, hbw.trans ((hb1.trans (hb2.mono (by omega))).mono (by omega))⟩
  · rw [if_pos h0] at hR
    have n0 : (ctS t != 0) = true := by simpa using h0
    have HR := Lib.hid hR
    clear h0 hR
    go_enter Tryz.func25, Tryz.ntmps25
    go_wp2_with fail
    rw [HW0.out]
    refine hct.out.mono ?_
    rintro e w1 ⟨rfl, hb1⟩
    go_wp2
    go_ret
    exact ⟨by rw [← HR.out]; rfl, hbw.trans (hb1.mono (by omega))⟩
end Go.Proofs.YtkadahfknccjfaaGreatDoor
