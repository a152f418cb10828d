/-
  The reference of package value: Sound and Check.
-/
import Derived.Test.YtkadahfknccjfaaGreatDoorQRefE
import Derived.Test.YtkadahfknccjfaaGreatDoorQRefH
import Derived.Test.YtkadahfknccjfaaGreatDoorQRefI
import Derived.Test.YtkadahfknccjfaaGreatDoorQRefJ
namespace Go.Proofs.YtkadahfknccjfaaGreatDoor
open Go.RowKit
/-- What is wrong with a value of a type. -/
def checkS (t : FT) (v : VT) : Int := if ctS t ≠ 0 then ctS t else if (sdV 1 0 v).1 = false then 1 else if ofT t v = false then 2 else if misT t v = true then 9 else 0
set_option maxRecDepth 100000 in
set_option maxHeartbeats 1000000 in
theorem rSound_any (v : VT) (B : Nat) (w : World) (hin : VT.In B w v) (hT : Tabs B w) (hB : B ≤ w.heap.size) :
    Calls Tryz.prog 59 #[.agg #[.int .i64 v.a.k, .int .i64 v.a.n, .int .i64 v.a.sc, .string v.a.s, .slice v.a.A v.l.length v.a.cap]] w fun e w' => e = .returned (.bool (sdV 1 0 v).1) ∧ Below w.heap.size w w' := by
  have hS1 := fun (o : Obj) (o2 : Obj) => ((Same.refl B w).alloc hB o).alloc (show B ≤ (w.alloc o).heap.size by simp; omega) o2
  have hc := fun (o : Obj) => rsound_any v 1 0 (w.heap.size + 1) B ((w.alloc o).alloc (.cells #[.int .i64 0] 3)) (hin.keep (hS1 _ _)) (hT.keep (hS1 _ _)) (by simp; omega) (by omega) (by have := One.new (w.alloc o) 3 0; simpa using this) (by omega) (by omega) (by omega) (by omega)
  have Hc := Lib.hid hc
  clear hc hS1 hin hT
  go_enter Tryz.func59, Tryz.ntmps59
  go_wp2_with (go_at_call 83; refine (Hc.out _).mono ?_; rintro e w' ⟨rfl, hch, hon⟩)
  go_ret
  refine ⟨rfl, ?_⟩
  have h1 : Ch (w.heap.size + 1) w ((w.alloc (.cells #[.int .i64 v.a.k, .int .i64 v.a.n, .int .i64 v.a.sc, .string v.a.s, .slice v.a.A v.l.length v.a.cap] 61)).alloc (.cells #[.int .i64 0] 3)) := ((Ch.refl _ w).alloc _).alloc _
  exact (h1.trans hch).below (by omega)
set_option maxRecDepth 100000 in
set_option maxHeartbeats 2000000 in
theorem rCheck_any (t : FT) (v : VT) (B : Nat) (w : World) (htin : FT.In B w t) (hin : VT.In B w v) (hT : Tabs B w) (hB : B ≤ w.heap.size) :
    Calls Tryz.prog 40 #[.agg #[.int .i64 t.a.k, .int .i64 t.a.sc, .slice t.a.A t.l.length t.a.cap], .agg #[.int .i64 v.a.k, .int .i64 v.a.n, .int .i64 v.a.sc, .string v.a.s, .slice v.a.A v.l.length v.a.cap]] w
      fun e w' => e = .returned (.int .i64 (checkS t v)) ∧ Below w.heap.size w w' := by
  obtain ⟨o1, ho1⟩ : ∃ o1, Obj.cells #[.int .i64 t.a.k, .int .i64 t.a.sc, .slice t.a.A t.l.length t.a.cap] 50 = o1 := ⟨_, rfl⟩
  obtain ⟨o2, ho2⟩ : ∃ o2, Obj.cells #[.int .i64 v.a.k, .int .i64 v.a.n, .int .i64 v.a.sc, .string v.a.s, .slice v.a.A v.l.length v.a.cap] 61 = o2 := ⟨_, rfl⟩
  obtain ⟨W0, hW0⟩ : ∃ W0, (w.alloc o1).alloc o2 = W0 := ⟨_, rfl⟩
  have hbw : Below w.heap.size w W0 := by rw [← hW0]; exact bel2 _ _ _
  have hz0 : w.heap.size + 1 < W0.heap.size := by rw [← hW0]; simp
  have f0 : W0.cell? ⟨w.heap.size, 0, none⟩ = some (.int .i64 t.a.k) := by rw [← hW0, ← ho1]; simp
  have f1 : W0.cell? ⟨w.heap.size, 1, none⟩ = some (.int .i64 t.a.sc) := by rw [← hW0, ← ho1]; simp
  have f2 : W0.cell? ⟨w.heap.size, 2, none⟩ = some (.slice t.a.A t.l.length t.a.cap) := by rw [← hW0, ← ho1]; simp
  have g0 : W0.cell? ⟨w.heap.size + 1, 0, none⟩ = some (.int .i64 v.a.k) := by rw [← hW0, ← ho2]; simp
  have g1 : W0.cell? ⟨w.heap.size + 1, 1, none⟩ = some (.int .i64 v.a.n) := by rw [← hW0, ← ho2]; simp
  have g2 : W0.cell? ⟨w.heap.size + 1, 2, none⟩ = some (.int .i64 v.a.sc) := by rw [← hW0, ← ho2]; simp
  have g3 : W0.cell? ⟨w.heap.size + 1, 3, none⟩ = some (.string v.a.s) := by rw [← hW0, ← ho2]; simp
  have g4 : W0.cell? ⟨w.heap.size + 1, 4, none⟩ = some (.slice v.a.A v.l.length v.a.cap) := by rw [← hW0, ← ho2]; simp
  have hS0 := Same.mono (Same.of_below hbw) hB
  have htin0 := htin.keep hS0
  have hin0 := hin.keep hS0
  have hT0 := hT.keep hS0
  have HW0 := Lib.hid hW0
  have Ho1 := Lib.hid ho1
  have Ho2 := Lib.hid ho2
  obtain ⟨R, hR⟩ : ∃ R, checkS t v = R := ⟨_, rfl⟩
  rw [hR]
  unfold checkS at hR
  have hct := Lib.hid (rCheckType_any t B W0 htin0 (by omega))
  clear hW0 ho1 ho2 htin hin hT hS0
  by_cases h0 : ctS t = 0
  · rw [h0, if_neg (by simp)] at hR
    have H0 := Lib.hid h0
    have hto := ckT_ok t 1 0 h0
    clear h0
    go_enter Tryz.func40, Tryz.ntmps40
    go_wp2_with fail
    rw [Ho1.out, Ho2.out, HW0.out]
    clear Ho1 Ho2 HW0
    refine hct.out.mono ?_
    rintro e w1 ⟨rfl, hb1⟩
    rw [H0.out]
    have hS1 : Same B W0 w1 := Same.mono (Same.of_below hb1) (by omega)
    have hz1 : W0.heap.size ≤ w1.heap.size := hb1.size
    have c1 : ∀ (o : Nat) (b : Nat) (u : Value), b < W0.heap.size → W0.cell? ⟨b, o, none⟩ = some u → w1.cell? ⟨b, o, none⟩ = some u := fun o b u hb h => (hb1.cell (p := ⟨b, o, none⟩) hb).trans h
    have g0 := c1 _ _ _ (by omega) g0
    have g1 := c1 _ _ _ (by omega) g1
    have g2 := c1 _ _ _ (by omega) g2
    have g3 := c1 _ _ _ (by omega) g3
    have g4 := c1 _ _ _ (by omega) g4
    have f0 := c1 _ _ _ (by omega) f0
    have f1 := c1 _ _ _ (by omega) f1
    have f2 := c1 _ _ _ (by omega) f2
    clear c1
    have hsd := Lib.hid (rSound_any v B w1 (hin0.keep hS1) (hT0.keep hS1) (by omega))
    cases h1 : (sdV 1 0 v).1
    · have HR : Hid (R = 1) := by rw [← hR, h1, if_pos rfl]; exact rfl
      have H1 := Lib.hid h1
      clear h1 hR hct
      go_wp2_with fail
      refine hsd.out.mono ?_
      rintro e w2 ⟨rfl, hb2⟩
      rw [H1.out]
      go_wp2
      go_ret
      exact ⟨by rw [HR.out]; rfl, hbw.trans ((hb1.trans (hb2.mono (by omega))).mono (by omega))⟩
    · rw [h1, if_neg (by simp)] at hR
      have H1 := Lib.hid h1
      have hvo := sdV_ok v 1 0 h1
      clear h1 hct
      go_wp2_with fail
      refine hsd.out.mono ?_
      rintro e w2 ⟨rfl, hb2⟩
      rw [H1.out]
      have hS2 : Same B w1 w2 := Same.mono (Same.of_below hb2) (by omega)
      have hz2 : w1.heap.size ≤ w2.heap.size := hb2.size
      have c1 : ∀ (o : Nat) (b : Nat) (u : Value), b < w1.heap.size → w1.cell? ⟨b, o, none⟩ = some u → w2.cell? ⟨b, o, none⟩ = some u := fun o b u hb h => (hb2.cell (p := ⟨b, o, none⟩) hb).trans h
      have g0 := c1 _ _ _ (by omega) g0
      have g1 := c1 _ _ _ (by omega) g1
      have g2 := c1 _ _ _ (by omega) g2
      have g3 := c1 _ _ _ (by omega) g3
      have g4 := c1 _ _ _ (by omega) g4
      have f0 := c1 _ _ _ (by omega) f0
      have f1 := c1 _ _ _ (by omega) f1
      have f2 := c1 _ _ _ (by omega) f2
      clear c1
      have hof := Lib.hid (rof_any v t B w2 ((hin0.keep hS1).keep hS2) ((htin0.keep hS1).keep hS2) hto hvo (by omega))
      cases h2 : ofT t v
      · have HR : Hid (R = 2) := by rw [← hR, h2, if_pos rfl]; exact rfl
        have H2 := Lib.hid h2
        clear h2 hR
        go_wp2_with fail
        refine hof.out.mono ?_
        rintro e w3 ⟨rfl, hb3⟩
        rw [H2.out]
        go_wp2
        go_ret
        exact ⟨by rw [HR.out]; rfl, hbw.trans ((hb1.trans ((hb2.trans (hb3.mono (by omega))).mono (by omega))).mono (by omega))⟩
      · rw [h2, if_neg (by simp)] at hR
        have H2 := Lib.hid h2
        have hR2 := Lib.hid hR
        clear hR
        go_wp2_with fail
        refine hof.out.mono ?_
        rintro e w3 ⟨rfl, hb3⟩
        rw [H2.out]
        have hS3 : Same B w2 w3 := Same.mono (Same.of_below hb3) (by omega)
        have hz3 : w2.heap.size ≤ w3.heap.size := hb3.size
        have c1 : ∀ (o : Nat) (b : Nat) (u : Value), b < w2.heap.size → w2.cell? ⟨b, o, none⟩ = some u → w3.cell? ⟨b, o, none⟩ = some u := fun o b u hb h => (hb3.cell (p := ⟨b, o, none⟩) hb).trans h
        have g0 := c1 _ _ _ (by omega) g0
        have g1 := c1 _ _ _ (by omega) g1
        have g2 := c1 _ _ _ (by omega) g2
        have g3 := c1 _ _ _ (by omega) g3
        have g4 := c1 _ _ _ (by omega) g4
        have f0 := c1 _ _ _ (by omega) f0
        have f1 := c1 _ _ _ (by omega) f1
        have f2 := c1 _ _ _ (by omega) f2
        clear c1
        have hmi := Lib.hid (rmissing_any v t B w3 (((hin0.keep hS1).keep hS2).keep hS3) (((htin0.keep hS1).keep hS2).keep hS3) hto hvo h2 (by omega))
        clear h2
        have hbx : Below w.heap.size w w3 := hbw.trans ((hb1.trans ((hb2.trans (hb3.mono (by omega))).mono (by omega))).mono (by omega))
        cases h3 : misT t v
        · have HR : Hid (R = 0) := by rw [← hR2.out, h3, if_neg (by simp)]; exact rfl
          have H3 := Lib.hid h3
          clear h3
          go_wp2_with fail
          refine hmi.out.mono ?_
          rintro e w4 ⟨rfl, hb4⟩
          rw [H3.out]
          go_wp2
          go_ret
          exact ⟨by rw [HR.out]; rfl, hbx.trans (hb4.mono (by omega))⟩
        · have HR : Hid (R = 9) := by rw [← hR2.out, h3, if_pos rfl]; exact rfl
          have H3 := Lib.hid h3
          clear h3
          go_wp2_with fail
          refine hmi.out.mono ?_
          rintro e w4 ⟨rfl, hb4⟩
          rw [H3.out]
          go_wp2
          go_ret
          exact ⟨by rw [HR.out]; rfl, hbx.trans (hb4.mono (by omega))⟩
  · rw [if_pos h0] at hR
    have n0 : (ctS t != 0) = true := by simpa using h0
    have HR := Lib.hid hR
    clear h0 hR
    go_enter Tryz.func40, Tryz.ntmps40
    go_wp2_with fail
    rw [Ho1.out, Ho2.out, HW0.out]
    clear Ho1 Ho2 HW0
    refine hct.out.mono ?_
    rintro e w1 ⟨rfl, hb1⟩
    go_wp2
    go_ret
    exact ⟨by rw [← HR.out]; rfl, hbw.trans (hb1.mono (by omega))⟩
end Go.Proofs.YtkadahfknccjfaaGreatDoor
