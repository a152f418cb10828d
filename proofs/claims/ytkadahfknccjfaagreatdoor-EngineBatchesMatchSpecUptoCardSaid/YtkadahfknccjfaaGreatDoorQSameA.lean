/-
  The reference of package value: SameType at types that are the same but for their place.
-/
import Derived.Test.YtkadahfknccjfaaGreatDoorQStill
import Derived.Test.YtkadahfknccjfaaGreatDoorQLib2
import Derived.Test.YtkadahfknccjfaaGreatDoorQCopyD
import Derived.Deep.RegionHeld3
import Derived.BigRegion
namespace Go.Proofs.YtkadahfknccjfaaGreatDoor
open Go.RowKit
set_option maxRecDepth 100000 in
set_option maxHeartbeats 4000000 in
theorem rSameType_sm : ∀ (t u : FT) (B : Nat) (w : World), FT.In B w t → FT.In B w u → B ≤ w.heap.size → FT.Sm t u →
    Calls Tryz.prog 42 #[.agg #[.int .i64 t.a.k, .int .i64 t.a.sc, .slice t.a.A t.l.length t.a.cap], .agg #[.int .i64 u.a.k, .int .i64 u.a.sc, .slice u.a.A u.l.length u.a.cap]] w fun e w' => e = .returned (.bool true) ∧ Below w.heap.size w w' := by
  refine FT.ind fun a l ih u B w hin hinu hB hsm => ?_
  obtain ⟨b, m⟩ := u
  obtain ⟨id, nm, nd, k, sc, A, cap⟩ := a
  obtain ⟨id2, nm2, nd2, k2, sc2, A2, cap2⟩ := b
  obtain ⟨_, _, _, _, hr, hl⟩ := hin.parts
  obtain ⟨_, _, _, _, hr2, hl2⟩ := hinu.parts
  obtain ⟨e1, e2, e3, e4, e5⟩ := hsm.inv
  simp only [FT.a_node, FT.l_node] at hr hr2 e1 e2 ⊢
  subst e1 e2
  obtain ⟨len, hlen⟩ : ∃ len, l.length = len := ⟨_, rfl⟩
  have hlen2 : m.length = len := by rw [← e3]; exact hlen
  rw [hlen, hlen2]
  have hll : len ≤ 9223372036854775807 := by rw [← hlen]; exact Nat.le_trans hr.1 hr.2.1
  have hlen' := Lib.hid hlen
  have hlen2' := Lib.hid hlen2
  obtain ⟨W0, hW0⟩ : ∃ W0, (w.alloc (.cells #[.int .i64 k, .int .i64 sc, .slice A len cap] 50)).alloc (.cells #[.int .i64 k, .int .i64 sc, .slice A2 len cap2] 50) = W0 := ⟨_, rfl⟩
  have hbw : Below w.heap.size w W0 := by rw [← hW0]; exact bel2 _ _ _
  have hz0 : W0.heap.size = w.heap.size + 2 := by rw [← hW0]; simp
  have p2 : W0.cell? ⟨w.heap.size, 2, none⟩ = some (.slice A len cap) := by rw [← hW0]; simp
  have g2 : W0.cell? ⟨w.heap.size + 1, 2, none⟩ = some (.slice A2 len cap2) := by rw [← hW0]; simp
  have HW0 := Lib.hid hW0
  have Hz0 := Lib.hid hz0
  have Hp2 := Lib.hid p2
  have Hg2 := Lib.hid g2
  have Hr := Lib.hid hr
  have Hr2 := Lib.hid hr2
  have He4 := Lib.hid e4
  have He5 := Lib.hid e5
  clear hW0 hz0 hlen hlen2 e3 hr hr2 p2 g2 e4 e5
  go_enter Tryz.func42, Tryz.ntmps42
  go_wp2
  rw [HW0.out]
  clear HW0
  go_loopw [32] (fun i wr => ∃ j : Nat, j ≤ len ∧ i = .int .i64 j ∧ Below W0.heap.size W0 wr) (fun i _ => len - (intOf i).toNat)
  case atStart => exact ⟨0, Nat.zero_le _, rfl, Below.refl _ _⟩
  case round =>
    obtain ⟨j, hj, rfl, hbr⟩ := hrel
    have hzr : w.heap.size + 2 ≤ wr.heap.size := by rw [← Hz0.out]; exact hbr.size
    have hbwr : Below w.heap.size w wr := hbw.trans (hbr.mono (by rw [Hz0.out]; omega))
    by_cases hlt : j < len
    · have hSr : Same B w wr := Same.mono (Same.of_below hbwr) hB
      obtain ⟨x, ad, hx, rfl, hb, d0, d1, d2, d3, d4, d5⟩ := (Hr.out.keep hSr).get (show j < l.length by rw [hlen'.out]; exact hlt)
      obtain ⟨y, ad2, hy, rfl, hb2, c0, c1, c2, c3, c4, c5⟩ := (Hr2.out.keep hSr).get (show j < m.length by rw [hlen2'.out]; exact hlt)
      have q2 := (hbr.cell (p := ⟨w.heap.size, 2, none⟩) (by rw [Hz0.out]; show w.heap.size < _; omega)).trans Hp2.out
      have q3 := (hbr.cell (p := ⟨w.heap.size + 1, 2, none⟩) (by rw [Hz0.out]; show w.heap.size + 1 < _; omega)).trans Hg2.out
      obtain ⟨f1, f2, f3⟩ := He4.out j x y hx hy
      have f4 := He5.out j x y hx hy
      have hic := Lib.hid (fun W hS hW => ih x (mem_of_get? hx) y B W ((hl x (mem_of_get? hx)).keep hS) ((hl2 y (mem_of_get? hy)).keep hS) hW f4)
      rw [← f2] at c1
      rw [← f3] at c2
      clear ih hl hl2 hin hinu hsm f1 f2 f3 hx hy
      go_wp2_with fail
      have d0a := fun o => cell_old d0 o
      have d0b := fun o o2 => cell_old (cell_old d0 o) o2
      have d1a := fun o => cell_old d1 o
      have d1b := fun o o2 => cell_old (cell_old d1 o) o2
      have d2a := fun o => cell_old d2 o
      have d2b := fun o o2 => cell_old (cell_old d2 o) o2
      have d3a := fun o => cell_old d3 o
      have d3b := fun o o2 => cell_old (cell_old d3 o) o2
      have d4a := fun o => cell_old d4 o
      have d4b := fun o o2 => cell_old (cell_old d4 o) o2
      have d5a := fun o => cell_old d5 o
      have d5b := fun o o2 => cell_old (cell_old d5 o) o2
      have c0a := fun o => cell_old c0 o
      have c0b := fun o o2 => cell_old (cell_old c0 o) o2
      have c1a := fun o => cell_old c1 o
      have c1b := fun o o2 => cell_old (cell_old c1 o) o2
      have c2a := fun o => cell_old c2 o
      have c2b := fun o o2 => cell_old (cell_old c2 o) o2
      have c3a := fun o => cell_old c3 o
      have c3b := fun o o2 => cell_old (cell_old c3 o) o2
      have c4a := fun o => cell_old c4 o
      have c4b := fun o o2 => cell_old (cell_old c4 o) o2
      have c5a := fun o => cell_old c5 o
      have c5b := fun o o2 => cell_old (cell_old c5 o) o2
      have q2a := fun o => cell_old q2 o
      have q2b := fun o o2 => cell_old (cell_old q2 o) o2
      have q3a := fun o => cell_old q3 o
      have q3b := fun o o2 => cell_old (cell_old q3 o) o2
      go_region
      all_goals
        clear d0 d0a d0b d1 d1a d1b d2 d2a d2b d3 d3a d3b d4 d4a d4b d5 d5a d5b c0 c0a c0b c1 c1a c1b c2 c2a c2b c3 c3a c3b c4 c4a c4b c5 c5a c5b q2 q2a q2b q3 q3a q3b
        go_wp2_with fail
        generalize hW1 : World.drew _ = W1
        have hbW1 : Below W0.heap.size W0 W1 := by rw [← hW1]; exact ((hbr.alloc hbr.size _).alloc (by simp; have := hbr.size; omega) _).drew
        have hzW1 := hbW1.size
        have hbw1 : Below w.heap.size w W1 := hbw.trans (hbW1.mono (by rw [Hz0.out]; omega))
        clear hW1
        refine (hic.out W1 (Same.mono (Same.of_below hbw1) hB) (Nat.le_trans hB hbw1.size)).mono ?_
        rintro e w' ⟨rfl, hb3⟩
        go_wp2
        go_roundw
        case rel => exact ⟨j + 1, by omega, by go_num, hbW1.trans (hb3.mono hzW1)⟩
        case measure => simp [intOf]; omega
    · clear ih hl hl2 hin hinu hsm
      go_wp2
      go_ret
      exact ⟨rfl, hbwr⟩
end Go.Proofs.YtkadahfknccjfaaGreatDoor
