/-
  The law: Parts and Tables are those of the reference.
-/
import Derived.Test.YtoeamomklmoncaaPtN
import Derived.Test.YtoeamomklmoncaaPtG
import Derived.Test.YtoeamomklmoncaaPtE
import Derived.Deep.RegionLaw
import Derived.Deep.DeepCutAuto
namespace Go.Proofs.Ytoeamomklmoncaa
open Go.RowKit Go.Sort
theorem len14 {α : Type} : ∀ {l : List α}, l.length = 14 → ∃ a b c d e f g h i j k m n o, l = [a, b, c, d, e, f, g, h, i, j, k, m, n, o]
  | [a, b, c, d, e, f, g, h, i, j, k, m, n, o], _ => ⟨a, b, c, d, e, f, g, h, i, j, k, m, n, o, rfl⟩
def LawPost (w : World) (e : Ending) (w' : World) : Prop := e = .returned (.bool true) ∧ Below w.heap.size w w'
/-- What a call hands back, in a world that came out of W0. -/
def NBoth (B : Nat) (W0 : World) (n : Nat) (e : Ending) (w' : World) : Prop := e = .returned (.int .i64 n) ∧ Below B W0 w'
def SBoth (B : Nat) (W0 : World) (l : List (List UInt8)) (W : World) (e : Ending) (w' : World) : Prop := ∃ (A : Option Addr) (cap : Nat), e = .returned (.slice A l.length cap) ∧ (∀ W', Below w'.heap.size w' W' → SOwn 0 W' A cap l) ∧ Below W.heap.size W w' ∧ Below B W0 w'
set_option maxRecDepth 100000 in
set_option maxHeartbeats 40000000 in
theorem law_any (hT : TabOk) (d : DT) (S : Nat → Prop) (w : World) (hd : DT.In S w .rel d) (hS : ∀ k, S k → k < w.heap.size) (hn : d.n ≤ 1048576) :
    Calls Try.prog 3 #[.agg d.c.toArray] w (LawPost w) := by
  have hlen := hd.len
  obtain ⟨f, hf, hnf⟩ : ∃ f, f ≤ 1048576 ∧ d.n ≤ f := ⟨d.n, hn, Nat.le_refl _⟩
  obtain ⟨pn, hpn⟩ : ∃ n, partsR f d = n := ⟨_, rfl⟩
  obtain ⟨ss, hss⟩ : ∃ l, sortS (ddS [] (nmS (tabsR f d))) = l := ⟨_, rfl⟩
  have hsl : ss.length ≤ 1048576 := by
    rw [← hss, sortS_len]
    have h1 := ddS_len (nmS (tabsR f d)) []
    have h2 := (tabs_len f).1 d
    have h3 : (nmS (tabsR f d)).length = (tabsR f d).length := by unfold nmS; rw [List.length_map]
    simp only [List.length_nil] at h1
    omega
  obtain ⟨c0, c1, c2, c3, c4, c5, c6, c7, c8, c9, c10, c11, c12, c13, hc⟩ := len14 hlen
  obtain ⟨W0, hW0⟩ : ∃ W0, w.alloc (.cells #[c0, c1, c2, c3, c4, c5, c6, c7, c8, c9, c10, c11, c12, c13] 31) = W0 := ⟨_, rfl⟩
  have hb0 : Below w.heap.size w W0 := by rw [← hW0]; exact bel1 _ _
  have e0 : W0.heap[w.heap.size]? = some (.cells #[c0, c1, c2, c3, c4, c5, c6, c7, c8, c9, c10, c11, c12, c13] 31 (0, 0)) := by rw [← hW0]; exact heap_alloc_new w _
  have hz0 : w.heap.size < W0.heap.size := by rw [← hW0]; simp
  have Hl : Hid (∀ w1, Below W0.heap.size W0 w1 → w1.cell? ⟨w.heap.size, 0, none⟩ = some c0 ∧ w1.cell? ⟨w.heap.size, 1, none⟩ = some c1 ∧ w1.cell? ⟨w.heap.size, 2, none⟩ = some c2 ∧ w1.cell? ⟨w.heap.size, 3, none⟩ = some c3 ∧ w1.cell? ⟨w.heap.size, 4, none⟩ = some c4 ∧ w1.cell? ⟨w.heap.size, 5, none⟩ = some c5 ∧ w1.cell? ⟨w.heap.size, 6, none⟩ = some c6 ∧ w1.cell? ⟨w.heap.size, 7, none⟩ = some c7 ∧ w1.cell? ⟨w.heap.size, 8, none⟩ = some c8 ∧ w1.cell? ⟨w.heap.size, 9, none⟩ = some c9 ∧ w1.cell? ⟨w.heap.size, 10, none⟩ = some c10 ∧ w1.cell? ⟨w.heap.size, 11, none⟩ = some c11 ∧ w1.cell? ⟨w.heap.size, 12, none⟩ = some c12 ∧ w1.cell? ⟨w.heap.size, 13, none⟩ = some c13) := fun w1 h => by
    have e1 : w1.heap[w.heap.size]? = some (.cells #[c0, c1, c2, c3, c4, c5, c6, c7, c8, c9, c10, c11, c12, c13] 31 (0, 0)) := (h.block w.heap.size hz0).trans e0
    exact ⟨by rw [cell_of_row _ _ 0 _ _ _ e1]; rfl, by rw [cell_of_row _ _ 1 _ _ _ e1]; rfl, by rw [cell_of_row _ _ 2 _ _ _ e1]; rfl, by rw [cell_of_row _ _ 3 _ _ _ e1]; rfl, by rw [cell_of_row _ _ 4 _ _ _ e1]; rfl, by rw [cell_of_row _ _ 5 _ _ _ e1]; rfl, by rw [cell_of_row _ _ 6 _ _ _ e1]; rfl, by rw [cell_of_row _ _ 7 _ _ _ e1]; rfl, by rw [cell_of_row _ _ 8 _ _ _ e1]; rfl, by rw [cell_of_row _ _ 9 _ _ _ e1]; rfl, by rw [cell_of_row _ _ 10 _ _ _ e1]; rfl, by rw [cell_of_row _ _ 11 _ _ _ e1]; rfl, by rw [cell_of_row _ _ 12 _ _ _ e1]; rfl, by rw [cell_of_row _ _ 13 _ _ _ e1]; rfl⟩
  obtain ⟨g0, g1, g2, g3, g4, g5, g6, g7, g8, g9, g10, g11, g12, g13⟩ := Hl.out W0 (Below.refl _ _)
  have hk : ∀ W, Below W0.heap.size W0 W → DT.In S W .rel d ∧ (∀ k, S k → k < W.heap.size) := fun W h => by
    have hb : Below w.heap.size w W := hb0.trans (h.mono (by omega))
    exact ⟨hd.keep (fun k hk => hb.block k (hS k hk)) (fun _ h => h), fun k hk => Nat.lt_of_lt_of_le (hS k hk) hb.size⟩
  have H1 : Hid (∀ W, Below W0.heap.size W0 W → Calls Try.prog 4 #[.agg #[c0, c1, c2, c3, c4, c5, c6, c7, c8, c9, c10, c11, c12, c13]] W (NBoth W0.heap.size W0 pn)) := fun W h => by
    have h2 := mParts_any f hf d S W (hk W h).1 (hk W h).2 hnf
    rw [hc, hpn] at h2
    refine h2.mono ?_
    rintro e w' ⟨he, hb2⟩
    exact ⟨he, h.trans (hb2.mono h.size)⟩
  have H2 : Hid (∀ W, Below W0.heap.size W0 W → Calls Try.prog 5 #[.agg #[c0, c1, c2, c3, c4, c5, c6, c7, c8, c9, c10, c11, c12, c13]] W (NBoth W0.heap.size W0 pn)) := fun W h => by
    have h2 := (rparts_all f hf).1 d S W (hk W h).1 (hk W h).2 hnf
    rw [hc, hpn] at h2
    refine h2.mono ?_
    rintro e w' ⟨he, hb2⟩
    exact ⟨he, h.trans (hb2.mono h.size)⟩
  have hso : ∀ (W w' : World) (A : Option Addr) (cap : Nat), SOwn W.heap.size w' A cap ss → ∀ W', Below w'.heap.size w' W' → SOwn 0 W' A cap ss := fun W w' A cap h W' hb => (h.below hb).base' (Nat.zero_le _)
  have H3 : Hid (∀ W, Below W0.heap.size W0 W → Calls Try.prog 7 #[.agg #[c0, c1, c2, c3, c4, c5, c6, c7, c8, c9, c10, c11, c12, c13]] W (SBoth W0.heap.size W0 ss W)) := fun W h => by
    have h2 := mTables_any hT f hf d S W (hk W h).1 (hk W h).2 hnf
    rw [hc, hss] at h2
    refine h2.mono ?_
    rintro e w' ⟨A, cap, he, hs, hb2⟩
    exact ⟨A, cap, he, hso W w' A cap hs, hb2, h.trans (hb2.mono h.size)⟩
  have H4 : Hid (∀ W, Below W0.heap.size W0 W → Calls Try.prog 8 #[.agg #[c0, c1, c2, c3, c4, c5, c6, c7, c8, c9, c10, c11, c12, c13]] W (SBoth W0.heap.size W0 ss W)) := fun W h => by
    have h2 := rTables_any f hf d S W (hk W h).1 (hk W h).2 hnf
    rw [hc, hss] at h2
    refine h2.mono ?_
    rintro e w' ⟨A, cap, he, hs, hb2⟩
    exact ⟨A, cap, he, hso W w' A cap hs, hb2, h.trans (hb2.mono h.size)⟩
  have H5 : Hid (∀ A1 n1 A2 n2 W, SOwn 0 W A1 n1 ss → SOwn 0 W A2 n2 ss → Calls Try.prog 6 #[.slice A1 ss.length n1, .slice A2 ss.length n2] W fun e w' => e = .returned (.bool true) ∧ Below W.heap.size W w') := fun A1 n1 A2 n2 W h1 h2 => equalS_any ss A1 A2 n1 n2 0 0 W h1 h2 hsl
  have hbd : Below W0.heap.size W0 W0.drew := (Below.refl _ _).drew
  have Hbd := Lib.hid hbd
  have HW0 := Lib.hid hW0
  rw [hc]
  clear hW0 e0 hd hS hn hlen hc hbd hpn hss hk hso hsl
  show Calls _ _ #[.agg #[c0, c1, c2, c3, c4, c5, c6, c7, c8, c9, c10, c11, c12, c13]] _ _
  go_enter Try.func3, Try.ntmps3
  go_upto_region 1 with (fail)
  rw [HW0.out]
  go_cut [2] (fun r wx => r = .bool true ∧ Below W0.heap.size W0 wx)
  case first =>
    go_region_law (first
      | (go_simp; go_at_call 4; refine (H1.out _ ?hh).mono ?_; (case hh => first | exact Hbd.out | exact HbA.out | exact HbB.out | exact HbC.out); rintro e wA ⟨rfl, hbA⟩; have HbA := Lib.hid hbA; obtain ⟨kA0, kA1, kA2, kA3, kA4, kA5, kA6, kA7, kA8, kA9, kA10, kA11, kA12, kA13⟩ := Hl.out wA HbA.out; clear hbA; dsimp only)
      | (go_simp; go_at_call 5; refine (H2.out _ ?hh).mono ?_; (case hh => first | exact Hbd.out | exact HbA.out | exact HbB.out | exact HbC.out); rintro e wB ⟨rfl, hbB⟩; have HbB := Lib.hid hbB; obtain ⟨kB0, kB1, kB2, kB3, kB4, kB5, kB6, kB7, kB8, kB9, kB10, kB11, kB12, kB13⟩ := Hl.out wB HbB.out; clear hbB; dsimp only)
      | (go_simp; go_at_call 7; refine (H3.out _ ?hh).mono ?_; (case hh => first | exact Hbd.out | exact HbA.out | exact HbB.out | exact HbC.out); rintro e wC ⟨AC, cC, rfl, hsC, hcC, hbC⟩; have HsC := Lib.hid hsC; have HcC := Lib.hid hcC; have HbC := Lib.hid hbC; obtain ⟨kC0, kC1, kC2, kC3, kC4, kC5, kC6, kC7, kC8, kC9, kC10, kC11, kC12, kC13⟩ := Hl.out wC HbC.out; clear hbC hsC hcC; dsimp only)
      | (go_simp; go_at_call 8; refine (H4.out _ ?hh).mono ?_; (case hh => first | exact Hbd.out | exact HbA.out | exact HbB.out | exact HbC.out); rintro e wD ⟨AD, cD, rfl, hsD, hcD, hbD⟩; have HsD := Lib.hid hsD; have HcD := Lib.hid hcD; have HbD := Lib.hid hbD; obtain ⟨kD0, kD1, kD2, kD3, kD4, kD5, kD6, kD7, kD8, kD9, kD10, kD11, kD12, kD13⟩ := Hl.out wD HbD.out; clear hbD hsD hcD; dsimp only)
      | (go_simp; go_at_call 6; refine (H5.out _ _ _ _ _ (HsC.out _ HcD.out) (HsD.out _ (Below.refl _ _))).mono ?_; rintro e wE ⟨rfl, hbE⟩; have HbE := Lib.hid (HbD.out.trans (hbE.mono HbD.out.size)); clear hbE; dsimp only))
    all_goals
      go_wp2_with fail
      go_meet
      exact ⟨rfl, HbE.out⟩
  case rest =>
    obtain ⟨rfl, hb1⟩ := hcut
    have Hb1 := Lib.hid hb1
    clear hb1 H1 H2 H3 H4 H5 Hl g0 g1 g2 g3 g4 g5 g6 g7 g8 g9 g10 g11 g12 g13
    go_wp2_with fail
    go_ret
    exact ⟨rfl, hb0.trans (Hb1.out.mono hb0.size)⟩
end Go.Proofs.Ytoeamomklmoncaa
