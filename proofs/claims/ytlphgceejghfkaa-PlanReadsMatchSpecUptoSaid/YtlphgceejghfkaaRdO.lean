/-
  The reference's Reads, walked.
-/
import Derived.Test.YtlphgceejghfkaaRdN
import Derived.Deep.RegionLaw
namespace Go.Proofs.Ytlphgceejghfkaa
open Go.RowKit Go.Sort
theorem reads_step (f : Nat) (hf : f + 1 ≤ 1048576) (hQ : RQ f) (hE : RE f) : RQ (f + 1) := by
  intro d own A cap S w hd hS hro hn
  by_cases h1 : dInt d 0 = 1
  · exact reads_tab f hf hQ hE d own A cap S w hd hS hro hn h1
  · exact reads_not f hf hQ hE d own A cap S w hd hS hn h1
theorem run_loadFrom {P : Program} (w : World) (a : Addr) (cs : List Value) (n : Nat) (hn : cs.length = n) (h : ∀ j u, cs[j]? = some u → w.cell? (a.add j) = some u) : (loadCellsFrom a 0 n #[]).run P w = .ok cs.toArray w := by
  have := run_loadCells_list (P := P) w a cs h
  rw [hn] at this
  exact this
set_option maxRecDepth 100000 in
set_option maxHeartbeats 4000000 in
theorem rReads_step (f : Nat) (hf : f ≤ 1048576) (hQ : RQ f) : RT f := by
  intro d S w hd hS hn
  obtain ⟨_, ⟨TA, tc, d4⟩, dt, _⟩ := hd.relCells
  have hlen := hd.len
  obtain ⟨tl, htl⟩ : ∃ tl, dLen d 4 = tl := ⟨_, rfl⟩
  rw [htl] at d4 dt ⊢
  obtain ⟨c0, c1, c2, c3, c4, c5, c6, c7, c8, c9, c10, c11, c12, c13, hc⟩ := len14 hlen
  have hc4 : c4 = .slice TA tl tc := by rw [hc] at d4; simpa using d4
  subst hc4
  obtain ⟨W0, hW0⟩ : ∃ W0, w.alloc (.cells #[c0, c1, c2, c3, .slice TA tl tc, c5, c6, c7, c8, c9, c10, c11, c12, c13] 34) = W0 := ⟨_, rfl⟩
  have hb0 : Below w.heap.size w W0 := by rw [← hW0]; exact bel1 _ _
  have e0 : W0.heap[w.heap.size]? = some (.cells #[c0, c1, c2, c3, .slice TA tl tc, c5, c6, c7, c8, c9, c10, c11, c12, c13] 34 (0, 0)) := by rw [← hW0]; exact heap_alloc_new w _
  have hz0 : w.heap.size < W0.heap.size := by rw [← hW0]; simp
  have Hl : Hid (∀ w1, Below W0.heap.size W0 w1 → w1.cell? ⟨w.heap.size, 0, none⟩ = some c0 ∧ w1.cell? ⟨w.heap.size, 1, none⟩ = some c1 ∧ w1.cell? ⟨w.heap.size, 2, none⟩ = some c2 ∧ w1.cell? ⟨w.heap.size, 3, none⟩ = some c3 ∧ w1.cell? ⟨w.heap.size, 4, none⟩ = some (.slice TA tl tc) ∧ w1.cell? ⟨w.heap.size, 5, none⟩ = some c5 ∧ w1.cell? ⟨w.heap.size, 6, none⟩ = some c6 ∧ w1.cell? ⟨w.heap.size, 7, none⟩ = some c7 ∧ w1.cell? ⟨w.heap.size, 8, none⟩ = some c8 ∧ w1.cell? ⟨w.heap.size, 9, none⟩ = some c9 ∧ w1.cell? ⟨w.heap.size, 10, none⟩ = some c10 ∧ w1.cell? ⟨w.heap.size, 11, none⟩ = some c11 ∧ w1.cell? ⟨w.heap.size, 12, none⟩ = some c12 ∧ w1.cell? ⟨w.heap.size, 13, none⟩ = some c13) := fun w1 h => by
    have e1 : w1.heap[w.heap.size]? = some (.cells #[c0, c1, c2, c3, .slice TA tl tc, c5, c6, c7, c8, c9, c10, c11, c12, c13] 34 (0, 0)) := (h.block w.heap.size hz0).trans e0
    exact ⟨by rw [cell_of_row _ _ 0 _ _ _ e1]; rfl, by rw [cell_of_row _ _ 1 _ _ _ e1]; rfl, by rw [cell_of_row _ _ 2 _ _ _ e1]; rfl, by rw [cell_of_row _ _ 3 _ _ _ e1]; rfl, by rw [cell_of_row _ _ 4 _ _ _ e1]; rfl, by rw [cell_of_row _ _ 5 _ _ _ e1]; rfl, by rw [cell_of_row _ _ 6 _ _ _ e1]; rfl, by rw [cell_of_row _ _ 7 _ _ _ e1]; rfl, by rw [cell_of_row _ _ 8 _ _ _ e1]; rfl, by rw [cell_of_row _ _ 9 _ _ _ e1]; rfl, by rw [cell_of_row _ _ 10 _ _ _ e1]; rfl, by rw [cell_of_row _ _ 11 _ _ _ e1]; rfl, by rw [cell_of_row _ _ 12 _ _ _ e1]; rfl, by rw [cell_of_row _ _ 13 _ _ _ e1]; rfl⟩
  obtain ⟨g0, g1, g2, g3, g4, g5, g6, g7, g8, g9, g10, g11, g12, g13⟩ := Hl.out W0 (Below.refl _ _)
  have Hall := Lib.hid (rall_any tl W0.drew dt)
  have Hrd : Hid (∀ A1 cap1 w1, Below W0.heap.size W0 w1 → IRow w1 A1 cap1 (upTo tl) → Calls Try.prog 27 #[.agg #[c0, c1, c2, c3, .slice TA tl tc, c5, c6, c7, c8, c9, c10, c11, c12, c13], .slice A1 tl cap1] w1 (RdPost (readsR f d (upTo tl)) w1)) := fun A1 cap1 w1 h hr => by
    have hb1 : Below w.heap.size w w1 := hb0.trans (h.mono (by omega))
    have h2 := hQ d (upTo tl) A1 cap1 S w1 (hd.keep (fun k hk => hb1.block k (hS k hk)) (fun _ h => h)) (fun k hk => Nat.lt_of_lt_of_le (hS k hk) hb1.size) hr hn
    rw [upTo_len, hc] at h2
    exact h2
  have HW0 := Lib.hid hW0
  have hbd : ∀ w1, Below W0.drew.heap.size W0.drew w1 → Below W0.heap.size W0 w1 := fun w1 h => ⟨h.os, h.tape, h.output, h.size, h.block⟩
  have Hbd := Lib.hid hbd
  rw [hc]
  clear hW0 e0 hd hS hn hlen htl d4 hc hbd
  show Calls _ _ #[.agg #[c0, c1, c2, c3, .slice TA tl tc, c5, c6, c7, c8, c9, c10, c11, c12, c13]] _ _
  go_enter Try.func9, Try.ntmps9
  go_upto_region 1 with (fail)
  rw [HW0.out]
  go_region_law (first
    | (go_simp; go_at_call 28; refine Hall.out.mono ?_; rintro e w1 ⟨v1, rfl, hown1, hb1⟩; obtain ⟨A1, cap1, rfl, _, _, _, _⟩ := own_src hown1; rw [nums_eq] at hown1; have Hr1 := Lib.hid (IOwn.of_own hown1).row; clear hown1; have hb2 := Hbd.out w1 hb1; obtain ⟨k0, k1, k2, k3, k4, k5, k6, k7, k8, k9, k10, k11, k12, k13⟩ := Hl.out w1 hb2; dsimp only)
    | (go_simp; go_at_call 27; refine (Hrd.out _ _ _ hb2 Hr1.out).mono ?_; rintro e w2 ⟨v2, xs2, rfl, hown2, hrr2, hb3⟩; have Hown2 := Lib.hid hown2; have Hrr2 := Lib.hid hrr2; clear hown2 hrr2; dsimp only))
  all_goals
    go_wp2_with fail
    go_ret
    exact ⟨_, xs2, rfl, own_base Hown2.out (Nat.le_trans hb0.size hb2.size), Hrr2.out, hb0.trans ((hb2.mono hb0.size).trans (hb3.mono (Nat.le_trans hb0.size hb2.size)))⟩
end Go.Proofs.Ytlphgceejghfkaa
