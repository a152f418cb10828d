/-
  The law: both Reads find the same columns.
-/
import Derived.Test.YtlphgceejghfkaaRdO
import Derived.Test.YtlphgceejghfkaaRdJ
import Derived.Deep.DeepCutAuto
import Derived.StillTailTactics
import Derived.Test.YtlphgceejghfkaaStill
namespace Go.Proofs.Ytlphgceejghfkaa
open Go.RowKit Go.Sort
theorem ref_all : ∀ f, f ≤ 1048576 → RQ f ∧ RE f
  | 0, _ => ⟨fun d own A cap S w hd hS hro hn => by have := d.n_pos; omega, fun e S w he hS hn => by have := e.n_pos; omega⟩
  | f + 1, hf => by
    obtain ⟨hQ, hE⟩ := ref_all f (by omega)
    exact ⟨reads_step f hf hQ hE, readsIn_step f hf hE (rReads_step f (by omega) hQ)⟩
theorem SrcAt.below {w w' : World} {A : Option Addr} {xs : List Value} (h : SrcAt w A xs) (hb : Below w.heap.size w w') : SrcAt w' A xs := by
  rcases h with h | ⟨ad, e, h⟩
  · exact .inl h
  · refine .inr ⟨ad, e, fun j u hu => ?_⟩
    have h1 := h j u hu
    exact (hb.cell (cell_lt h1)).trans h1
theorem Below.ofDrewN (w : World) (q : Nat) : Below w.heap.size w (w.drewN q) := by
  have := below_drewN (Below.refl w.heap.size w) q
  exact this
/-- slices.Equal of the same numbers. -/
theorem equalI_any (l : List Int) (A1 A2 : Option Addr) (n1 n2 : Nat) (w : World) (h1 : IRow w A1 n1 l) (h2 : IRow w A2 n2 l) :
    Calls Try.prog 10 #[.slice A1 l.length n1, .slice A2 l.length n2] w fun e w' => e = .returned (.bool true) ∧ Below w.heap.size w w' := by
  have hb := Nat.le_trans h1.1 h1.2.1
  unfold maxLen at hb
  cases l with
  | nil =>
    refine (Try.slices_Equal_int_empty A1 A2 n1 0 n2 w (by omega)).mono ?_
    rintro e w' ⟨rfl, rfl⟩
    exact ⟨by simp, Below.refl _ _⟩
  | cons k l =>
    obtain ⟨g1, _, _, rfl, _, _⟩ := h1.2.2 0 k rfl
    obtain ⟨g2, _, _, rfl, _, _⟩ := h2.2.2 0 k rfl
    have hc : ∀ (g n : Nat), IRow w (some ⟨g, 0, none⟩) n (k :: l) → ∀ j, j < (k :: l).length → w.cell? ⟨g, 0 + j, none⟩ = some (.int .i64 ((k :: l).getD j 0)) := fun g n h j hj => by
      obtain ⟨g', _, _, e, _, hc⟩ := h.2.2 j _ (List.getElem?_eq_getElem hj)
      cases e
      rw [Nat.zero_add, hc]
      simp [List.getD, List.getElem?_eq_getElem hj]
    refine (Try.slices_Equal_int g1 0 (k :: l).length n1 g2 0 (k :: l).length n2 (k :: l) (k :: l) w (Nat.le_refl _) (Nat.le_refl _) hb hb (hc g1 n1 h1) (hc g2 n2 h2)).mono ?_
    rintro e w' ⟨rfl, q, rfl⟩
    exact ⟨by simp, Below.ofDrewN w q⟩
/-- What both hand back, in a world that came out of W0. -/
def Both (B : Nat) (W0 : World) (L : List (List Int)) (W : World) (e : Ending) (w' : World) : Prop := ∃ (A : Option Addr) (cap : Nat) (xs : List Value), e = .returned (.slice A L.length cap) ∧ SrcAt w' A xs ∧ RR w' xs L ∧ Below W.heap.size W w' ∧ Below B W0 w'
def LawPost (w : World) (e : Ending) (w' : World) : Prop := e = .returned (.bool true) ∧ Below w.heap.size w w'
set_option maxRecDepth 100000 in
set_option maxHeartbeats 8000000 in
theorem law_any (d : DT) (S : Nat → Prop) (w : World) (hd : DT.In S w .rel d) (hS : ∀ k, S k → k < w.heap.size) (hn : d.n ≤ 1048576) :
    Calls Try.prog 4 #[.agg d.c.toArray] w (LawPost w) := by
  have hlen := hd.len
  obtain ⟨f, hf, hnf⟩ : ∃ f, f ≤ 1048576 ∧ d.n ≤ f := ⟨d.n, hn, Nat.le_refl _⟩
  obtain ⟨L, hL⟩ : ∃ L, readsR f d (upTo (dLen d 4)) = L := ⟨_, rfl⟩
  have hLn : L.length ≤ 1048576 := by rw [← hL]; have := (reads_len f).1 d (upTo (dLen d 4)); omega
  obtain ⟨c0, c1, c2, c3, c4, c5, c6, c7, c8, c9, c10, c11, c12, c13, hc⟩ := len14 hlen
  obtain ⟨W0, hW0⟩ : ∃ W0, w.alloc (.cells #[c0, c1, c2, c3, c4, c5, c6, c7, c8, c9, c10, c11, c12, c13] 34) = W0 := ⟨_, rfl⟩
  have hb0 : Below w.heap.size w W0 := by rw [← hW0]; exact bel1 _ _
  have e0 : W0.heap[w.heap.size]? = some (.cells #[c0, c1, c2, c3, c4, c5, c6, c7, c8, c9, c10, c11, c12, c13] 34 (0, 0)) := by rw [← hW0]; exact heap_alloc_new w _
  have hz0 : w.heap.size < W0.heap.size := by rw [← hW0]; simp
  have Hl : Hid (∀ w1, Below W0.heap.size W0 w1 → w1.cell? ⟨w.heap.size, 0, none⟩ = some c0 ∧ w1.cell? ⟨w.heap.size, 1, none⟩ = some c1 ∧ w1.cell? ⟨w.heap.size, 2, none⟩ = some c2 ∧ w1.cell? ⟨w.heap.size, 3, none⟩ = some c3 ∧ w1.cell? ⟨w.heap.size, 4, none⟩ = some c4 ∧ w1.cell? ⟨w.heap.size, 5, none⟩ = some c5 ∧ w1.cell? ⟨w.heap.size, 6, none⟩ = some c6 ∧ w1.cell? ⟨w.heap.size, 7, none⟩ = some c7 ∧ w1.cell? ⟨w.heap.size, 8, none⟩ = some c8 ∧ w1.cell? ⟨w.heap.size, 9, none⟩ = some c9 ∧ w1.cell? ⟨w.heap.size, 10, none⟩ = some c10 ∧ w1.cell? ⟨w.heap.size, 11, none⟩ = some c11 ∧ w1.cell? ⟨w.heap.size, 12, none⟩ = some c12 ∧ w1.cell? ⟨w.heap.size, 13, none⟩ = some c13) := fun w1 h => by
    have e1 : w1.heap[w.heap.size]? = some (.cells #[c0, c1, c2, c3, c4, c5, c6, c7, c8, c9, c10, c11, c12, c13] 34 (0, 0)) := (h.block w.heap.size hz0).trans e0
    exact ⟨by rw [cell_of_row _ _ 0 _ _ _ e1]; rfl, by rw [cell_of_row _ _ 1 _ _ _ e1]; rfl, by rw [cell_of_row _ _ 2 _ _ _ e1]; rfl, by rw [cell_of_row _ _ 3 _ _ _ e1]; rfl, by rw [cell_of_row _ _ 4 _ _ _ e1]; rfl, by rw [cell_of_row _ _ 5 _ _ _ e1]; rfl, by rw [cell_of_row _ _ 6 _ _ _ e1]; rfl, by rw [cell_of_row _ _ 7 _ _ _ e1]; rfl, by rw [cell_of_row _ _ 8 _ _ _ e1]; rfl, by rw [cell_of_row _ _ 9 _ _ _ e1]; rfl, by rw [cell_of_row _ _ 10 _ _ _ e1]; rfl, by rw [cell_of_row _ _ 11 _ _ _ e1]; rfl, by rw [cell_of_row _ _ 12 _ _ _ e1]; rfl, by rw [cell_of_row _ _ 13 _ _ _ e1]; rfl⟩
  obtain ⟨g0, g1, g2, g3, g4, g5, g6, g7, g8, g9, g10, g11, g12, g13⟩ := Hl.out W0 (Below.refl _ _)
  have Hp : Hid (∀ W, Below W0.heap.size W0 W → Calls Try.prog 8 #[.agg #[c0, c1, c2, c3, c4, c5, c6, c7, c8, c9, c10, c11, c12, c13]] W (Both W0.heap.size W0 L W)) := fun W h => by
    have hb : Below w.heap.size w W := hb0.trans (h.mono (by omega))
    have h2 := pReads_any f hf d S W (hd.keep (fun k hk => hb.block k (hS k hk)) (fun _ h => h)) (fun k hk => Nat.lt_of_lt_of_le (hS k hk) hb.size) hnf
    rw [hc, hL] at h2
    refine h2.mono ?_
    rintro e w' ⟨A, cap, xs, he, hs, hr, hb2⟩
    exact ⟨A, cap, xs, he, hs, hr, hb2, h.trans (hb2.mono h.size)⟩
  have Hr : Hid (∀ W, Below W0.heap.size W0 W → Calls Try.prog 9 #[.agg #[c0, c1, c2, c3, c4, c5, c6, c7, c8, c9, c10, c11, c12, c13]] W (Both W0.heap.size W0 L W)) := fun W h => by
    have hb : Below w.heap.size w W := hb0.trans (h.mono (by omega))
    have h2 := rReads_step f hf (ref_all f hf).1 d S W (hd.keep (fun k hk => hb.block k (hS k hk)) (fun _ h => h)) (fun k hk => Nat.lt_of_lt_of_le (hS k hk) hb.size) hnf
    rw [hc, hL] at h2
    refine h2.mono ?_
    rintro e w' ⟨v, xs, he, hown, hr, hb2⟩
    obtain ⟨A, cap, hv, hsrc, _, _, _⟩ := own_src hown
    exact ⟨A, cap, xs, by rw [he, hv], hsrc, hr, hb2, h.trans (hb2.mono h.size)⟩
  have hbd : Below W0.heap.size W0 W0.drew := (Below.refl _ _).drew
  have Hbd := Lib.hid hbd
  have HW0 := Lib.hid hW0
  rw [hc]
  clear hW0 e0 hd hS hn hlen hc hbd hL
  show Calls _ _ #[.agg #[c0, c1, c2, c3, c4, c5, c6, c7, c8, c9, c10, c11, c12, c13]] _ _
  go_enter Try.func4, Try.ntmps4
  go_upto_region 1 with (fail)
  rw [HW0.out]
  go_cut [3, 4] (fun a b wx => ∃ (A A' : Option Addr) (cap cap' : Nat) (xs ys : List Value), a = .slice A L.length cap ∧ b = .slice A' L.length cap' ∧ SrcAt wx A xs ∧ RR wx xs L ∧ SrcAt wx A' ys ∧ RR wx ys L ∧ Below W0.heap.size W0 wx)
  case first =>
    go_region_law (first
      | (go_simp; go_at_call 8; refine (Hp.out _ ?hh).mono ?_; (case hh => first | exact Hbd.out | exact HbR.out); rintro e wp ⟨Ap, capp, xsp, rfl, hsp, hrp, hbp, hbP⟩; have HbP := Lib.hid hbP; obtain ⟨k0, k1, k2, k3, k4, k5, k6, k7, k8, k9, k10, k11, k12, k13⟩ := Hl.out wp hbP; clear hbP; dsimp only)
      | (go_simp; go_at_call 9; refine (Hr.out _ ?hh).mono ?_; (case hh => first | exact Hbd.out | exact HbP.out); rintro e wr ⟨Ar, capr, xsr, rfl, hsr, hrr, hbr, hbR⟩; have HbR := Lib.hid hbR; obtain ⟨m0, m1, m2, m3, m4, m5, m6, m7, m8, m9, m10, m11, m12, m13⟩ := Hl.out wr hbR; clear hbR; dsimp only))
    all_goals
      go_wp2_with fail
      go_meet
      first
        | exact ⟨Ap, Ar, capp, capr, xsp, xsr, rfl, rfl, hsp.below hbr, hrp.keep (KeepI.below hbr), hsr, hrr, HbR.out⟩
        | exact ⟨Ap, Ar, capp, capr, xsp, xsr, rfl, rfl, hsp, hrp, hsr.below hbp, hrr.keep (KeepI.below hbp), HbP.out⟩
  case rest =>
    obtain ⟨A, A', cap, cap', xs, ys, rfl, rfl, hs1, hr1, hs2, hr2, hb1⟩ := hcut
    obtain ⟨ll, hll⟩ : ∃ n, L.length = n := ⟨_, rfl⟩
    rw [hll]
    have Hll := Lib.hid hll
    have hll2 : ll ≤ 1048576 := by omega
    have Hs1 := Lib.hid hs1
    have Hs2 := Lib.hid hs2
    have Hr1 := Lib.hid hr1
    have Hr2 := Lib.hid hr2
    have Hb1 := Lib.hid hb1
    clear hll hs1 hs2 hr1 hr2 hb1 hLn Hp Hr Hl g0 g1 g2 g3 g4 g5 g6 g7 g8 g9 g10 g11 g12 g13
    go_wp2_with fail
    go_loopw [17] (fun i wr => ∃ j : Nat, j ≤ ll ∧ i = .int .i64 j ∧ Below wc.heap.size wc wr) (fun i _ => ll - (intOf i).toNat)
    case atStart => exact ⟨0, Nat.zero_le _, rfl, Below.refl _ _⟩
    case round =>
      obtain ⟨j, hj, rfl, hb⟩ := hrel
      by_cases hlt : j < ll
      · have hjL : j < L.length := by rw [Hll.out]; exact hlt
        obtain ⟨A1, n1, hx1, hi1⟩ := Hr1.out.2 j _ (List.getElem?_eq_getElem hjL)
        obtain ⟨A2, n2, hy1, hi2⟩ := Hr2.out.2 j _ (List.getElem?_eq_getElem hjL)
        obtain ⟨ad, hA, hc1⟩ : ∃ ad, A = some ad ∧ wr.cell? (ad.add j) = some (.slice A1 (L[j]).length n1) := by
          rcases Hs1.out with h | ⟨ad, e, h⟩
          · rw [h] at hx1; cases hx1
          · have h1 := h j _ hx1
            exact ⟨ad, e, (hb.cell (cell_lt h1)).trans h1⟩
        obtain ⟨ad2, hA2, hc2⟩ : ∃ ad, A' = some ad ∧ wr.cell? (ad.add j) = some (.slice A2 (L[j]).length n2) := by
          rcases Hs2.out with h | ⟨ad, e, h⟩
          · rw [h] at hy1; cases hy1
          · have h1 := h j _ hy1
            exact ⟨ad, e, (hb.cell (cell_lt h1)).trans h1⟩
        subst hA
        subst hA2
        have Heq := Lib.hid (equalI_any L[j] A1 A2 n1 n2 wr.drew (hi1.keep ((KeepI.below hb).trans (fun _ _ _ _ => rfl))) (hi2.keep ((KeepI.below hb).trans (fun _ _ _ _ => rfl))))
        obtain ⟨el, hel⟩ : ∃ n, (L[j]).length = n := ⟨_, rfl⟩
        rw [hel] at Heq hc1 hc2
        clear hx1 hy1 hi1 hi2 hel hjL
        go_wp2_with fail
        (generalize hA0 : Act.mk _ _ = A0; refine wp_region_still_tail 8 (by kernel_rfl) (by kernel_rfl) ?_; simp only [List.take_succ_cons, List.take_zero, List.drop_succ_cons, List.drop_zero]; (iterate 8 (refine st_want (by rw [← hA0]; rfl) (fun K hK => ?_); subst hA0; go_simp; generalize hA0 : Act.mk _ _ = A0; refine hK A0 ?_; clear hK K)); refine wpStill_nil ?_; subst hA0)
        change wpList _ _ _ _ _ wr.drew
        go_wp2_with fail
        refine Heq.out.mono ?_
        rintro e w9 ⟨rfl, hb9⟩
        have Hst : Hid (Below wc.heap.size wc w9) := hb.drew.trans (hb9.mono hb.size)
        go_wp2_with fail
        go_roundw
        case rel => exact ⟨j + 1, by omega, by go_num, Hst.out⟩
        case measure => simp [intOf]; omega
      · go_wp2_with fail
        go_ret
        exact ⟨rfl, hb0.trans ((Hb1.out.mono hb0.size).trans (hb.mono (Nat.le_trans hb0.size Hb1.out.size)))⟩
end Go.Proofs.Ytlphgceejghfkaa
