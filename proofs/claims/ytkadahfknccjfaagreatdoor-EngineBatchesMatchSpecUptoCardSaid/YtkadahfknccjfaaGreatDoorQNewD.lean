/-
  Package engine: newVector at lists and records.
-/
import Derived.Test.YtkadahfknccjfaaGreatDoorQNewAa
import Derived.BigRegion
import Derived.Deep.RegionLaw
import Derived.Deep.AppendLies
namespace Go.Proofs.YtkadahfknccjfaaGreatDoor
open Go.RowKit
set_option maxRecDepth 100000 in
set_option maxHeartbeats 4000000 in
theorem enewVector_v (k sc : Int) (A A2 : Option Addr) (fl cap size cap2 nw : Nat) (w : World) (l : List VT) (B : Nat) (hr : VT.Row B w A2 cap2 l) (hB : B ≤ w.heap.size) (hlen : l.length = size) (hk2 : kindS k = 6) (hs : size ≤ 1024) (hnw : (size + 63) / 64 = nw) (hin : ∀ x, x ∈ l → VT.In B w x ∧ VT.Sml x) :
    Calls Tryz.prog 38 #[.agg #[.int .i64 k, .int .i64 sc, .slice A fl cap], .slice A2 size cap2] w (NvPost k sc A fl cap nw size l (RV l (w.heap.size + 4)) w) := by
  obtain ⟨i0, hi, iz, isz, iby⟩ := info_parts infoU64
  obtain ⟨i1, hi1, iz1, isz1, iby1⟩ := info_parts infoValue
  have hnw1 : (((size : Int) + 64 - 1) / 64) = (nw : Int) := by omega
  have hnw2 : nw ≤ 16 := by omega
  obtain ⟨Z, hZ⟩ : ∃ Z, madeCells (Value.cells (.int .u64 0)) (nw * i0.size) = Z := ⟨_, rfl⟩
  have hmk : ∀ W : World, (Instr.makeSlice 51 (.int .i64 (nw : Int)) (.int .i64 (nw : Int))).run Tryz.prog W = .ok (.slice (some ⟨W.heap.size, 0, none⟩) nw nw) (W.alloc (.cells Z 66)) := fun W => by
    have := run_makeSlice W 51 66 i0 (.int .u64 0) Tryz.underlying51 hi iz .i64 .i64 (nw : Int) (nw : Int) (by omega) (by omega) (by rw [isz]; simp; omega) (by rw [iby]; omega) (by omega)
    simp only [Int.toNat_natCast] at this
    rw [hZ] at this
    exact this
  have hw1 : IntKind.i64.wrap ((size : Int) + 64) = (size : Int) + 64 := wrap_small _ (by omega) (by omega)
  have hw2 : IntKind.i64.wrap ((size : Int) + 64 - 1) = (size : Int) + 64 - 1 := wrap_small _ (by omega) (by omega)
  have hw3 : ((size : Int) + 64 - 1).tdiv 64 = (nw : Int) := by rw [Int.tdiv_eq_ediv_of_nonneg (by omega)]; exact hnw1
  have HZ := Lib.hid hZ
  have Hr := Lib.hid hr
  have Hlen := Lib.hid hlen
  have Hk2 := Lib.hid hk2
  have Hin := Lib.hid hin
  clear hnw hZ hr hlen hk2 hin
  go_enter Tryz.func38, Tryz.ntmps38
  go_wp2
  go_region
  case _ =>
    go_wp2
    generalize hW0 : World.drew _ = W0
    obtain ⟨vb, hvb⟩ : ∃ n, w.heap.size + 1 + 1 + 1 = n := ⟨_, rfl⟩
    obtain ⟨nb, hnb⟩ : ∃ n, w.heap.size + 1 + 1 = n := ⟨_, rfl⟩
    simp only [hvb]
    simp only [hnb]
    have Htt : Hid (∀ W, Below (w.heap.size + 2) W0 W → W.cell? ⟨w.heap.size, 0, none⟩ = some (.int .i64 k) ∧ W.cell? ⟨w.heap.size, 1, none⟩ = some (.int .i64 sc) ∧ W.cell? ⟨w.heap.size, 2, none⟩ = some (.slice A fl cap)) := fun W h => by
      have e : W0.heap[w.heap.size]? = some (.cells #[.int .i64 k, .int .i64 sc, .slice A fl cap] 50 (0, 0)) := by
        rw [← hW0]
        show (World.alloc _ _).heap[w.heap.size]? = _
        rw [Below.heap_alloc _ _ _ (by simp; omega), Below.heap_alloc _ _ _ (by simp; omega), Below.heap_alloc _ _ _ (by simp)]
        exact heap_alloc_new w _
      have Q0 := (h.block w.heap.size (by omega)).trans e
      exact ⟨cell_of_row W w.heap.size 0 _ _ _ Q0, cell_of_row W w.heap.size 1 _ _ _ Q0, cell_of_row W w.heap.size 2 _ _ _ Q0⟩
    have Hz0 : Hid (W0.heap.size = w.heap.size + 4) := by show _ = _; rw [← hW0]; simp [World.drew]
    have Hb0 : Hid (Below w.heap.size w W0) := by rw [← hW0]; exact (((((Below.refl _ _).alloc (by simp) _).alloc (by simp) _).alloc (by simp; omega) _).alloc (by simp; omega) _).drew
    have HW0 := Lib.hid hW0
    clear hW0
    go_loopw [18] (fun i wr => NvRel k sc A fl cap (w.heap.size + 2) W0 vb nb nw l size (RV l (w.heap.size + 4)) i wr) (fun i _ => size - (intOf i).toNat)
    case atStart =>
      refine ⟨0, List.replicate nw 0, .slice none 0 0, .slice none 0 0, .slice none 0 0, Nat.zero_le _, rfl, BitsOf.zero l nw, ⟨?_, ?_, by simp, by omega⟩, Below.refl _ _, RV.nil _ _ _⟩
      · rw [← HW0.out, ← hvb, ← hnb]
        show (World.alloc _ _).heap[_]? = _
        first | exact blk_new _ _ _ (by simp) | exact (Below.heap_alloc _ _ _ (by simp)).trans (blk_new _ _ _ (by simp))
      · rw [← zero_words (Z := Z) (by rw [← HZ.out, isz, Nat.mul_one]), ← HW0.out, ← hnb]
        show (World.alloc _ _).heap[_]? = _
        first | exact blk_new _ _ _ (by simp) | exact (Below.heap_alloc _ _ _ (by simp)).trans (blk_new _ _ _ (by simp))
    case round =>
      obtain ⟨j, ws, r2, r3, r4, hj, rfl, hbits, hv, hb, hR⟩ := hrel
      have hSr : Same B w wr := (Same.mono (Same.of_below Hb0.out) hB).trans (Same.mono (Same.of_below hb) (by omega))
      have hzr : w.heap.size + 4 ≤ wr.heap.size := by rw [← Hz0.out]; exact hb.size
      have Hrl := Lib.hid hR.lt4
      by_cases hlt : j < size
      · obtain ⟨x, ad, hx, rfl, hbx, d0, d1, d2, d3, d4⟩ := (Hr.out.keep hSr).get (show j < l.length by rw [Hlen.out]; exact hlt)
        obtain ⟨o1, ho1⟩ : ∃ o1, Obj.cells #[.int .i64 x.a.k, .int .i64 x.a.n, .int .i64 x.a.sc, .string x.a.s, .slice x.a.A x.l.length x.a.cap] 61 = o1 := ⟨_, rfl⟩
        obtain ⟨W1, hW1⟩ : ∃ W1, wr.alloc o1 = W1 := ⟨_, rfl⟩
        have hbW1 : Below wr.heap.size wr W1 := by rw [← hW1]; exact bel1 _ _
        have hzW1 : W1.heap.size = wr.heap.size + 1 := by rw [← hW1]; simp
        have hv1 := hv.keep (hbW1.block vb (by omega)) (hbW1.block nb (by omega))
        have hx1 : W1.heap[wr.heap.size]? = some (.cells #[.int .i64 x.a.k, .int .i64 x.a.n, .int .i64 x.a.sc, .string x.a.s, .slice x.a.A x.l.length x.a.cap] 61 (0, 0)) := by rw [← hW1, ← ho1]; exact heap_alloc_new wr _
        have HW1 := Lib.hid hW1
        have Ho1 := Lib.hid ho1
        clear hW1 ho1
        by_cases hnull : x.a.k = 0
        · rw [hnull] at d0
          have Ho1' := Lib.hid (by rw [← hnull]; exact Ho1.out : Obj.cells #[.int .i64 0, .int .i64 x.a.n, .int .i64 x.a.sc, .string x.a.s, .slice x.a.A x.l.length x.a.cap] 61 = o1)
          have hq : j / 64 < nw := by omega
          obtain ⟨_, _, _, c3, _⟩ := hv1.cells
          obtain ⟨cn, fn⟩ := hv1.word hq
          obtain ⟨c, hc⟩ : ∃ c, ws.getD (j / 64) 0 = c := ⟨_, rfl⟩
          rw [hc] at cn
          obtain ⟨ws2, hbits2, hv2⟩ := hv1.bit hq hbits (by rw [nulAt_of hx, hnull]; rfl) c hc
          obtain ⟨W2, hW2⟩ : ∃ W2, (W1.setCell ⟨nb, j / 64, none⟩ (.int .u64 (bits .or .u64 (c : Int) (IntKind.u64.wrap (2 ^ (j % 64)))))).drew = W2 := ⟨_, rfl⟩
          have hz2 : W2.heap.size = wr.heap.size + 1 := by rw [← hW2, ← hzW1]; simp [World.setCell, World.drew]
          have ho2 : ∀ q, q ≠ nb → W2.heap[q]? = W1.heap[q]? := fun q hq => by rw [← hW2]; exact Deep.blk_setCell_other _ _ _ _ hq
          have hbB : Below (w.heap.size + 2) W0 W2 := by rw [← hW2]; exact ((hb.trans (hbW1.mono (by omega))).setCell (by simp; omega) _).drew
          replace hv2 : NvW k sc A fl cap vb nb nw ws2 r2 r3 r4 W2 := by rw [← hW2]; exact ⟨hv2.v, hv2.n, hv2.l, hv2.ne⟩
          have hR2 : RV l (w.heap.size + 4) j r2 r3 r4 W2 := hR.keep (fun q h1 h2 => (ho2 q (by omega)).trans (hbW1.block q h2)) (by omega)
          have hx2 := (ho2 wr.heap.size (by omega)).trans hx1
          have HW2 := Lib.hid hW2
          have t1 : ((j : Int)).tdiv 64 = ((j / 64 : Nat) : Int) := by rw [Int.tdiv_eq_ediv_of_nonneg (by omega)]; omega
          have t2 : ((j : Int)).tmod 64 = ((j % 64 : Nat) : Int) := by rw [Int.tmod_eq_emod_of_nonneg (by omega)]; omega
          have Hv2 := Lib.hid hv2
          have Hx2 := Lib.hid hx2
          have HR2 := Lib.hid hR2
          clear hSr hv hv1 hx1 hR hbits hv2 hx2 hR2 hc ho2 hW2
          go_wp2
          rw [Ho1'.out, HW1.out]
          go_region
          rw [HW2.out]
          clear c3 cn fn d0 d1 d2 d3 d4
          obtain ⟨tt0, tt1, tt2⟩ := Htt.out W2 hbB
          have hkd := Lib.hid (ekind_any k sc A fl cap W2)
          go_wp2_with fail
          refine hkd.out.mono ?_
          rintro e w3 ⟨rfl, hb3⟩
          rw [Hk2.out]
          clear tt0 tt1 tt2
          try clear hnull
          have hz3 := hb3.size
          have hv3 := Hv2.out.keep (hb3.block vb (by omega)) (hb3.block nb (by omega))
          obtain ⟨u, hul, hown, husm, huin, hr2, hr3⟩ := HR2.out
          have hown3 := own_below hown hb3
          have hlt3 := hown3.lt
          have e1 := (hb3.block wr.heap.size (by omega)).trans Hx2.out
          have Hxin := Lib.hid (Hin.out x (mem_of_get? hx))
          have hkS : Hid (∀ W, Below w3.heap.size w3 W → W.cell? ⟨vb, 6, none⟩ = some r4 ∧ W.frozen? ⟨vb, 6, none⟩ = false ∧ W.cell? ⟨wr.heap.size, 0, none⟩ = some (.int .i64 x.a.k) ∧ W.cell? ⟨wr.heap.size, 1, none⟩ = some (.int .i64 x.a.n) ∧ W.cell? ⟨wr.heap.size, 2, none⟩ = some (.int .i64 x.a.sc) ∧ W.cell? ⟨wr.heap.size, 3, none⟩ = some (.string x.a.s) ∧ W.cell? ⟨wr.heap.size, 4, none⟩ = some (.slice x.a.A x.l.length x.a.cap)) := fun W h => by
            have Q := (h.block wr.heap.size (by omega)).trans e1
            obtain ⟨_, _, _, _, _, _, c6, _, _, f6⟩ := (hv3.keep (h.block vb (by omega)) (h.block nb (by omega))).cells
            exact ⟨c6, f6, cell_of_row W wr.heap.size 0 _ _ _ Q, cell_of_row W wr.heap.size 1 _ _ _ Q, cell_of_row W wr.heap.size 2 _ _ _ Q, cell_of_row W wr.heap.size 3 _ _ _ Q, cell_of_row W wr.heap.size 4 _ _ _ Q⟩
          have hk4 : ∀ wx o w4, Below w3.heap.size w3 wx → (wx.alloc o).grownBy w4 r4.ownBlock → NvW k sc A fl cap vb nb nw ws2 r2 r3 r4 w4 ∧ Below (w.heap.size + 2) W0 w4 ∧ w4.heap[wr.heap.size]? = w3.heap[wr.heap.size]? := fun wx o w4 hbx hg => by
            have hzx := hbx.size
            have hne : ∀ q, q < w.heap.size + 4 → some q ≠ r4.ownBlock := fun q hq e => by have := (hlt3 q e.symm).1; omega
            have hkk : ∀ q, q < w3.heap.size → some q ≠ r4.ownBlock → w4.heap[q]? = w3.heap[q]? := fun q hq hqn => ((hg.block q (by simp; omega) hqn).trans (Below.heap_alloc wx o q (by omega))).trans (hbx.block q hq)
            refine ⟨hv3.keep (hkk vb (by omega) (hne vb (by omega))) (hkk nb (by omega) (hne nb (by omega))), ⟨hg.os.trans (hbx.os.trans (hb3.os.trans hbB.os)), hg.tape.trans (hbx.tape.trans (hb3.tape.trans hbB.tape)), hg.output.trans (hbx.output.trans (hb3.output.trans hbB.output)), by have := hg.size; have := hbB.size; simp at *; omega, fun q hq => ?_⟩, hkk _ (by omega) (fun e => by have := Hrl.out _ e.symm; omega)⟩
            rw [hkk q (by omega) (hne q (by omega)), hb3.block q (by omega), hbB.block q hq]
          have Hst : Hid (∀ wx o W, Below w3.heap.size w3 wx → (wx.alloc o).grownBy W r4.ownBlock → W.cell? ⟨vb, 6, none⟩ = some r4 ∧ W.frozen? ⟨vb, 6, none⟩ = false ∧ W.cell? ⟨wr.heap.size, 0, none⟩ = some (.int .i64 x.a.k) ∧ W.cell? ⟨wr.heap.size, 1, none⟩ = some (.int .i64 x.a.n) ∧ W.cell? ⟨wr.heap.size, 2, none⟩ = some (.int .i64 x.a.sc) ∧ W.cell? ⟨wr.heap.size, 3, none⟩ = some (.string x.a.s) ∧ W.cell? ⟨wr.heap.size, 4, none⟩ = some (.slice x.a.A x.l.length x.a.cap)) := fun wx o W hbx hg => by
            obtain ⟨q1, _, q3⟩ := hk4 wx o W hbx hg
            obtain ⟨_, _, _, _, _, _, c6, _, _, f6⟩ := q1.cells
            have Q := q3.trans e1
            exact ⟨c6, f6, cell_of_row W wr.heap.size 0 _ _ _ Q, cell_of_row W wr.heap.size 1 _ _ _ Q, cell_of_row W wr.heap.size 2 _ _ _ Q, cell_of_row W wr.heap.size 3 _ _ _ Q, cell_of_row W wr.heap.size 4 _ _ _ Q⟩
          have hkA : Hid (∀ wx o, Below w3.heap.size w3 wx → (fun W : World => W.cell? ⟨vb, 6, none⟩ = some r4 ∧ W.frozen? ⟨vb, 6, none⟩ = false ∧ W.cell? ⟨wr.heap.size, 0, none⟩ = some (.int .i64 x.a.k) ∧ W.cell? ⟨wr.heap.size, 1, none⟩ = some (.int .i64 x.a.n) ∧ W.cell? ⟨wr.heap.size, 2, none⟩ = some (.int .i64 x.a.sc) ∧ W.cell? ⟨wr.heap.size, 3, none⟩ = some (.string x.a.s) ∧ W.cell? ⟨wr.heap.size, 4, none⟩ = some (.slice x.a.A x.l.length x.a.cap)) (wx.alloc o)) := fun wx o h => hkS.out _ (h.alloc h.size o)
          have hS3 : ∀ W, Below w3.heap.size w3 W → Same B w W := fun W h => ((Same.mono (Same.of_below Hb0.out) hB).trans (Same.mono (Same.of_below hbB) (by omega))).trans ((Same.mono (Same.of_below hb3) (by omega)).trans (Same.mono (Same.of_below h) (by omega)))
          have hcp : Hid (∀ W, Below w3.heap.size w3 W → Calls Tryz.prog 35 #[.agg #[.int .i64 x.a.k, .int .i64 x.a.n, .int .i64 x.a.sc, .string x.a.s, .slice x.a.A x.l.length x.a.cap]] W fun e w' => ∃ y : VT, e = .returned (.agg #[.int .i64 y.a.k, .int .i64 y.a.n, .int .i64 y.a.sc, .string y.a.s, .slice y.a.A y.l.length y.a.cap]) ∧ Below w3.heap.size w3 w' ∧ VT.InS (New w3.heap.size w') w' y ∧ VT.Sm x y ∧ w'.cell? ⟨vb, 6, none⟩ = some r4 ∧ w'.frozen? ⟨vb, 6, none⟩ = false ∧ ∀ o, (w'.alloc o).cell? ⟨vb, 6, none⟩ = some r4) := fun W h =>
            (vCopy_any x B W (Hxin.out.1.keep (hS3 W h)) (by have := h.size; omega) Hxin.out.2).mono fun e w' ⟨y, he, hb, hy, hxy⟩ => ⟨y, he, h.trans (hb.mono h.size), hy.keep (fun _ _ => rfl) (fun q hq => ⟨by have := hq.1; have := h.size; omega, hq.2⟩), hxy, (hkS.out w' (h.trans (hb.mono h.size))).1, (hkS.out w' (h.trans (hb.mono h.size))).2.1, fun o => (hkA.out w' o (h.trans (hb.mono h.size))).1⟩
          have hownX : Hid (∀ wx, Below w3.heap.size w3 wx → wx.ownsRow (w.heap.size + 4) 61 5 r4 j (u.flatMap vCells)) := fun wx h => own_below hown3 h
          have hkE : Hid (∀ (W : World) (u : Value), (W.cell? ⟨wr.heap.size, 0, none⟩ = some (.int .i64 x.a.k) ∧ W.cell? ⟨wr.heap.size, 1, none⟩ = some (.int .i64 x.a.n) ∧ W.cell? ⟨wr.heap.size, 2, none⟩ = some (.int .i64 x.a.sc) ∧ W.cell? ⟨wr.heap.size, 3, none⟩ = some (.string x.a.s) ∧ W.cell? ⟨wr.heap.size, 4, none⟩ = some (.slice x.a.A x.l.length x.a.cap)) → (fun W : World => W.cell? ⟨wr.heap.size, 0, none⟩ = some (.int .i64 x.a.k) ∧ W.cell? ⟨wr.heap.size, 1, none⟩ = some (.int .i64 x.a.n) ∧ W.cell? ⟨wr.heap.size, 2, none⟩ = some (.int .i64 x.a.sc) ∧ W.cell? ⟨wr.heap.size, 3, none⟩ = some (.string x.a.s) ∧ W.cell? ⟨wr.heap.size, 4, none⟩ = some (.slice x.a.A x.l.length x.a.cap)) (W.setCell ⟨vb, 6, none⟩ u)) := fun W u h => by
            have hz : ∀ i, (W.setCell ⟨vb, 6, none⟩ u).cell? ⟨wr.heap.size, i, none⟩ = W.cell? ⟨wr.heap.size, i, none⟩ := fun i => World.cell?_of_block (Deep.blk_setCell_other _ _ _ _ (by simp; omega))
            exact ⟨(hz 0).trans h.1, (hz 1).trans h.2.1, (hz 2).trans h.2.2.1, (hz 3).trans h.2.2.2.1, (hz 4).trans h.2.2.2.2⟩
          obtain ⟨c6, f6, x0, x1, x2, x3, x4⟩ := hkS.out w3 (Below.refl _ _)
          have Hk4 := Lib.hid hk4
          have h3 : Hid (j + 1 ≤ maxLen) := by show _ ≤ _; unfold maxLen; omega
          have h4 : Hid ((j + 1) * 64 ≤ 140737488355328) := by show _ ≤ _; omega
          have h5 : Hid (∀ wx o, Below w3.heap.size w3 wx → w.heap.size + 4 ≤ (wx.alloc o).heap.size) := fun wx o h => by have := h.size; simp; omega
          have Hown := Lib.hid hown
          have Husm := Lib.hid husm
          have Huin := Lib.hid huin
          have Hhx := Lib.hid hx
          clear hk4 hlt3 hv3 e1 hS3 hown hown3 husm huin hx
          go_wp2_with fail
          go_region_law (first
              | (refine step_append_lies _ (by rfl) _ _ _ (by rfl) (w.heap.size + 4) 61 i1 _ 5 64 Tryz.underlying42 hi1 iz1 isz1 iby1 rfl (by decide) r4 j (u.flatMap vCells) (by rfl) ((hownX.out _ hbx).alloc _) ⟨wx.heap.size, 0, none⟩ 1 1 (vCells y) (by rfl) (by rfl) (fun q u' h => new_cells _ _ _ q u' h) (vCells_one y) (by decide) h3.out h4.out (h5.out _ _ hbx) (wx.heap.size + 1) (by simp) ?_; intro gg cap4 w4 hown4 hg4 hat4 hlt4; obtain ⟨cg6, fg6, _⟩ := Hst.out _ _ _ hbx hg4)
              | (go_simp; go_at_call 35; (with_reducible refine (hcp.out _ ?_).mono ?_); (first | assumption | exact Below.drew (Below.refl _ _) | exact Below.refl _ _); rintro e wx ⟨y, rfl, hbx, hy, hxy, cx6, fx6, cy6⟩; dsimp only))
          all_goals
            go_wp2
            obtain ⟨hv4, hb4, _⟩ := Hk4.out _ _ _ hbx hg4
            have HRV := Lib.hid (RV.step Hhx.out hul Hown.out Husm.out Huin.out (by omega) (hb3.trans (hbx.mono hb3.size)) w3.heap.size hb3.size hy hxy _ hown4 hg4 (by rcases hat4 with e | e; exact .inl (by rw [e]; rfl); exact .inr (fun k hk => by cases hk; simp; omega)) hr2 hr3)
            go_roundw
            case rel =>
              refine ⟨j + 1, ws2, r2, r3, _, by omega, by simp, hbits2, ⟨?_, ?_, hv4.l, hv4.ne⟩, hb4.setCell (by simp; omega) _, HRV.out.keep (fun q h1 _ => Deep.blk_setCell_other _ _ _ _ (by simp; omega)) (by simp [World.setCell])⟩
              · rw [setCell_row _ _ _ _ _ _ _ hv4.v]; simp
              · exact (Deep.blk_setCell_other _ _ _ _ (by simp; omega)).trans hv4.n
            case measure => simp [intOf]; omega
        · have e0 : (x.a.k == 0) = false := by simpa using hnull
          obtain ⟨W2, hW2⟩ : ∃ W2, W1 = W2 := ⟨_, rfl⟩
          have hz2 : W2.heap.size = wr.heap.size + 1 := by rw [← hW2, ← hzW1]
          have hbB : Below (w.heap.size + 2) W0 W2 := by rw [← hW2]; exact hb.trans (hbW1.mono (by omega))
          have hbits2 := hbits.skip (by rw [nulAt_of hx]; exact e0)
          have HR2 := Lib.hid (show RV l (w.heap.size + 4) j r2 r3 r4 W2 by rw [← hW2]; exact hR.keep (fun q _ h2 => hbW1.block q h2) (by omega))
          rw [hW2] at hx1 hv1
          have Hx2 := Lib.hid hx1
          have Hv2 := Lib.hid hv1
          have HW2 := Lib.hid hW2
          obtain ⟨ws2, hws2⟩ : ∃ ws2, ws = ws2 := ⟨_, rfl⟩
          subst hws2
          obtain ⟨tt0, tt1, tt2⟩ := Htt.out W2 hbB
          rw [← hW2, ← HW1.out, ← Ho1.out] at tt0 tt1 tt2
          have hkd := Lib.hid (ekind_any k sc A fl cap W2)
          clear hSr hv hv1 hx1 hR hbits hW2 hnull
          go_wp2_with fail
          rw [Ho1.out, HW1.out, HW2.out]
          clear d0 d1 d2 d3 d4
          refine hkd.out.mono ?_
          rintro e w3 ⟨rfl, hb3⟩
          rw [Hk2.out]
          clear tt0 tt1 tt2
          try clear hnull
          have hz3 := hb3.size
          have hv3 := Hv2.out.keep (hb3.block vb (by omega)) (hb3.block nb (by omega))
          obtain ⟨u, hul, hown, husm, huin, hr2, hr3⟩ := HR2.out
          have hown3 := own_below hown hb3
          have hlt3 := hown3.lt
          have e1 := (hb3.block wr.heap.size (by omega)).trans Hx2.out
          have Hxin := Lib.hid (Hin.out x (mem_of_get? hx))
          have hkS : Hid (∀ W, Below w3.heap.size w3 W → W.cell? ⟨vb, 6, none⟩ = some r4 ∧ W.frozen? ⟨vb, 6, none⟩ = false ∧ W.cell? ⟨wr.heap.size, 0, none⟩ = some (.int .i64 x.a.k) ∧ W.cell? ⟨wr.heap.size, 1, none⟩ = some (.int .i64 x.a.n) ∧ W.cell? ⟨wr.heap.size, 2, none⟩ = some (.int .i64 x.a.sc) ∧ W.cell? ⟨wr.heap.size, 3, none⟩ = some (.string x.a.s) ∧ W.cell? ⟨wr.heap.size, 4, none⟩ = some (.slice x.a.A x.l.length x.a.cap)) := fun W h => by
            have Q := (h.block wr.heap.size (by omega)).trans e1
            obtain ⟨_, _, _, _, _, _, c6, _, _, f6⟩ := (hv3.keep (h.block vb (by omega)) (h.block nb (by omega))).cells
            exact ⟨c6, f6, cell_of_row W wr.heap.size 0 _ _ _ Q, cell_of_row W wr.heap.size 1 _ _ _ Q, cell_of_row W wr.heap.size 2 _ _ _ Q, cell_of_row W wr.heap.size 3 _ _ _ Q, cell_of_row W wr.heap.size 4 _ _ _ Q⟩
          have hk4 : ∀ wx o w4, Below w3.heap.size w3 wx → (wx.alloc o).grownBy w4 r4.ownBlock → NvW k sc A fl cap vb nb nw ws r2 r3 r4 w4 ∧ Below (w.heap.size + 2) W0 w4 ∧ w4.heap[wr.heap.size]? = w3.heap[wr.heap.size]? := fun wx o w4 hbx hg => by
            have hzx := hbx.size
            have hne : ∀ q, q < w.heap.size + 4 → some q ≠ r4.ownBlock := fun q hq e => by have := (hlt3 q e.symm).1; omega
            have hkk : ∀ q, q < w3.heap.size → some q ≠ r4.ownBlock → w4.heap[q]? = w3.heap[q]? := fun q hq hqn => ((hg.block q (by simp; omega) hqn).trans (Below.heap_alloc wx o q (by omega))).trans (hbx.block q hq)
            refine ⟨hv3.keep (hkk vb (by omega) (hne vb (by omega))) (hkk nb (by omega) (hne nb (by omega))), ⟨hg.os.trans (hbx.os.trans (hb3.os.trans hbB.os)), hg.tape.trans (hbx.tape.trans (hb3.tape.trans hbB.tape)), hg.output.trans (hbx.output.trans (hb3.output.trans hbB.output)), by have := hg.size; have := hbB.size; simp at *; omega, fun q hq => ?_⟩, hkk _ (by omega) (fun e => by have := Hrl.out _ e.symm; omega)⟩
            rw [hkk q (by omega) (hne q (by omega)), hb3.block q (by omega), hbB.block q hq]
          have Hst : Hid (∀ wx o W, Below w3.heap.size w3 wx → (wx.alloc o).grownBy W r4.ownBlock → W.cell? ⟨vb, 6, none⟩ = some r4 ∧ W.frozen? ⟨vb, 6, none⟩ = false ∧ W.cell? ⟨wr.heap.size, 0, none⟩ = some (.int .i64 x.a.k) ∧ W.cell? ⟨wr.heap.size, 1, none⟩ = some (.int .i64 x.a.n) ∧ W.cell? ⟨wr.heap.size, 2, none⟩ = some (.int .i64 x.a.sc) ∧ W.cell? ⟨wr.heap.size, 3, none⟩ = some (.string x.a.s) ∧ W.cell? ⟨wr.heap.size, 4, none⟩ = some (.slice x.a.A x.l.length x.a.cap)) := fun wx o W hbx hg => by
            obtain ⟨q1, _, q3⟩ := hk4 wx o W hbx hg
            obtain ⟨_, _, _, _, _, _, c6, _, _, f6⟩ := q1.cells
            have Q := q3.trans e1
            exact ⟨c6, f6, cell_of_row W wr.heap.size 0 _ _ _ Q, cell_of_row W wr.heap.size 1 _ _ _ Q, cell_of_row W wr.heap.size 2 _ _ _ Q, cell_of_row W wr.heap.size 3 _ _ _ Q, cell_of_row W wr.heap.size 4 _ _ _ Q⟩
          have hkA : Hid (∀ wx o, Below w3.heap.size w3 wx → (fun W : World => W.cell? ⟨vb, 6, none⟩ = some r4 ∧ W.frozen? ⟨vb, 6, none⟩ = false ∧ W.cell? ⟨wr.heap.size, 0, none⟩ = some (.int .i64 x.a.k) ∧ W.cell? ⟨wr.heap.size, 1, none⟩ = some (.int .i64 x.a.n) ∧ W.cell? ⟨wr.heap.size, 2, none⟩ = some (.int .i64 x.a.sc) ∧ W.cell? ⟨wr.heap.size, 3, none⟩ = some (.string x.a.s) ∧ W.cell? ⟨wr.heap.size, 4, none⟩ = some (.slice x.a.A x.l.length x.a.cap)) (wx.alloc o)) := fun wx o h => hkS.out _ (h.alloc h.size o)
          have hS3 : ∀ W, Below w3.heap.size w3 W → Same B w W := fun W h => ((Same.mono (Same.of_below Hb0.out) hB).trans (Same.mono (Same.of_below hbB) (by omega))).trans ((Same.mono (Same.of_below hb3) (by omega)).trans (Same.mono (Same.of_below h) (by omega)))
          have hcp : Hid (∀ W, Below w3.heap.size w3 W → Calls Tryz.prog 35 #[.agg #[.int .i64 x.a.k, .int .i64 x.a.n, .int .i64 x.a.sc, .string x.a.s, .slice x.a.A x.l.length x.a.cap]] W fun e w' => ∃ y : VT, e = .returned (.agg #[.int .i64 y.a.k, .int .i64 y.a.n, .int .i64 y.a.sc, .string y.a.s, .slice y.a.A y.l.length y.a.cap]) ∧ Below w3.heap.size w3 w' ∧ VT.InS (New w3.heap.size w') w' y ∧ VT.Sm x y ∧ w'.cell? ⟨vb, 6, none⟩ = some r4 ∧ w'.frozen? ⟨vb, 6, none⟩ = false ∧ ∀ o, (w'.alloc o).cell? ⟨vb, 6, none⟩ = some r4) := fun W h =>
            (vCopy_any x B W (Hxin.out.1.keep (hS3 W h)) (by have := h.size; omega) Hxin.out.2).mono fun e w' ⟨y, he, hb, hy, hxy⟩ => ⟨y, he, h.trans (hb.mono h.size), hy.keep (fun _ _ => rfl) (fun q hq => ⟨by have := hq.1; have := h.size; omega, hq.2⟩), hxy, (hkS.out w' (h.trans (hb.mono h.size))).1, (hkS.out w' (h.trans (hb.mono h.size))).2.1, fun o => (hkA.out w' o (h.trans (hb.mono h.size))).1⟩
          have hownX : Hid (∀ wx, Below w3.heap.size w3 wx → wx.ownsRow (w.heap.size + 4) 61 5 r4 j (u.flatMap vCells)) := fun wx h => own_below hown3 h
          have hkE : Hid (∀ (W : World) (u : Value), (W.cell? ⟨wr.heap.size, 0, none⟩ = some (.int .i64 x.a.k) ∧ W.cell? ⟨wr.heap.size, 1, none⟩ = some (.int .i64 x.a.n) ∧ W.cell? ⟨wr.heap.size, 2, none⟩ = some (.int .i64 x.a.sc) ∧ W.cell? ⟨wr.heap.size, 3, none⟩ = some (.string x.a.s) ∧ W.cell? ⟨wr.heap.size, 4, none⟩ = some (.slice x.a.A x.l.length x.a.cap)) → (fun W : World => W.cell? ⟨wr.heap.size, 0, none⟩ = some (.int .i64 x.a.k) ∧ W.cell? ⟨wr.heap.size, 1, none⟩ = some (.int .i64 x.a.n) ∧ W.cell? ⟨wr.heap.size, 2, none⟩ = some (.int .i64 x.a.sc) ∧ W.cell? ⟨wr.heap.size, 3, none⟩ = some (.string x.a.s) ∧ W.cell? ⟨wr.heap.size, 4, none⟩ = some (.slice x.a.A x.l.length x.a.cap)) (W.setCell ⟨vb, 6, none⟩ u)) := fun W u h => by
            have hz : ∀ i, (W.setCell ⟨vb, 6, none⟩ u).cell? ⟨wr.heap.size, i, none⟩ = W.cell? ⟨wr.heap.size, i, none⟩ := fun i => World.cell?_of_block (Deep.blk_setCell_other _ _ _ _ (by simp; omega))
            exact ⟨(hz 0).trans h.1, (hz 1).trans h.2.1, (hz 2).trans h.2.2.1, (hz 3).trans h.2.2.2.1, (hz 4).trans h.2.2.2.2⟩
          obtain ⟨c6, f6, x0, x1, x2, x3, x4⟩ := hkS.out w3 (Below.refl _ _)
          have Hk4 := Lib.hid hk4
          have h3 : Hid (j + 1 ≤ maxLen) := by show _ ≤ _; unfold maxLen; omega
          have h4 : Hid ((j + 1) * 64 ≤ 140737488355328) := by show _ ≤ _; omega
          have h5 : Hid (∀ wx o, Below w3.heap.size w3 wx → w.heap.size + 4 ≤ (wx.alloc o).heap.size) := fun wx o h => by have := h.size; simp; omega
          have Hown := Lib.hid hown
          have Husm := Lib.hid husm
          have Huin := Lib.hid huin
          have Hhx := Lib.hid hx
          clear hk4 hlt3 hv3 e1 hS3 hown hown3 husm huin hx
          go_wp2_with fail
          go_region_law (first
              | (refine step_append_lies _ (by rfl) _ _ _ (by rfl) (w.heap.size + 4) 61 i1 _ 5 64 Tryz.underlying42 hi1 iz1 isz1 iby1 rfl (by decide) r4 j (u.flatMap vCells) (by rfl) ((hownX.out _ hbx).alloc _) ⟨wx.heap.size, 0, none⟩ 1 1 (vCells y) (by rfl) (by rfl) (fun q u' h => new_cells _ _ _ q u' h) (vCells_one y) (by decide) h3.out h4.out (h5.out _ _ hbx) (wx.heap.size + 1) (by simp) ?_; intro gg cap4 w4 hown4 hg4 hat4 hlt4; obtain ⟨cg6, fg6, _⟩ := Hst.out _ _ _ hbx hg4)
              | (go_simp; go_at_call 35; (with_reducible refine (hcp.out _ ?_).mono ?_); (first | assumption | exact Below.drew (Below.refl _ _) | exact Below.refl _ _); rintro e wx ⟨y, rfl, hbx, hy, hxy, cx6, fx6, cy6⟩; dsimp only))
          all_goals
            go_wp2
            obtain ⟨hv4, hb4, _⟩ := Hk4.out _ _ _ hbx hg4
            have HRV := Lib.hid (RV.step Hhx.out hul Hown.out Husm.out Huin.out (by omega) (hb3.trans (hbx.mono hb3.size)) w3.heap.size hb3.size hy hxy _ hown4 hg4 (by rcases hat4 with e | e; exact .inl (by rw [e]; rfl); exact .inr (fun k hk => by cases hk; simp; omega)) hr2 hr3)
            go_roundw
            case rel =>
              refine ⟨j + 1, ws, r2, r3, _, by omega, by simp, hbits2, ⟨?_, ?_, hv4.l, hv4.ne⟩, hb4.setCell (by simp; omega) _, HRV.out.keep (fun q h1 _ => Deep.blk_setCell_other _ _ _ _ (by simp; omega)) (by simp [World.setCell])⟩
              · rw [setCell_row _ _ _ _ _ _ _ hv4.v]; simp
              · exact (Deep.blk_setCell_other _ _ _ _ (by simp; omega)).trans hv4.n
            case measure => simp [intOf]; omega
      · obtain rfl : j = size := by omega
        obtain ⟨c0, c1, c2, c3, c4, c5, c6, _⟩ := hv.cells
        obtain ⟨A', cap', rfl, rfl, rfl⟩ := hR.row
        have e1 : W0.heap[w.heap.size + 1]? = some (.cells #[.int .i64 0, .int .i64 0, .slice none 0 0, .slice none 0 0, .slice none 0 0, .slice none 0 0, .slice none 0 0] 54 (0, 0)) := by
          rw [← HW0.out]
          show (World.alloc _ _).heap[w.heap.size + 1]? = _
          rw [Below.heap_alloc _ _ _ (by simp), Below.heap_alloc _ _ _ (by simp)]
          have := heap_alloc_new (w.alloc (.cells #[.int .i64 k, .int .i64 sc, .slice A fl cap] 50)) (.cells #[.int .i64 0, .int .i64 0, .slice none 0 0, .slice none 0 0, .slice none 0 0, .slice none 0 0, .slice none 0 0] 54)
          simpa using this
        have e2 := (hb.block (w.heap.size + 1) (by omega)).trans e1
        have q0 := cell_of_row wr (w.heap.size + 1) 0 _ _ _ e2
        have q1 := cell_of_row wr (w.heap.size + 1) 1 _ _ _ e2
        have q2 := cell_of_row wr (w.heap.size + 1) 2 _ _ _ e2
        have q3 := cell_of_row wr (w.heap.size + 1) 3 _ _ _ e2
        have q4 := cell_of_row wr (w.heap.size + 1) 4 _ _ _ e2
        have q5 := cell_of_row wr (w.heap.size + 1) 5 _ _ _ e2
        have q6 := cell_of_row wr (w.heap.size + 1) 6 _ _ _ e2
        have fz : ∀ i, wr.frozen? ⟨w.heap.size + 1, i, none⟩ = false := fun i => by simp [World.frozen?, e2]
        simp at q0 q1 q2 q3 q4 q5 q6
        clear e1 e2 hSr
        go_wp2
        refine bodyPost_ret (v := .agg #[.int .i64 k, .int .i64 sc, .slice A fl cap, .slice (some ⟨nb, 0, none⟩) nw nw, .slice none 0 0, .slice none 0 0, .slice A' j cap']) (by simp [results, Tryz.results38, go_sem, *]) rfl ?_
        refine ⟨nb, ws, _, _, _, rfl, ?_, by omega, hv.l, hbits, ?_, ?_⟩
        · exact (((((((Hb0.out.trans (hb.mono (by omega))).setCell (by simp) _).setCell (by simp) _).setCell (by simp) _).setCell (by simp) _).setCell (by simp) _).setCell (by simp) _).setCell (by simp) _
        · iterate 7 rw [Deep.blk_setCell_other _ _ _ _ (by simp; omega)]
          exact hv.n
        · refine hR.keep (fun q h1 _ => ?_) (by simp [World.setCell])
          iterate 7 rw [Deep.blk_setCell_other _ _ _ _ (by simp; omega)]
  case _ =>
    go_wp2
    generalize hW0 : World.drew _ = W0
    obtain ⟨vb, hvb⟩ : ∃ n, w.heap.size + 1 + 1 = n := ⟨_, rfl⟩
    obtain ⟨nb, hnb⟩ : ∃ n, w.heap.size + 1 + 1 + 1 = n := ⟨_, rfl⟩
    simp only [hnb]
    simp only [hvb]
    have Htt : Hid (∀ W, Below (w.heap.size + 2) W0 W → W.cell? ⟨w.heap.size, 0, none⟩ = some (.int .i64 k) ∧ W.cell? ⟨w.heap.size, 1, none⟩ = some (.int .i64 sc) ∧ W.cell? ⟨w.heap.size, 2, none⟩ = some (.slice A fl cap)) := fun W h => by
      have e : W0.heap[w.heap.size]? = some (.cells #[.int .i64 k, .int .i64 sc, .slice A fl cap] 50 (0, 0)) := by
        rw [← hW0]
        show (World.alloc _ _).heap[w.heap.size]? = _
        rw [Below.heap_alloc _ _ _ (by simp; omega), Below.heap_alloc _ _ _ (by simp; omega), Below.heap_alloc _ _ _ (by simp)]
        exact heap_alloc_new w _
      have Q0 := (h.block w.heap.size (by omega)).trans e
      exact ⟨cell_of_row W w.heap.size 0 _ _ _ Q0, cell_of_row W w.heap.size 1 _ _ _ Q0, cell_of_row W w.heap.size 2 _ _ _ Q0⟩
    have Hz0 : Hid (W0.heap.size = w.heap.size + 4) := by show _ = _; rw [← hW0]; simp [World.drew]
    have Hb0 : Hid (Below w.heap.size w W0) := by rw [← hW0]; exact (((((Below.refl _ _).alloc (by simp) _).alloc (by simp) _).alloc (by simp; omega) _).alloc (by simp; omega) _).drew
    have HW0 := Lib.hid hW0
    clear hW0
    go_loopw [18] (fun i wr => NvRel k sc A fl cap (w.heap.size + 2) W0 vb nb nw l size (RV l (w.heap.size + 4)) i wr) (fun i _ => size - (intOf i).toNat)
    case atStart =>
      refine ⟨0, List.replicate nw 0, .slice none 0 0, .slice none 0 0, .slice none 0 0, Nat.zero_le _, rfl, BitsOf.zero l nw, ⟨?_, ?_, by simp, by omega⟩, Below.refl _ _, RV.nil _ _ _⟩
      · rw [← HW0.out, ← hvb, ← hnb]
        show (World.alloc _ _).heap[_]? = _
        first | exact blk_new _ _ _ (by simp) | exact (Below.heap_alloc _ _ _ (by simp)).trans (blk_new _ _ _ (by simp))
      · rw [← zero_words (Z := Z) (by rw [← HZ.out, isz, Nat.mul_one]), ← HW0.out, ← hnb]
        show (World.alloc _ _).heap[_]? = _
        first | exact blk_new _ _ _ (by simp) | exact (Below.heap_alloc _ _ _ (by simp)).trans (blk_new _ _ _ (by simp))
    case round =>
      obtain ⟨j, ws, r2, r3, r4, hj, rfl, hbits, hv, hb, hR⟩ := hrel
      have hSr : Same B w wr := (Same.mono (Same.of_below Hb0.out) hB).trans (Same.mono (Same.of_below hb) (by omega))
      have hzr : w.heap.size + 4 ≤ wr.heap.size := by rw [← Hz0.out]; exact hb.size
      have Hrl := Lib.hid hR.lt4
      by_cases hlt : j < size
      · obtain ⟨x, ad, hx, rfl, hbx, d0, d1, d2, d3, d4⟩ := (Hr.out.keep hSr).get (show j < l.length by rw [Hlen.out]; exact hlt)
        obtain ⟨o1, ho1⟩ : ∃ o1, Obj.cells #[.int .i64 x.a.k, .int .i64 x.a.n, .int .i64 x.a.sc, .string x.a.s, .slice x.a.A x.l.length x.a.cap] 61 = o1 := ⟨_, rfl⟩
        obtain ⟨W1, hW1⟩ : ∃ W1, wr.alloc o1 = W1 := ⟨_, rfl⟩
        have hbW1 : Below wr.heap.size wr W1 := by rw [← hW1]; exact bel1 _ _
        have hzW1 : W1.heap.size = wr.heap.size + 1 := by rw [← hW1]; simp
        have hv1 := hv.keep (hbW1.block vb (by omega)) (hbW1.block nb (by omega))
        have hx1 : W1.heap[wr.heap.size]? = some (.cells #[.int .i64 x.a.k, .int .i64 x.a.n, .int .i64 x.a.sc, .string x.a.s, .slice x.a.A x.l.length x.a.cap] 61 (0, 0)) := by rw [← hW1, ← ho1]; exact heap_alloc_new wr _
        have HW1 := Lib.hid hW1
        have Ho1 := Lib.hid ho1
        clear hW1 ho1
        by_cases hnull : x.a.k = 0
        · rw [hnull] at d0
          have Ho1' := Lib.hid (by rw [← hnull]; exact Ho1.out : Obj.cells #[.int .i64 0, .int .i64 x.a.n, .int .i64 x.a.sc, .string x.a.s, .slice x.a.A x.l.length x.a.cap] 61 = o1)
          have hq : j / 64 < nw := by omega
          obtain ⟨_, _, _, c3, _⟩ := hv1.cells
          obtain ⟨cn, fn⟩ := hv1.word hq
          obtain ⟨c, hc⟩ : ∃ c, ws.getD (j / 64) 0 = c := ⟨_, rfl⟩
          rw [hc] at cn
          obtain ⟨ws2, hbits2, hv2⟩ := hv1.bit hq hbits (by rw [nulAt_of hx, hnull]; rfl) c hc
          obtain ⟨W2, hW2⟩ : ∃ W2, (W1.setCell ⟨nb, j / 64, none⟩ (.int .u64 (bits .or .u64 (c : Int) (IntKind.u64.wrap (2 ^ (j % 64)))))).drew = W2 := ⟨_, rfl⟩
          have hz2 : W2.heap.size = wr.heap.size + 1 := by rw [← hW2, ← hzW1]; simp [World.setCell, World.drew]
          have ho2 : ∀ q, q ≠ nb → W2.heap[q]? = W1.heap[q]? := fun q hq => by rw [← hW2]; exact Deep.blk_setCell_other _ _ _ _ hq
          have hbB : Below (w.heap.size + 2) W0 W2 := by rw [← hW2]; exact ((hb.trans (hbW1.mono (by omega))).setCell (by simp; omega) _).drew
          replace hv2 : NvW k sc A fl cap vb nb nw ws2 r2 r3 r4 W2 := by rw [← hW2]; exact ⟨hv2.v, hv2.n, hv2.l, hv2.ne⟩
          have hR2 : RV l (w.heap.size + 4) j r2 r3 r4 W2 := hR.keep (fun q h1 h2 => (ho2 q (by omega)).trans (hbW1.block q h2)) (by omega)
          have hx2 := (ho2 wr.heap.size (by omega)).trans hx1
          have HW2 := Lib.hid hW2
          have t1 : ((j : Int)).tdiv 64 = ((j / 64 : Nat) : Int) := by rw [Int.tdiv_eq_ediv_of_nonneg (by omega)]; omega
          have t2 : ((j : Int)).tmod 64 = ((j % 64 : Nat) : Int) := by rw [Int.tmod_eq_emod_of_nonneg (by omega)]; omega
          have Hv2 := Lib.hid hv2
          have Hx2 := Lib.hid hx2
          have HR2 := Lib.hid hR2
          clear hSr hv hv1 hx1 hR hbits hv2 hx2 hR2 hc ho2 hW2
          go_wp2
          rw [Ho1'.out, HW1.out]
          go_region
          rw [HW2.out]
          clear c3 cn fn d0 d1 d2 d3 d4
          obtain ⟨tt0, tt1, tt2⟩ := Htt.out W2 hbB
          have hkd := Lib.hid (ekind_any k sc A fl cap W2)
          go_wp2_with fail
          refine hkd.out.mono ?_
          rintro e w3 ⟨rfl, hb3⟩
          rw [Hk2.out]
          clear tt0 tt1 tt2
          try clear hnull
          have hz3 := hb3.size
          have hv3 := Hv2.out.keep (hb3.block vb (by omega)) (hb3.block nb (by omega))
          obtain ⟨u, hul, hown, husm, huin, hr2, hr3⟩ := HR2.out
          have hown3 := own_below hown hb3
          have hlt3 := hown3.lt
          have e1 := (hb3.block wr.heap.size (by omega)).trans Hx2.out
          have Hxin := Lib.hid (Hin.out x (mem_of_get? hx))
          have hkS : Hid (∀ W, Below w3.heap.size w3 W → W.cell? ⟨vb, 6, none⟩ = some r4 ∧ W.frozen? ⟨vb, 6, none⟩ = false ∧ W.cell? ⟨wr.heap.size, 0, none⟩ = some (.int .i64 x.a.k) ∧ W.cell? ⟨wr.heap.size, 1, none⟩ = some (.int .i64 x.a.n) ∧ W.cell? ⟨wr.heap.size, 2, none⟩ = some (.int .i64 x.a.sc) ∧ W.cell? ⟨wr.heap.size, 3, none⟩ = some (.string x.a.s) ∧ W.cell? ⟨wr.heap.size, 4, none⟩ = some (.slice x.a.A x.l.length x.a.cap)) := fun W h => by
            have Q := (h.block wr.heap.size (by omega)).trans e1
            obtain ⟨_, _, _, _, _, _, c6, _, _, f6⟩ := (hv3.keep (h.block vb (by omega)) (h.block nb (by omega))).cells
            exact ⟨c6, f6, cell_of_row W wr.heap.size 0 _ _ _ Q, cell_of_row W wr.heap.size 1 _ _ _ Q, cell_of_row W wr.heap.size 2 _ _ _ Q, cell_of_row W wr.heap.size 3 _ _ _ Q, cell_of_row W wr.heap.size 4 _ _ _ Q⟩
          have hk4 : ∀ wx o w4, Below w3.heap.size w3 wx → (wx.alloc o).grownBy w4 r4.ownBlock → NvW k sc A fl cap vb nb nw ws2 r2 r3 r4 w4 ∧ Below (w.heap.size + 2) W0 w4 ∧ w4.heap[wr.heap.size]? = w3.heap[wr.heap.size]? := fun wx o w4 hbx hg => by
            have hzx := hbx.size
            have hne : ∀ q, q < w.heap.size + 4 → some q ≠ r4.ownBlock := fun q hq e => by have := (hlt3 q e.symm).1; omega
            have hkk : ∀ q, q < w3.heap.size → some q ≠ r4.ownBlock → w4.heap[q]? = w3.heap[q]? := fun q hq hqn => ((hg.block q (by simp; omega) hqn).trans (Below.heap_alloc wx o q (by omega))).trans (hbx.block q hq)
            refine ⟨hv3.keep (hkk vb (by omega) (hne vb (by omega))) (hkk nb (by omega) (hne nb (by omega))), ⟨hg.os.trans (hbx.os.trans (hb3.os.trans hbB.os)), hg.tape.trans (hbx.tape.trans (hb3.tape.trans hbB.tape)), hg.output.trans (hbx.output.trans (hb3.output.trans hbB.output)), by have := hg.size; have := hbB.size; simp at *; omega, fun q hq => ?_⟩, hkk _ (by omega) (fun e => by have := Hrl.out _ e.symm; omega)⟩
            rw [hkk q (by omega) (hne q (by omega)), hb3.block q (by omega), hbB.block q hq]
          have Hst : Hid (∀ wx o W, Below w3.heap.size w3 wx → (wx.alloc o).grownBy W r4.ownBlock → W.cell? ⟨vb, 6, none⟩ = some r4 ∧ W.frozen? ⟨vb, 6, none⟩ = false ∧ W.cell? ⟨wr.heap.size, 0, none⟩ = some (.int .i64 x.a.k) ∧ W.cell? ⟨wr.heap.size, 1, none⟩ = some (.int .i64 x.a.n) ∧ W.cell? ⟨wr.heap.size, 2, none⟩ = some (.int .i64 x.a.sc) ∧ W.cell? ⟨wr.heap.size, 3, none⟩ = some (.string x.a.s) ∧ W.cell? ⟨wr.heap.size, 4, none⟩ = some (.slice x.a.A x.l.length x.a.cap)) := fun wx o W hbx hg => by
            obtain ⟨q1, _, q3⟩ := hk4 wx o W hbx hg
            obtain ⟨_, _, _, _, _, _, c6, _, _, f6⟩ := q1.cells
            have Q := q3.trans e1
            exact ⟨c6, f6, cell_of_row W wr.heap.size 0 _ _ _ Q, cell_of_row W wr.heap.size 1 _ _ _ Q, cell_of_row W wr.heap.size 2 _ _ _ Q, cell_of_row W wr.heap.size 3 _ _ _ Q, cell_of_row W wr.heap.size 4 _ _ _ Q⟩
          have hkA : Hid (∀ wx o, Below w3.heap.size w3 wx → (fun W : World => W.cell? ⟨vb, 6, none⟩ = some r4 ∧ W.frozen? ⟨vb, 6, none⟩ = false ∧ W.cell? ⟨wr.heap.size, 0, none⟩ = some (.int .i64 x.a.k) ∧ W.cell? ⟨wr.heap.size, 1, none⟩ = some (.int .i64 x.a.n) ∧ W.cell? ⟨wr.heap.size, 2, none⟩ = some (.int .i64 x.a.sc) ∧ W.cell? ⟨wr.heap.size, 3, none⟩ = some (.string x.a.s) ∧ W.cell? ⟨wr.heap.size, 4, none⟩ = some (.slice x.a.A x.l.length x.a.cap)) (wx.alloc o)) := fun wx o h => hkS.out _ (h.alloc h.size o)
          have hS3 : ∀ W, Below w3.heap.size w3 W → Same B w W := fun W h => ((Same.mono (Same.of_below Hb0.out) hB).trans (Same.mono (Same.of_below hbB) (by omega))).trans ((Same.mono (Same.of_below hb3) (by omega)).trans (Same.mono (Same.of_below h) (by omega)))
          have hcp : Hid (∀ W, Below w3.heap.size w3 W → Calls Tryz.prog 35 #[.agg #[.int .i64 x.a.k, .int .i64 x.a.n, .int .i64 x.a.sc, .string x.a.s, .slice x.a.A x.l.length x.a.cap]] W fun e w' => ∃ y : VT, e = .returned (.agg #[.int .i64 y.a.k, .int .i64 y.a.n, .int .i64 y.a.sc, .string y.a.s, .slice y.a.A y.l.length y.a.cap]) ∧ Below w3.heap.size w3 w' ∧ VT.InS (New w3.heap.size w') w' y ∧ VT.Sm x y ∧ w'.cell? ⟨vb, 6, none⟩ = some r4 ∧ w'.frozen? ⟨vb, 6, none⟩ = false ∧ ∀ o, (w'.alloc o).cell? ⟨vb, 6, none⟩ = some r4) := fun W h =>
            (vCopy_any x B W (Hxin.out.1.keep (hS3 W h)) (by have := h.size; omega) Hxin.out.2).mono fun e w' ⟨y, he, hb, hy, hxy⟩ => ⟨y, he, h.trans (hb.mono h.size), hy.keep (fun _ _ => rfl) (fun q hq => ⟨by have := hq.1; have := h.size; omega, hq.2⟩), hxy, (hkS.out w' (h.trans (hb.mono h.size))).1, (hkS.out w' (h.trans (hb.mono h.size))).2.1, fun o => (hkA.out w' o (h.trans (hb.mono h.size))).1⟩
          have hownX : Hid (∀ wx, Below w3.heap.size w3 wx → wx.ownsRow (w.heap.size + 4) 61 5 r4 j (u.flatMap vCells)) := fun wx h => own_below hown3 h
          have hkE : Hid (∀ (W : World) (u : Value), (W.cell? ⟨wr.heap.size, 0, none⟩ = some (.int .i64 x.a.k) ∧ W.cell? ⟨wr.heap.size, 1, none⟩ = some (.int .i64 x.a.n) ∧ W.cell? ⟨wr.heap.size, 2, none⟩ = some (.int .i64 x.a.sc) ∧ W.cell? ⟨wr.heap.size, 3, none⟩ = some (.string x.a.s) ∧ W.cell? ⟨wr.heap.size, 4, none⟩ = some (.slice x.a.A x.l.length x.a.cap)) → (fun W : World => W.cell? ⟨wr.heap.size, 0, none⟩ = some (.int .i64 x.a.k) ∧ W.cell? ⟨wr.heap.size, 1, none⟩ = some (.int .i64 x.a.n) ∧ W.cell? ⟨wr.heap.size, 2, none⟩ = some (.int .i64 x.a.sc) ∧ W.cell? ⟨wr.heap.size, 3, none⟩ = some (.string x.a.s) ∧ W.cell? ⟨wr.heap.size, 4, none⟩ = some (.slice x.a.A x.l.length x.a.cap)) (W.setCell ⟨vb, 6, none⟩ u)) := fun W u h => by
            have hz : ∀ i, (W.setCell ⟨vb, 6, none⟩ u).cell? ⟨wr.heap.size, i, none⟩ = W.cell? ⟨wr.heap.size, i, none⟩ := fun i => World.cell?_of_block (Deep.blk_setCell_other _ _ _ _ (by simp; omega))
            exact ⟨(hz 0).trans h.1, (hz 1).trans h.2.1, (hz 2).trans h.2.2.1, (hz 3).trans h.2.2.2.1, (hz 4).trans h.2.2.2.2⟩
          obtain ⟨c6, f6, x0, x1, x2, x3, x4⟩ := hkS.out w3 (Below.refl _ _)
          have Hk4 := Lib.hid hk4
          have h3 : Hid (j + 1 ≤ maxLen) := by show _ ≤ _; unfold maxLen; omega
          have h4 : Hid ((j + 1) * 64 ≤ 140737488355328) := by show _ ≤ _; omega
          have h5 : Hid (∀ wx o, Below w3.heap.size w3 wx → w.heap.size + 4 ≤ (wx.alloc o).heap.size) := fun wx o h => by have := h.size; simp; omega
          have Hown := Lib.hid hown
          have Husm := Lib.hid husm
          have Huin := Lib.hid huin
          have Hhx := Lib.hid hx
          clear hk4 hlt3 hv3 e1 hS3 hown hown3 husm huin hx
          go_wp2_with fail
          go_region_law (first
              | (refine step_append_lies _ (by rfl) _ _ _ (by rfl) (w.heap.size + 4) 61 i1 _ 5 64 Tryz.underlying42 hi1 iz1 isz1 iby1 rfl (by decide) r4 j (u.flatMap vCells) (by rfl) ((hownX.out _ hbx).alloc _) ⟨wx.heap.size, 0, none⟩ 1 1 (vCells y) (by rfl) (by rfl) (fun q u' h => new_cells _ _ _ q u' h) (vCells_one y) (by decide) h3.out h4.out (h5.out _ _ hbx) (wx.heap.size + 1) (by simp) ?_; intro gg cap4 w4 hown4 hg4 hat4 hlt4; obtain ⟨cg6, fg6, _⟩ := Hst.out _ _ _ hbx hg4)
              | (go_simp; go_at_call 35; (with_reducible refine (hcp.out _ ?_).mono ?_); (first | assumption | exact Below.drew (Below.refl _ _) | exact Below.refl _ _); rintro e wx ⟨y, rfl, hbx, hy, hxy, cx6, fx6, cy6⟩; dsimp only))
          all_goals
            go_wp2
            obtain ⟨hv4, hb4, _⟩ := Hk4.out _ _ _ hbx hg4
            have HRV := Lib.hid (RV.step Hhx.out hul Hown.out Husm.out Huin.out (by omega) (hb3.trans (hbx.mono hb3.size)) w3.heap.size hb3.size hy hxy _ hown4 hg4 (by rcases hat4 with e | e; exact .inl (by rw [e]; rfl); exact .inr (fun k hk => by cases hk; simp; omega)) hr2 hr3)
            go_roundw
            case rel =>
              refine ⟨j + 1, ws2, r2, r3, _, by omega, by simp, hbits2, ⟨?_, ?_, hv4.l, hv4.ne⟩, hb4.setCell (by simp; omega) _, HRV.out.keep (fun q h1 _ => Deep.blk_setCell_other _ _ _ _ (by simp; omega)) (by simp [World.setCell])⟩
              · rw [setCell_row _ _ _ _ _ _ _ hv4.v]; simp
              · exact (Deep.blk_setCell_other _ _ _ _ (by simp; omega)).trans hv4.n
            case measure => simp [intOf]; omega
        · have e0 : (x.a.k == 0) = false := by simpa using hnull
          obtain ⟨W2, hW2⟩ : ∃ W2, W1 = W2 := ⟨_, rfl⟩
          have hz2 : W2.heap.size = wr.heap.size + 1 := by rw [← hW2, ← hzW1]
          have hbB : Below (w.heap.size + 2) W0 W2 := by rw [← hW2]; exact hb.trans (hbW1.mono (by omega))
          have hbits2 := hbits.skip (by rw [nulAt_of hx]; exact e0)
          have HR2 := Lib.hid (show RV l (w.heap.size + 4) j r2 r3 r4 W2 by rw [← hW2]; exact hR.keep (fun q _ h2 => hbW1.block q h2) (by omega))
          rw [hW2] at hx1 hv1
          have Hx2 := Lib.hid hx1
          have Hv2 := Lib.hid hv1
          have HW2 := Lib.hid hW2
          obtain ⟨ws2, hws2⟩ : ∃ ws2, ws = ws2 := ⟨_, rfl⟩
          subst hws2
          obtain ⟨tt0, tt1, tt2⟩ := Htt.out W2 hbB
          rw [← hW2, ← HW1.out, ← Ho1.out] at tt0 tt1 tt2
          have hkd := Lib.hid (ekind_any k sc A fl cap W2)
          clear hSr hv hv1 hx1 hR hbits hW2 hnull
          go_wp2_with fail
          rw [Ho1.out, HW1.out, HW2.out]
          clear d0 d1 d2 d3 d4
          refine hkd.out.mono ?_
          rintro e w3 ⟨rfl, hb3⟩
          rw [Hk2.out]
          clear tt0 tt1 tt2
          try clear hnull
          have hz3 := hb3.size
          have hv3 := Hv2.out.keep (hb3.block vb (by omega)) (hb3.block nb (by omega))
          obtain ⟨u, hul, hown, husm, huin, hr2, hr3⟩ := HR2.out
          have hown3 := own_below hown hb3
          have hlt3 := hown3.lt
          have e1 := (hb3.block wr.heap.size (by omega)).trans Hx2.out
          have Hxin := Lib.hid (Hin.out x (mem_of_get? hx))
          have hkS : Hid (∀ W, Below w3.heap.size w3 W → W.cell? ⟨vb, 6, none⟩ = some r4 ∧ W.frozen? ⟨vb, 6, none⟩ = false ∧ W.cell? ⟨wr.heap.size, 0, none⟩ = some (.int .i64 x.a.k) ∧ W.cell? ⟨wr.heap.size, 1, none⟩ = some (.int .i64 x.a.n) ∧ W.cell? ⟨wr.heap.size, 2, none⟩ = some (.int .i64 x.a.sc) ∧ W.cell? ⟨wr.heap.size, 3, none⟩ = some (.string x.a.s) ∧ W.cell? ⟨wr.heap.size, 4, none⟩ = some (.slice x.a.A x.l.length x.a.cap)) := fun W h => by
            have Q := (h.block wr.heap.size (by omega)).trans e1
            obtain ⟨_, _, _, _, _, _, c6, _, _, f6⟩ := (hv3.keep (h.block vb (by omega)) (h.block nb (by omega))).cells
            exact ⟨c6, f6, cell_of_row W wr.heap.size 0 _ _ _ Q, cell_of_row W wr.heap.size 1 _ _ _ Q, cell_of_row W wr.heap.size 2 _ _ _ Q, cell_of_row W wr.heap.size 3 _ _ _ Q, cell_of_row W wr.heap.size 4 _ _ _ Q⟩
          have hk4 : ∀ wx o w4, Below w3.heap.size w3 wx → (wx.alloc o).grownBy w4 r4.ownBlock → NvW k sc A fl cap vb nb nw ws r2 r3 r4 w4 ∧ Below (w.heap.size + 2) W0 w4 ∧ w4.heap[wr.heap.size]? = w3.heap[wr.heap.size]? := fun wx o w4 hbx hg => by
            have hzx := hbx.size
            have hne : ∀ q, q < w.heap.size + 4 → some q ≠ r4.ownBlock := fun q hq e => by have := (hlt3 q e.symm).1; omega
            have hkk : ∀ q, q < w3.heap.size → some q ≠ r4.ownBlock → w4.heap[q]? = w3.heap[q]? := fun q hq hqn => ((hg.block q (by simp; omega) hqn).trans (Below.heap_alloc wx o q (by omega))).trans (hbx.block q hq)
            refine ⟨hv3.keep (hkk vb (by omega) (hne vb (by omega))) (hkk nb (by omega) (hne nb (by omega))), ⟨hg.os.trans (hbx.os.trans (hb3.os.trans hbB.os)), hg.tape.trans (hbx.tape.trans (hb3.tape.trans hbB.tape)), hg.output.trans (hbx.output.trans (hb3.output.trans hbB.output)), by have := hg.size; have := hbB.size; simp at *; omega, fun q hq => ?_⟩, hkk _ (by omega) (fun e => by have := Hrl.out _ e.symm; omega)⟩
            rw [hkk q (by omega) (hne q (by omega)), hb3.block q (by omega), hbB.block q hq]
          have Hst : Hid (∀ wx o W, Below w3.heap.size w3 wx → (wx.alloc o).grownBy W r4.ownBlock → W.cell? ⟨vb, 6, none⟩ = some r4 ∧ W.frozen? ⟨vb, 6, none⟩ = false ∧ W.cell? ⟨wr.heap.size, 0, none⟩ = some (.int .i64 x.a.k) ∧ W.cell? ⟨wr.heap.size, 1, none⟩ = some (.int .i64 x.a.n) ∧ W.cell? ⟨wr.heap.size, 2, none⟩ = some (.int .i64 x.a.sc) ∧ W.cell? ⟨wr.heap.size, 3, none⟩ = some (.string x.a.s) ∧ W.cell? ⟨wr.heap.size, 4, none⟩ = some (.slice x.a.A x.l.length x.a.cap)) := fun wx o W hbx hg => by
            obtain ⟨q1, _, q3⟩ := hk4 wx o W hbx hg
            obtain ⟨_, _, _, _, _, _, c6, _, _, f6⟩ := q1.cells
            have Q := q3.trans e1
            exact ⟨c6, f6, cell_of_row W wr.heap.size 0 _ _ _ Q, cell_of_row W wr.heap.size 1 _ _ _ Q, cell_of_row W wr.heap.size 2 _ _ _ Q, cell_of_row W wr.heap.size 3 _ _ _ Q, cell_of_row W wr.heap.size 4 _ _ _ Q⟩
          have hkA : Hid (∀ wx o, Below w3.heap.size w3 wx → (fun W : World => W.cell? ⟨vb, 6, none⟩ = some r4 ∧ W.frozen? ⟨vb, 6, none⟩ = false ∧ W.cell? ⟨wr.heap.size, 0, none⟩ = some (.int .i64 x.a.k) ∧ W.cell? ⟨wr.heap.size, 1, none⟩ = some (.int .i64 x.a.n) ∧ W.cell? ⟨wr.heap.size, 2, none⟩ = some (.int .i64 x.a.sc) ∧ W.cell? ⟨wr.heap.size, 3, none⟩ = some (.string x.a.s) ∧ W.cell? ⟨wr.heap.size, 4, none⟩ = some (.slice x.a.A x.l.length x.a.cap)) (wx.alloc o)) := fun wx o h => hkS.out _ (h.alloc h.size o)
          have hS3 : ∀ W, Below w3.heap.size w3 W → Same B w W := fun W h => ((Same.mono (Same.of_below Hb0.out) hB).trans (Same.mono (Same.of_below hbB) (by omega))).trans ((Same.mono (Same.of_below hb3) (by omega)).trans (Same.mono (Same.of_below h) (by omega)))
          have hcp : Hid (∀ W, Below w3.heap.size w3 W → Calls Tryz.prog 35 #[.agg #[.int .i64 x.a.k, .int .i64 x.a.n, .int .i64 x.a.sc, .string x.a.s, .slice x.a.A x.l.length x.a.cap]] W fun e w' => ∃ y : VT, e = .returned (.agg #[.int .i64 y.a.k, .int .i64 y.a.n, .int .i64 y.a.sc, .string y.a.s, .slice y.a.A y.l.length y.a.cap]) ∧ Below w3.heap.size w3 w' ∧ VT.InS (New w3.heap.size w') w' y ∧ VT.Sm x y ∧ w'.cell? ⟨vb, 6, none⟩ = some r4 ∧ w'.frozen? ⟨vb, 6, none⟩ = false ∧ ∀ o, (w'.alloc o).cell? ⟨vb, 6, none⟩ = some r4) := fun W h =>
            (vCopy_any x B W (Hxin.out.1.keep (hS3 W h)) (by have := h.size; omega) Hxin.out.2).mono fun e w' ⟨y, he, hb, hy, hxy⟩ => ⟨y, he, h.trans (hb.mono h.size), hy.keep (fun _ _ => rfl) (fun q hq => ⟨by have := hq.1; have := h.size; omega, hq.2⟩), hxy, (hkS.out w' (h.trans (hb.mono h.size))).1, (hkS.out w' (h.trans (hb.mono h.size))).2.1, fun o => (hkA.out w' o (h.trans (hb.mono h.size))).1⟩
          have hownX : Hid (∀ wx, Below w3.heap.size w3 wx → wx.ownsRow (w.heap.size + 4) 61 5 r4 j (u.flatMap vCells)) := fun wx h => own_below hown3 h
          have hkE : Hid (∀ (W : World) (u : Value), (W.cell? ⟨wr.heap.size, 0, none⟩ = some (.int .i64 x.a.k) ∧ W.cell? ⟨wr.heap.size, 1, none⟩ = some (.int .i64 x.a.n) ∧ W.cell? ⟨wr.heap.size, 2, none⟩ = some (.int .i64 x.a.sc) ∧ W.cell? ⟨wr.heap.size, 3, none⟩ = some (.string x.a.s) ∧ W.cell? ⟨wr.heap.size, 4, none⟩ = some (.slice x.a.A x.l.length x.a.cap)) → (fun W : World => W.cell? ⟨wr.heap.size, 0, none⟩ = some (.int .i64 x.a.k) ∧ W.cell? ⟨wr.heap.size, 1, none⟩ = some (.int .i64 x.a.n) ∧ W.cell? ⟨wr.heap.size, 2, none⟩ = some (.int .i64 x.a.sc) ∧ W.cell? ⟨wr.heap.size, 3, none⟩ = some (.string x.a.s) ∧ W.cell? ⟨wr.heap.size, 4, none⟩ = some (.slice x.a.A x.l.length x.a.cap)) (W.setCell ⟨vb, 6, none⟩ u)) := fun W u h => by
            have hz : ∀ i, (W.setCell ⟨vb, 6, none⟩ u).cell? ⟨wr.heap.size, i, none⟩ = W.cell? ⟨wr.heap.size, i, none⟩ := fun i => World.cell?_of_block (Deep.blk_setCell_other _ _ _ _ (by simp; omega))
            exact ⟨(hz 0).trans h.1, (hz 1).trans h.2.1, (hz 2).trans h.2.2.1, (hz 3).trans h.2.2.2.1, (hz 4).trans h.2.2.2.2⟩
          obtain ⟨c6, f6, x0, x1, x2, x3, x4⟩ := hkS.out w3 (Below.refl _ _)
          have Hk4 := Lib.hid hk4
          have h3 : Hid (j + 1 ≤ maxLen) := by show _ ≤ _; unfold maxLen; omega
          have h4 : Hid ((j + 1) * 64 ≤ 140737488355328) := by show _ ≤ _; omega
          have h5 : Hid (∀ wx o, Below w3.heap.size w3 wx → w.heap.size + 4 ≤ (wx.alloc o).heap.size) := fun wx o h => by have := h.size; simp; omega
          have Hown := Lib.hid hown
          have Husm := Lib.hid husm
          have Huin := Lib.hid huin
          have Hhx := Lib.hid hx
          clear hk4 hlt3 hv3 e1 hS3 hown hown3 husm huin hx
          go_wp2_with fail
          go_region_law (first
              | (refine step_append_lies _ (by rfl) _ _ _ (by rfl) (w.heap.size + 4) 61 i1 _ 5 64 Tryz.underlying42 hi1 iz1 isz1 iby1 rfl (by decide) r4 j (u.flatMap vCells) (by rfl) ((hownX.out _ hbx).alloc _) ⟨wx.heap.size, 0, none⟩ 1 1 (vCells y) (by rfl) (by rfl) (fun q u' h => new_cells _ _ _ q u' h) (vCells_one y) (by decide) h3.out h4.out (h5.out _ _ hbx) (wx.heap.size + 1) (by simp) ?_; intro gg cap4 w4 hown4 hg4 hat4 hlt4; obtain ⟨cg6, fg6, _⟩ := Hst.out _ _ _ hbx hg4)
              | (go_simp; go_at_call 35; (with_reducible refine (hcp.out _ ?_).mono ?_); (first | assumption | exact Below.drew (Below.refl _ _) | exact Below.refl _ _); rintro e wx ⟨y, rfl, hbx, hy, hxy, cx6, fx6, cy6⟩; dsimp only))
          all_goals
            go_wp2
            obtain ⟨hv4, hb4, _⟩ := Hk4.out _ _ _ hbx hg4
            have HRV := Lib.hid (RV.step Hhx.out hul Hown.out Husm.out Huin.out (by omega) (hb3.trans (hbx.mono hb3.size)) w3.heap.size hb3.size hy hxy _ hown4 hg4 (by rcases hat4 with e | e; exact .inl (by rw [e]; rfl); exact .inr (fun k hk => by cases hk; simp; omega)) hr2 hr3)
            go_roundw
            case rel =>
              refine ⟨j + 1, ws, r2, r3, _, by omega, by simp, hbits2, ⟨?_, ?_, hv4.l, hv4.ne⟩, hb4.setCell (by simp; omega) _, HRV.out.keep (fun q h1 _ => Deep.blk_setCell_other _ _ _ _ (by simp; omega)) (by simp [World.setCell])⟩
              · rw [setCell_row _ _ _ _ _ _ _ hv4.v]; simp
              · exact (Deep.blk_setCell_other _ _ _ _ (by simp; omega)).trans hv4.n
            case measure => simp [intOf]; omega
      · obtain rfl : j = size := by omega
        obtain ⟨c0, c1, c2, c3, c4, c5, c6, _⟩ := hv.cells
        obtain ⟨A', cap', rfl, rfl, rfl⟩ := hR.row
        have e1 : W0.heap[w.heap.size + 1]? = some (.cells #[.int .i64 0, .int .i64 0, .slice none 0 0, .slice none 0 0, .slice none 0 0, .slice none 0 0, .slice none 0 0] 54 (0, 0)) := by
          rw [← HW0.out]
          show (World.alloc _ _).heap[w.heap.size + 1]? = _
          rw [Below.heap_alloc _ _ _ (by simp), Below.heap_alloc _ _ _ (by simp)]
          have := heap_alloc_new (w.alloc (.cells #[.int .i64 k, .int .i64 sc, .slice A fl cap] 50)) (.cells #[.int .i64 0, .int .i64 0, .slice none 0 0, .slice none 0 0, .slice none 0 0, .slice none 0 0, .slice none 0 0] 54)
          simpa using this
        have e2 := (hb.block (w.heap.size + 1) (by omega)).trans e1
        have q0 := cell_of_row wr (w.heap.size + 1) 0 _ _ _ e2
        have q1 := cell_of_row wr (w.heap.size + 1) 1 _ _ _ e2
        have q2 := cell_of_row wr (w.heap.size + 1) 2 _ _ _ e2
        have q3 := cell_of_row wr (w.heap.size + 1) 3 _ _ _ e2
        have q4 := cell_of_row wr (w.heap.size + 1) 4 _ _ _ e2
        have q5 := cell_of_row wr (w.heap.size + 1) 5 _ _ _ e2
        have q6 := cell_of_row wr (w.heap.size + 1) 6 _ _ _ e2
        have fz : ∀ i, wr.frozen? ⟨w.heap.size + 1, i, none⟩ = false := fun i => by simp [World.frozen?, e2]
        simp at q0 q1 q2 q3 q4 q5 q6
        clear e1 e2 hSr
        go_wp2
        refine bodyPost_ret (v := .agg #[.int .i64 k, .int .i64 sc, .slice A fl cap, .slice (some ⟨nb, 0, none⟩) nw nw, .slice none 0 0, .slice none 0 0, .slice A' j cap']) (by simp [results, Tryz.results38, go_sem, *]) rfl ?_
        refine ⟨nb, ws, _, _, _, rfl, ?_, by omega, hv.l, hbits, ?_, ?_⟩
        · exact (((((((Hb0.out.trans (hb.mono (by omega))).setCell (by simp) _).setCell (by simp) _).setCell (by simp) _).setCell (by simp) _).setCell (by simp) _).setCell (by simp) _).setCell (by simp) _
        · iterate 7 rw [Deep.blk_setCell_other _ _ _ _ (by simp; omega)]
          exact hv.n
        · refine hR.keep (fun q h1 _ => ?_) (by simp [World.setCell])
          iterate 7 rw [Deep.blk_setCell_other _ _ _ _ (by simp; omega)]
end Go.Proofs.YtkadahfknccjfaaGreatDoor
