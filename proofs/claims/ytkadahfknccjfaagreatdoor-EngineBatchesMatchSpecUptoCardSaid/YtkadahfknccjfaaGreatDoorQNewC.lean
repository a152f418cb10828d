/-
  Package engine: newVector at numbers.
  Package engine: newVector at texts.
-/
import Derived.Test.YtkadahfknccjfaaGreatDoorQNewAa
import Derived.BigRegion
namespace Go.Proofs.YtkadahfknccjfaaGreatDoor
open Go.RowKit
set_option maxRecDepth 100000 in
set_option maxHeartbeats 4000000 in
theorem enewVector_n (k sc : Int) (A A2 : Option Addr) (fl cap size cap2 nw : Nat) (w : World) (l : List VT) (B : Nat) (hr : VT.Row B w A2 cap2 l) (hB : B ≤ w.heap.size) (hlen : l.length = size) (hk2 : kindS k = 2) (hs : size ≤ 1024) (hnw : (size + 63) / 64 = nw) (hin : ∀ x, x ∈ l → VT.In B w x ∧ VT.Sml x) :
    Calls Tryz.prog 38 #[.agg #[.int .i64 k, .int .i64 sc, .slice A fl cap], .slice A2 size cap2] w (NvPost k sc A fl cap nw size l (RN l (w.heap.size + 4)) w) := by
  obtain ⟨i0, hi, iz, isz, iby⟩ := info_parts infoU64
  obtain ⟨i1, hi1, iz1, isz1, iby1⟩ := info_parts infoInt
  have hnw1 : (((size : Int) + 64 - 1) / 64) = (nw : Int) := by omega
  have hnw2 : nw ≤ 16 := by omega
  obtain ⟨Z, hZ⟩ : ∃ Z, madeCells (Value.cells (.int .u64 0)) (nw * i0.size) = Z := ⟨_, rfl⟩
  have hmk : ∀ W : World, (Instr.makeSlice 51 (.int .i64 (nw : Int)) (.int .i64 (nw : Int))).run Tryz.prog W = .ok (.slice (some ⟨W.heap.size, 0, none⟩) nw nw) (W.alloc (.cells Z 66)) := fun W => by
    have := run_makeSlice W 51 66 i0 (.int .u64 0) Tryz.underlying51 hi iz .i64 .i64 (nw : Int) (nw : Int) (by omega) (by omega) (by rw [isz]; simp; omega) (by rw [iby]; omega) (by omega)
    simp only [Int.toNat_natCast] at this
    rw [hZ] at this
    exact this
  have hw1 : IntKind.i64.wrap ((size : Int) + 64) = (size : Int) + 64 := wrap_small _ (by omega) (by omega)
  have hw2 : IntKind.i64.wrap ((size : Int) + 64 - 1) = (size : Int) + 64 - 1 := wrap_small _ (by omega) (by omega)
  have hw3 : ((size : Int) + 64 - 1).tdiv 64 = (nw : Int) := by rw [Int.tdiv_eq_ediv_of_nonneg (by omega)]; exact hnw1
  have HZ := Lib.hid hZ
  have Hr := Lib.hid hr
  have Hlen := Lib.hid hlen
  have Hk2 := Lib.hid hk2
  have Hin := Lib.hid hin
  clear hnw hZ hr hlen hk2 hin
  go_enter Tryz.func38, Tryz.ntmps38
  go_wp2
  go_region
  case _ =>
    go_wp2
    generalize hW0 : World.drew _ = W0
    obtain ⟨vb, hvb⟩ : ∃ n, w.heap.size + 1 + 1 + 1 = n := ⟨_, rfl⟩
    obtain ⟨nb, hnb⟩ : ∃ n, w.heap.size + 1 + 1 = n := ⟨_, rfl⟩
    simp only [hvb]
    simp only [hnb]
    have Htt : Hid (∀ W, Below (w.heap.size + 2) W0 W → W.cell? ⟨w.heap.size, 0, none⟩ = some (.int .i64 k) ∧ W.cell? ⟨w.heap.size, 1, none⟩ = some (.int .i64 sc) ∧ W.cell? ⟨w.heap.size, 2, none⟩ = some (.slice A fl cap)) := fun W h => by
      have e : W0.heap[w.heap.size]? = some (.cells #[.int .i64 k, .int .i64 sc, .slice A fl cap] 50 (0, 0)) := by
        rw [← hW0]
        show (World.alloc _ _).heap[w.heap.size]? = _
        rw [Below.heap_alloc _ _ _ (by simp; omega), Below.heap_alloc _ _ _ (by simp; omega), Below.heap_alloc _ _ _ (by simp)]
        exact heap_alloc_new w _
      have Q0 := (h.block w.heap.size (by omega)).trans e
      exact ⟨cell_of_row W w.heap.size 0 _ _ _ Q0, cell_of_row W w.heap.size 1 _ _ _ Q0, cell_of_row W w.heap.size 2 _ _ _ Q0⟩
    have Hz0 : Hid (W0.heap.size = w.heap.size + 4) := by show _ = _; rw [← hW0]; simp [World.drew]
    have Hb0 : Hid (Below w.heap.size w W0) := by rw [← hW0]; exact (((((Below.refl _ _).alloc (by simp) _).alloc (by simp) _).alloc (by simp; omega) _).alloc (by simp; omega) _).drew
    have HW0 := Lib.hid hW0
    clear hW0
    go_loopw [18] (fun i wr => NvRel k sc A fl cap (w.heap.size + 2) W0 vb nb nw l size (RN l (w.heap.size + 4)) i wr) (fun i _ => size - (intOf i).toNat)
    case atStart =>
      refine ⟨0, List.replicate nw 0, .slice none 0 0, .slice none 0 0, .slice none 0 0, Nat.zero_le _, rfl, BitsOf.zero l nw, ⟨?_, ?_, by simp, by omega⟩, Below.refl _ _, RN.nil _ _ _⟩
      · rw [← HW0.out, ← hvb, ← hnb]
        show (World.alloc _ _).heap[_]? = _
        first | exact blk_new _ _ _ (by simp) | exact (Below.heap_alloc _ _ _ (by simp)).trans (blk_new _ _ _ (by simp))
      · rw [← zero_words (Z := Z) (by rw [← HZ.out, isz, Nat.mul_one]), ← HW0.out, ← hnb]
        show (World.alloc _ _).heap[_]? = _
        first | exact blk_new _ _ _ (by simp) | exact (Below.heap_alloc _ _ _ (by simp)).trans (blk_new _ _ _ (by simp))
    case round =>
      obtain ⟨j, ws, r2, r3, r4, hj, rfl, hbits, hv, hb, hR⟩ := hrel
      have hSr : Same B w wr := (Same.mono (Same.of_below Hb0.out) hB).trans (Same.mono (Same.of_below hb) (by omega))
      have hzr : w.heap.size + 4 ≤ wr.heap.size := by rw [← Hz0.out]; exact hb.size
      have Hrl := Lib.hid hR.lt4
      by_cases hlt : j < size
      · obtain ⟨x, ad, hx, rfl, hbx, d0, d1, d2, d3, d4⟩ := (Hr.out.keep hSr).get (show j < l.length by rw [Hlen.out]; exact hlt)
        obtain ⟨o1, ho1⟩ : ∃ o1, Obj.cells #[.int .i64 x.a.k, .int .i64 x.a.n, .int .i64 x.a.sc, .string x.a.s, .slice x.a.A x.l.length x.a.cap] 61 = o1 := ⟨_, rfl⟩
        obtain ⟨W1, hW1⟩ : ∃ W1, wr.alloc o1 = W1 := ⟨_, rfl⟩
        have hbW1 : Below wr.heap.size wr W1 := by rw [← hW1]; exact bel1 _ _
        have hzW1 : W1.heap.size = wr.heap.size + 1 := by rw [← hW1]; simp
        have hv1 := hv.keep (hbW1.block vb (by omega)) (hbW1.block nb (by omega))
        have hx1 : W1.heap[wr.heap.size]? = some (.cells #[.int .i64 x.a.k, .int .i64 x.a.n, .int .i64 x.a.sc, .string x.a.s, .slice x.a.A x.l.length x.a.cap] 61 (0, 0)) := by rw [← hW1, ← ho1]; exact heap_alloc_new wr _
        have HW1 := Lib.hid hW1
        have Ho1 := Lib.hid ho1
        clear hW1 ho1
        by_cases hnull : x.a.k = 0
        · rw [hnull] at d0
          have Ho1' := Lib.hid (by rw [← hnull]; exact Ho1.out : Obj.cells #[.int .i64 0, .int .i64 x.a.n, .int .i64 x.a.sc, .string x.a.s, .slice x.a.A x.l.length x.a.cap] 61 = o1)
          have hq : j / 64 < nw := by omega
          obtain ⟨_, _, _, c3, _⟩ := hv1.cells
          obtain ⟨cn, fn⟩ := hv1.word hq
          obtain ⟨c, hc⟩ : ∃ c, ws.getD (j / 64) 0 = c := ⟨_, rfl⟩
          rw [hc] at cn
          obtain ⟨ws2, hbits2, hv2⟩ := hv1.bit hq hbits (by rw [nulAt_of hx, hnull]; rfl) c hc
          obtain ⟨W2, hW2⟩ : ∃ W2, (W1.setCell ⟨nb, j / 64, none⟩ (.int .u64 (bits .or .u64 (c : Int) (IntKind.u64.wrap (2 ^ (j % 64)))))).drew = W2 := ⟨_, rfl⟩
          have hz2 : W2.heap.size = wr.heap.size + 1 := by rw [← hW2, ← hzW1]; simp [World.setCell, World.drew]
          have ho2 : ∀ q, q ≠ nb → W2.heap[q]? = W1.heap[q]? := fun q hq => by rw [← hW2]; exact Deep.blk_setCell_other _ _ _ _ hq
          have hbB : Below (w.heap.size + 2) W0 W2 := by rw [← hW2]; exact ((hb.trans (hbW1.mono (by omega))).setCell (by simp; omega) _).drew
          replace hv2 : NvW k sc A fl cap vb nb nw ws2 r2 r3 r4 W2 := by rw [← hW2]; exact ⟨hv2.v, hv2.n, hv2.l, hv2.ne⟩
          have hR2 : RN l (w.heap.size + 4) j r2 r3 r4 W2 := hR.keep (fun q h1 h2 => (ho2 q (by omega)).trans (hbW1.block q h2)) (by omega)
          have hx2 := (ho2 wr.heap.size (by omega)).trans hx1
          have HW2 := Lib.hid hW2
          have t1 : ((j : Int)).tdiv 64 = ((j / 64 : Nat) : Int) := by rw [Int.tdiv_eq_ediv_of_nonneg (by omega)]; omega
          have t2 : ((j : Int)).tmod 64 = ((j % 64 : Nat) : Int) := by rw [Int.tmod_eq_emod_of_nonneg (by omega)]; omega
          have Hv2 := Lib.hid hv2
          have Hx2 := Lib.hid hx2
          have HR2 := Lib.hid hR2
          clear hSr hv hv1 hx1 hR hbits hv2 hx2 hR2 hc ho2 hW2
          go_wp2
          rw [Ho1'.out, HW1.out]
          go_region
          rw [HW2.out]
          clear c3 cn fn d0 d1 d2 d3 d4
          obtain ⟨tt0, tt1, tt2⟩ := Htt.out W2 hbB
          have hkd := Lib.hid (ekind_any k sc A fl cap W2)
          go_wp2_with fail
          refine hkd.out.mono ?_
          rintro e w3 ⟨rfl, hb3⟩
          rw [Hk2.out]
          clear tt0 tt1 tt2
          have hz3 := hb3.size
          have hv3 := Hv2.out.keep (hb3.block vb (by omega)) (hb3.block nb (by omega))
          have hR3 := own_below HR2.out.1 hb3
          have e1 := (hb3.block wr.heap.size (by omega)).trans Hx2.out
          have x1 := cell_of_row w3 wr.heap.size 1 _ _ _ e1
          simp at x1
          obtain ⟨_, _, _, _, c4, _, _, f4, _, _⟩ := hv3.cells
          clear e1
          have hlt3 := hR3.lt
          have hk4 : ∀ o w4, (w3.alloc o).grownBy w4 r2.ownBlock → NvW k sc A fl cap vb nb nw ws2 r2 r3 r4 w4 ∧ Below (w.heap.size + 2) W0 w4 := fun o w4 hg => by
            have hne : ∀ q, q < w.heap.size + 4 → some q ≠ r2.ownBlock := fun q hq e => by have := (hlt3 q e.symm).1; omega
            have hkk : ∀ q, q < w.heap.size + 4 → w4.heap[q]? = w3.heap[q]? := fun q hq => (hg.block q (by simp; omega) (hne q hq)).trans (Below.heap_alloc w3 o q (by omega))
            refine ⟨hv3.keep (hkk vb (by omega)) (hkk nb (by omega)), hg.os.trans (hb3.os.trans hbB.os), hg.tape.trans (hb3.tape.trans hbB.tape), hg.output.trans (hb3.output.trans hbB.output), by have := hg.size; have := hbB.size; simp at *; omega, fun q hq => ?_⟩
            rw [hkk q (by omega), hb3.block q (by omega), hbB.block q hq]
          have Hk4 := Lib.hid hk4
          have Hst4 : Hid (∀ o w4, (w3.alloc o).grownBy w4 r2.ownBlock → w4.cell? ⟨vb, 4, none⟩ = some r2 ∧ w4.frozen? ⟨vb, 4, none⟩ = false) := fun o w4 hg => by
            obtain ⟨_, _, _, _, c4, _, _, f4, _, _⟩ := (hk4 o w4 hg).1.cells
            exact ⟨c4, f4⟩
          have h3 : Hid (j + 1 ≤ maxLen) := by show _ ≤ _; unfold maxLen; omega
          have h4 : Hid ((j + 1) * 8 ≤ 140737488355328) := by show _ ≤ _; omega
          have h5 : Hid (∀ o, w.heap.size + 4 ≤ (w3.alloc o).heap.size) := fun o => by simp; omega
          clear hk4 hlt3 hv3
          go_wp2_with (at_builtin; refine wpList_append_own2 _ rfl _ _ 30 rfl (w.heap.size + 4) 3 i1 _ 1 8 Tryz.underlying30 hi1 iz1 isz1 iby1 rfl (by decide) _ j ((l.take j).map fun x => .int .i64 x.a.n) rfl (hR3.alloc _) ⟨w3.heap.size, 0, none⟩ 1 1 [.int .i64 x.a.n] rfl (by decide) rfl (fun q u' h => new_cells _ _ _ q u' h) (by simp [Value.oneCell']) h3.out h4.out (h5.out _) ?_; intro sv' w4 hown4 hg4 hm4; obtain ⟨A', cap', rfl⟩ := own_slice hown4; obtain ⟨g4, ff4⟩ := Hst4.out _ w4 hg4)
          obtain ⟨hv4, hb4⟩ := Hk4.out _ w4 hg4
          go_roundw
          case rel =>
            refine ⟨j + 1, ws2, .slice A' (j + 1) cap', r3, r4, by omega, by simp, hbits2, ⟨?_, ?_, hv4.l, hv4.ne⟩, hb4.setCell (by simp; omega) _, ?_, HR2.out.2⟩
            · rw [setCell_row _ _ _ _ _ _ _ hv4.v]; simp
            · exact (Deep.blk_setCell_other _ _ _ _ (by simp; omega)).trans hv4.n
            · have ht : (l.take (j + 1)).map (fun x => Value.int .i64 x.a.n) = (l.take j).map (fun x => Value.int .i64 x.a.n) ++ [.int .i64 x.a.n] := by
                rw [List.take_add_one, hx]; simp
              rw [ht]
              exact own_keep hown4 fun q h1 _ => Deep.blk_setCell_other _ _ _ _ (by simp; omega)
          case measure => simp [intOf]; omega
        · have e0 : (x.a.k == 0) = false := by simpa using hnull
          obtain ⟨W2, hW2⟩ : ∃ W2, W1 = W2 := ⟨_, rfl⟩
          have hz2 : W2.heap.size = wr.heap.size + 1 := by rw [← hW2, ← hzW1]
          have hbB : Below (w.heap.size + 2) W0 W2 := by rw [← hW2]; exact hb.trans (hbW1.mono (by omega))
          have hbits2 := hbits.skip (by rw [nulAt_of hx]; exact e0)
          have HR2 := Lib.hid (show RN l (w.heap.size + 4) j r2 r3 r4 W2 by rw [← hW2]; exact hR.keep (fun q _ h2 => hbW1.block q h2) (by omega))
          rw [hW2] at hx1 hv1
          have Hx2 := Lib.hid hx1
          have Hv2 := Lib.hid hv1
          have HW2 := Lib.hid hW2
          obtain ⟨ws2, hws2⟩ : ∃ ws2, ws = ws2 := ⟨_, rfl⟩
          subst hws2
          obtain ⟨tt0, tt1, tt2⟩ := Htt.out W2 hbB
          rw [← hW2, ← HW1.out, ← Ho1.out] at tt0 tt1 tt2
          have hkd := Lib.hid (ekind_any k sc A fl cap W2)
          clear hSr hv hv1 hx1 hR hbits hW2 hnull
          go_wp2_with fail
          rw [Ho1.out, HW1.out, HW2.out]
          clear d0 d1 d2 d3 d4
          refine hkd.out.mono ?_
          rintro e w3 ⟨rfl, hb3⟩
          rw [Hk2.out]
          clear tt0 tt1 tt2
          have hz3 := hb3.size
          have hv3 := Hv2.out.keep (hb3.block vb (by omega)) (hb3.block nb (by omega))
          have hR3 := own_below HR2.out.1 hb3
          have e1 := (hb3.block wr.heap.size (by omega)).trans Hx2.out
          have x1 := cell_of_row w3 wr.heap.size 1 _ _ _ e1
          simp at x1
          obtain ⟨_, _, _, _, c4, _, _, f4, _, _⟩ := hv3.cells
          clear e1
          have hlt3 := hR3.lt
          have hk4 : ∀ o w4, (w3.alloc o).grownBy w4 r2.ownBlock → NvW k sc A fl cap vb nb nw ws r2 r3 r4 w4 ∧ Below (w.heap.size + 2) W0 w4 := fun o w4 hg => by
            have hne : ∀ q, q < w.heap.size + 4 → some q ≠ r2.ownBlock := fun q hq e => by have := (hlt3 q e.symm).1; omega
            have hkk : ∀ q, q < w.heap.size + 4 → w4.heap[q]? = w3.heap[q]? := fun q hq => (hg.block q (by simp; omega) (hne q hq)).trans (Below.heap_alloc w3 o q (by omega))
            refine ⟨hv3.keep (hkk vb (by omega)) (hkk nb (by omega)), hg.os.trans (hb3.os.trans hbB.os), hg.tape.trans (hb3.tape.trans hbB.tape), hg.output.trans (hb3.output.trans hbB.output), by have := hg.size; have := hbB.size; simp at *; omega, fun q hq => ?_⟩
            rw [hkk q (by omega), hb3.block q (by omega), hbB.block q hq]
          have Hk4 := Lib.hid hk4
          have Hst4 : Hid (∀ o w4, (w3.alloc o).grownBy w4 r2.ownBlock → w4.cell? ⟨vb, 4, none⟩ = some r2 ∧ w4.frozen? ⟨vb, 4, none⟩ = false) := fun o w4 hg => by
            obtain ⟨_, _, _, _, c4, _, _, f4, _, _⟩ := (hk4 o w4 hg).1.cells
            exact ⟨c4, f4⟩
          have h3 : Hid (j + 1 ≤ maxLen) := by show _ ≤ _; unfold maxLen; omega
          have h4 : Hid ((j + 1) * 8 ≤ 140737488355328) := by show _ ≤ _; omega
          have h5 : Hid (∀ o, w.heap.size + 4 ≤ (w3.alloc o).heap.size) := fun o => by simp; omega
          clear hk4 hlt3 hv3
          go_wp2_with (at_builtin; refine wpList_append_own2 _ rfl _ _ 30 rfl (w.heap.size + 4) 3 i1 _ 1 8 Tryz.underlying30 hi1 iz1 isz1 iby1 rfl (by decide) _ j ((l.take j).map fun x => .int .i64 x.a.n) rfl (hR3.alloc _) ⟨w3.heap.size, 0, none⟩ 1 1 [.int .i64 x.a.n] rfl (by decide) rfl (fun q u' h => new_cells _ _ _ q u' h) (by simp [Value.oneCell']) h3.out h4.out (h5.out _) ?_; intro sv' w4 hown4 hg4 hm4; obtain ⟨A', cap', rfl⟩ := own_slice hown4; obtain ⟨g4, ff4⟩ := Hst4.out _ w4 hg4)
          obtain ⟨hv4, hb4⟩ := Hk4.out _ w4 hg4
          go_roundw
          case rel =>
            refine ⟨j + 1, ws, .slice A' (j + 1) cap', r3, r4, by omega, by simp, hbits2, ⟨?_, ?_, hv4.l, hv4.ne⟩, hb4.setCell (by simp; omega) _, ?_, HR2.out.2⟩
            · rw [setCell_row _ _ _ _ _ _ _ hv4.v]; simp
            · exact (Deep.blk_setCell_other _ _ _ _ (by simp; omega)).trans hv4.n
            · have ht : (l.take (j + 1)).map (fun x => Value.int .i64 x.a.n) = (l.take j).map (fun x => Value.int .i64 x.a.n) ++ [.int .i64 x.a.n] := by
                rw [List.take_add_one, hx]; simp
              rw [ht]
              exact own_keep hown4 fun q h1 _ => Deep.blk_setCell_other _ _ _ _ (by simp; omega)
          case measure => simp [intOf]; omega
      · obtain rfl : j = size := by omega
        obtain ⟨c0, c1, c2, c3, c4, c5, c6, _⟩ := hv.cells
        obtain ⟨A', cap', rfl, rfl, rfl⟩ := hR.row
        have e1 : W0.heap[w.heap.size + 1]? = some (.cells #[.int .i64 0, .int .i64 0, .slice none 0 0, .slice none 0 0, .slice none 0 0, .slice none 0 0, .slice none 0 0] 54 (0, 0)) := by
          rw [← HW0.out]
          show (World.alloc _ _).heap[w.heap.size + 1]? = _
          rw [Below.heap_alloc _ _ _ (by simp), Below.heap_alloc _ _ _ (by simp)]
          have := heap_alloc_new (w.alloc (.cells #[.int .i64 k, .int .i64 sc, .slice A fl cap] 50)) (.cells #[.int .i64 0, .int .i64 0, .slice none 0 0, .slice none 0 0, .slice none 0 0, .slice none 0 0, .slice none 0 0] 54)
          simpa using this
        have e2 := (hb.block (w.heap.size + 1) (by omega)).trans e1
        have q0 := cell_of_row wr (w.heap.size + 1) 0 _ _ _ e2
        have q1 := cell_of_row wr (w.heap.size + 1) 1 _ _ _ e2
        have q2 := cell_of_row wr (w.heap.size + 1) 2 _ _ _ e2
        have q3 := cell_of_row wr (w.heap.size + 1) 3 _ _ _ e2
        have q4 := cell_of_row wr (w.heap.size + 1) 4 _ _ _ e2
        have q5 := cell_of_row wr (w.heap.size + 1) 5 _ _ _ e2
        have q6 := cell_of_row wr (w.heap.size + 1) 6 _ _ _ e2
        have fz : ∀ i, wr.frozen? ⟨w.heap.size + 1, i, none⟩ = false := fun i => by simp [World.frozen?, e2]
        simp at q0 q1 q2 q3 q4 q5 q6
        clear e1 e2 hSr
        go_wp2
        refine bodyPost_ret (v := .agg #[.int .i64 k, .int .i64 sc, .slice A fl cap, .slice (some ⟨nb, 0, none⟩) nw nw, .slice A' j cap', .slice none 0 0, .slice none 0 0]) (by simp [results, Tryz.results38, go_sem, *]) rfl ?_
        refine ⟨nb, ws, _, _, _, rfl, ?_, by omega, hv.l, hbits, ?_, ?_⟩
        · exact (((((((Hb0.out.trans (hb.mono (by omega))).setCell (by simp) _).setCell (by simp) _).setCell (by simp) _).setCell (by simp) _).setCell (by simp) _).setCell (by simp) _).setCell (by simp) _
        · iterate 7 rw [Deep.blk_setCell_other _ _ _ _ (by simp; omega)]
          exact hv.n
        · refine hR.keep (fun q h1 _ => ?_) (by simp [World.setCell])
          iterate 7 rw [Deep.blk_setCell_other _ _ _ _ (by simp; omega)]
  case _ =>
    go_wp2
    generalize hW0 : World.drew _ = W0
    obtain ⟨vb, hvb⟩ : ∃ n, w.heap.size + 1 + 1 = n := ⟨_, rfl⟩
    obtain ⟨nb, hnb⟩ : ∃ n, w.heap.size + 1 + 1 + 1 = n := ⟨_, rfl⟩
    simp only [hnb]
    simp only [hvb]
    have Htt : Hid (∀ W, Below (w.heap.size + 2) W0 W → W.cell? ⟨w.heap.size, 0, none⟩ = some (.int .i64 k) ∧ W.cell? ⟨w.heap.size, 1, none⟩ = some (.int .i64 sc) ∧ W.cell? ⟨w.heap.size, 2, none⟩ = some (.slice A fl cap)) := fun W h => by
      have e : W0.heap[w.heap.size]? = some (.cells #[.int .i64 k, .int .i64 sc, .slice A fl cap] 50 (0, 0)) := by
        rw [← hW0]
        show (World.alloc _ _).heap[w.heap.size]? = _
        rw [Below.heap_alloc _ _ _ (by simp; omega), Below.heap_alloc _ _ _ (by simp; omega), Below.heap_alloc _ _ _ (by simp)]
        exact heap_alloc_new w _
      have Q0 := (h.block w.heap.size (by omega)).trans e
      exact ⟨cell_of_row W w.heap.size 0 _ _ _ Q0, cell_of_row W w.heap.size 1 _ _ _ Q0, cell_of_row W w.heap.size 2 _ _ _ Q0⟩
    have Hz0 : Hid (W0.heap.size = w.heap.size + 4) := by show _ = _; rw [← hW0]; simp [World.drew]
    have Hb0 : Hid (Below w.heap.size w W0) := by rw [← hW0]; exact (((((Below.refl _ _).alloc (by simp) _).alloc (by simp) _).alloc (by simp; omega) _).alloc (by simp; omega) _).drew
    have HW0 := Lib.hid hW0
    clear hW0
    go_loopw [18] (fun i wr => NvRel k sc A fl cap (w.heap.size + 2) W0 vb nb nw l size (RN l (w.heap.size + 4)) i wr) (fun i _ => size - (intOf i).toNat)
    case atStart =>
      refine ⟨0, List.replicate nw 0, .slice none 0 0, .slice none 0 0, .slice none 0 0, Nat.zero_le _, rfl, BitsOf.zero l nw, ⟨?_, ?_, by simp, by omega⟩, Below.refl _ _, RN.nil _ _ _⟩
      · rw [← HW0.out, ← hvb, ← hnb]
        show (World.alloc _ _).heap[_]? = _
        first | exact blk_new _ _ _ (by simp) | exact (Below.heap_alloc _ _ _ (by simp)).trans (blk_new _ _ _ (by simp))
      · rw [← zero_words (Z := Z) (by rw [← HZ.out, isz, Nat.mul_one]), ← HW0.out, ← hnb]
        show (World.alloc _ _).heap[_]? = _
        first | exact blk_new _ _ _ (by simp) | exact (Below.heap_alloc _ _ _ (by simp)).trans (blk_new _ _ _ (by simp))
    case round =>
      obtain ⟨j, ws, r2, r3, r4, hj, rfl, hbits, hv, hb, hR⟩ := hrel
      have hSr : Same B w wr := (Same.mono (Same.of_below Hb0.out) hB).trans (Same.mono (Same.of_below hb) (by omega))
      have hzr : w.heap.size + 4 ≤ wr.heap.size := by rw [← Hz0.out]; exact hb.size
      have Hrl := Lib.hid hR.lt4
      by_cases hlt : j < size
      · obtain ⟨x, ad, hx, rfl, hbx, d0, d1, d2, d3, d4⟩ := (Hr.out.keep hSr).get (show j < l.length by rw [Hlen.out]; exact hlt)
        obtain ⟨o1, ho1⟩ : ∃ o1, Obj.cells #[.int .i64 x.a.k, .int .i64 x.a.n, .int .i64 x.a.sc, .string x.a.s, .slice x.a.A x.l.length x.a.cap] 61 = o1 := ⟨_, rfl⟩
        obtain ⟨W1, hW1⟩ : ∃ W1, wr.alloc o1 = W1 := ⟨_, rfl⟩
        have hbW1 : Below wr.heap.size wr W1 := by rw [← hW1]; exact bel1 _ _
        have hzW1 : W1.heap.size = wr.heap.size + 1 := by rw [← hW1]; simp
        have hv1 := hv.keep (hbW1.block vb (by omega)) (hbW1.block nb (by omega))
        have hx1 : W1.heap[wr.heap.size]? = some (.cells #[.int .i64 x.a.k, .int .i64 x.a.n, .int .i64 x.a.sc, .string x.a.s, .slice x.a.A x.l.length x.a.cap] 61 (0, 0)) := by rw [← hW1, ← ho1]; exact heap_alloc_new wr _
        have HW1 := Lib.hid hW1
        have Ho1 := Lib.hid ho1
        clear hW1 ho1
        by_cases hnull : x.a.k = 0
        · rw [hnull] at d0
          have Ho1' := Lib.hid (by rw [← hnull]; exact Ho1.out : Obj.cells #[.int .i64 0, .int .i64 x.a.n, .int .i64 x.a.sc, .string x.a.s, .slice x.a.A x.l.length x.a.cap] 61 = o1)
          have hq : j / 64 < nw := by omega
          obtain ⟨_, _, _, c3, _⟩ := hv1.cells
          obtain ⟨cn, fn⟩ := hv1.word hq
          obtain ⟨c, hc⟩ : ∃ c, ws.getD (j / 64) 0 = c := ⟨_, rfl⟩
          rw [hc] at cn
          obtain ⟨ws2, hbits2, hv2⟩ := hv1.bit hq hbits (by rw [nulAt_of hx, hnull]; rfl) c hc
          obtain ⟨W2, hW2⟩ : ∃ W2, (W1.setCell ⟨nb, j / 64, none⟩ (.int .u64 (bits .or .u64 (c : Int) (IntKind.u64.wrap (2 ^ (j % 64)))))).drew = W2 := ⟨_, rfl⟩
          have hz2 : W2.heap.size = wr.heap.size + 1 := by rw [← hW2, ← hzW1]; simp [World.setCell, World.drew]
          have ho2 : ∀ q, q ≠ nb → W2.heap[q]? = W1.heap[q]? := fun q hq => by rw [← hW2]; exact Deep.blk_setCell_other _ _ _ _ hq
          have hbB : Below (w.heap.size + 2) W0 W2 := by rw [← hW2]; exact ((hb.trans (hbW1.mono (by omega))).setCell (by simp; omega) _).drew
          replace hv2 : NvW k sc A fl cap vb nb nw ws2 r2 r3 r4 W2 := by rw [← hW2]; exact ⟨hv2.v, hv2.n, hv2.l, hv2.ne⟩
          have hR2 : RN l (w.heap.size + 4) j r2 r3 r4 W2 := hR.keep (fun q h1 h2 => (ho2 q (by omega)).trans (hbW1.block q h2)) (by omega)
          have hx2 := (ho2 wr.heap.size (by omega)).trans hx1
          have HW2 := Lib.hid hW2
          have t1 : ((j : Int)).tdiv 64 = ((j / 64 : Nat) : Int) := by rw [Int.tdiv_eq_ediv_of_nonneg (by omega)]; omega
          have t2 : ((j : Int)).tmod 64 = ((j % 64 : Nat) : Int) := by rw [Int.tmod_eq_emod_of_nonneg (by omega)]; omega
          have Hv2 := Lib.hid hv2
          have Hx2 := Lib.hid hx2
          have HR2 := Lib.hid hR2
          clear hSr hv hv1 hx1 hR hbits hv2 hx2 hR2 hc ho2 hW2
          go_wp2
          rw [Ho1'.out, HW1.out]
          go_region
          rw [HW2.out]
          clear c3 cn fn d0 d1 d2 d3 d4
          obtain ⟨tt0, tt1, tt2⟩ := Htt.out W2 hbB
          have hkd := Lib.hid (ekind_any k sc A fl cap W2)
          go_wp2_with fail
          refine hkd.out.mono ?_
          rintro e w3 ⟨rfl, hb3⟩
          rw [Hk2.out]
          clear tt0 tt1 tt2
          have hz3 := hb3.size
          have hv3 := Hv2.out.keep (hb3.block vb (by omega)) (hb3.block nb (by omega))
          have hR3 := own_below HR2.out.1 hb3
          have e1 := (hb3.block wr.heap.size (by omega)).trans Hx2.out
          have x1 := cell_of_row w3 wr.heap.size 1 _ _ _ e1
          simp at x1
          obtain ⟨_, _, _, _, c4, _, _, f4, _, _⟩ := hv3.cells
          clear e1
          have hlt3 := hR3.lt
          have hk4 : ∀ o w4, (w3.alloc o).grownBy w4 r2.ownBlock → NvW k sc A fl cap vb nb nw ws2 r2 r3 r4 w4 ∧ Below (w.heap.size + 2) W0 w4 := fun o w4 hg => by
            have hne : ∀ q, q < w.heap.size + 4 → some q ≠ r2.ownBlock := fun q hq e => by have := (hlt3 q e.symm).1; omega
            have hkk : ∀ q, q < w.heap.size + 4 → w4.heap[q]? = w3.heap[q]? := fun q hq => (hg.block q (by simp; omega) (hne q hq)).trans (Below.heap_alloc w3 o q (by omega))
            refine ⟨hv3.keep (hkk vb (by omega)) (hkk nb (by omega)), hg.os.trans (hb3.os.trans hbB.os), hg.tape.trans (hb3.tape.trans hbB.tape), hg.output.trans (hb3.output.trans hbB.output), by have := hg.size; have := hbB.size; simp at *; omega, fun q hq => ?_⟩
            rw [hkk q (by omega), hb3.block q (by omega), hbB.block q hq]
          have Hk4 := Lib.hid hk4
          have Hst4 : Hid (∀ o w4, (w3.alloc o).grownBy w4 r2.ownBlock → w4.cell? ⟨vb, 4, none⟩ = some r2 ∧ w4.frozen? ⟨vb, 4, none⟩ = false) := fun o w4 hg => by
            obtain ⟨_, _, _, _, c4, _, _, f4, _, _⟩ := (hk4 o w4 hg).1.cells
            exact ⟨c4, f4⟩
          have h3 : Hid (j + 1 ≤ maxLen) := by show _ ≤ _; unfold maxLen; omega
          have h4 : Hid ((j + 1) * 8 ≤ 140737488355328) := by show _ ≤ _; omega
          have h5 : Hid (∀ o, w.heap.size + 4 ≤ (w3.alloc o).heap.size) := fun o => by simp; omega
          clear hk4 hlt3 hv3
          go_wp2_with (at_builtin; refine wpList_append_own2 _ rfl _ _ 30 rfl (w.heap.size + 4) 3 i1 _ 1 8 Tryz.underlying30 hi1 iz1 isz1 iby1 rfl (by decide) _ j ((l.take j).map fun x => .int .i64 x.a.n) rfl (hR3.alloc _) ⟨w3.heap.size, 0, none⟩ 1 1 [.int .i64 x.a.n] rfl (by decide) rfl (fun q u' h => new_cells _ _ _ q u' h) (by simp [Value.oneCell']) h3.out h4.out (h5.out _) ?_; intro sv' w4 hown4 hg4 hm4; obtain ⟨A', cap', rfl⟩ := own_slice hown4; obtain ⟨g4, ff4⟩ := Hst4.out _ w4 hg4)
          obtain ⟨hv4, hb4⟩ := Hk4.out _ w4 hg4
          go_roundw
          case rel =>
            refine ⟨j + 1, ws2, .slice A' (j + 1) cap', r3, r4, by omega, by simp, hbits2, ⟨?_, ?_, hv4.l, hv4.ne⟩, hb4.setCell (by simp; omega) _, ?_, HR2.out.2⟩
            · rw [setCell_row _ _ _ _ _ _ _ hv4.v]; simp
            · exact (Deep.blk_setCell_other _ _ _ _ (by simp; omega)).trans hv4.n
            · have ht : (l.take (j + 1)).map (fun x => Value.int .i64 x.a.n) = (l.take j).map (fun x => Value.int .i64 x.a.n) ++ [.int .i64 x.a.n] := by
                rw [List.take_add_one, hx]; simp
              rw [ht]
              exact own_keep hown4 fun q h1 _ => Deep.blk_setCell_other _ _ _ _ (by simp; omega)
          case measure => simp [intOf]; omega
        · have e0 : (x.a.k == 0) = false := by simpa using hnull
          obtain ⟨W2, hW2⟩ : ∃ W2, W1 = W2 := ⟨_, rfl⟩
          have hz2 : W2.heap.size = wr.heap.size + 1 := by rw [← hW2, ← hzW1]
          have hbB : Below (w.heap.size + 2) W0 W2 := by rw [← hW2]; exact hb.trans (hbW1.mono (by omega))
          have hbits2 := hbits.skip (by rw [nulAt_of hx]; exact e0)
          have HR2 := Lib.hid (show RN l (w.heap.size + 4) j r2 r3 r4 W2 by rw [← hW2]; exact hR.keep (fun q _ h2 => hbW1.block q h2) (by omega))
          rw [hW2] at hx1 hv1
          have Hx2 := Lib.hid hx1
          have Hv2 := Lib.hid hv1
          have HW2 := Lib.hid hW2
          obtain ⟨ws2, hws2⟩ : ∃ ws2, ws = ws2 := ⟨_, rfl⟩
          subst hws2
          obtain ⟨tt0, tt1, tt2⟩ := Htt.out W2 hbB
          rw [← hW2, ← HW1.out, ← Ho1.out] at tt0 tt1 tt2
          have hkd := Lib.hid (ekind_any k sc A fl cap W2)
          clear hSr hv hv1 hx1 hR hbits hW2 hnull
          go_wp2_with fail
          rw [Ho1.out, HW1.out, HW2.out]
          clear d0 d1 d2 d3 d4
          refine hkd.out.mono ?_
          rintro e w3 ⟨rfl, hb3⟩
          rw [Hk2.out]
          clear tt0 tt1 tt2
          have hz3 := hb3.size
          have hv3 := Hv2.out.keep (hb3.block vb (by omega)) (hb3.block nb (by omega))
          have hR3 := own_below HR2.out.1 hb3
          have e1 := (hb3.block wr.heap.size (by omega)).trans Hx2.out
          have x1 := cell_of_row w3 wr.heap.size 1 _ _ _ e1
          simp at x1
          obtain ⟨_, _, _, _, c4, _, _, f4, _, _⟩ := hv3.cells
          clear e1
          have hlt3 := hR3.lt
          have hk4 : ∀ o w4, (w3.alloc o).grownBy w4 r2.ownBlock → NvW k sc A fl cap vb nb nw ws r2 r3 r4 w4 ∧ Below (w.heap.size + 2) W0 w4 := fun o w4 hg => by
            have hne : ∀ q, q < w.heap.size + 4 → some q ≠ r2.ownBlock := fun q hq e => by have := (hlt3 q e.symm).1; omega
            have hkk : ∀ q, q < w.heap.size + 4 → w4.heap[q]? = w3.heap[q]? := fun q hq => (hg.block q (by simp; omega) (hne q hq)).trans (Below.heap_alloc w3 o q (by omega))
            refine ⟨hv3.keep (hkk vb (by omega)) (hkk nb (by omega)), hg.os.trans (hb3.os.trans hbB.os), hg.tape.trans (hb3.tape.trans hbB.tape), hg.output.trans (hb3.output.trans hbB.output), by have := hg.size; have := hbB.size; simp at *; omega, fun q hq => ?_⟩
            rw [hkk q (by omega), hb3.block q (by omega), hbB.block q hq]
          have Hk4 := Lib.hid hk4
          have Hst4 : Hid (∀ o w4, (w3.alloc o).grownBy w4 r2.ownBlock → w4.cell? ⟨vb, 4, none⟩ = some r2 ∧ w4.frozen? ⟨vb, 4, none⟩ = false) := fun o w4 hg => by
            obtain ⟨_, _, _, _, c4, _, _, f4, _, _⟩ := (hk4 o w4 hg).1.cells
            exact ⟨c4, f4⟩
          have h3 : Hid (j + 1 ≤ maxLen) := by show _ ≤ _; unfold maxLen; omega
          have h4 : Hid ((j + 1) * 8 ≤ 140737488355328) := by show _ ≤ _; omega
          have h5 : Hid (∀ o, w.heap.size + 4 ≤ (w3.alloc o).heap.size) := fun o => by simp; omega
          clear hk4 hlt3 hv3
          go_wp2_with (at_builtin; refine wpList_append_own2 _ rfl _ _ 30 rfl (w.heap.size + 4) 3 i1 _ 1 8 Tryz.underlying30 hi1 iz1 isz1 iby1 rfl (by decide) _ j ((l.take j).map fun x => .int .i64 x.a.n) rfl (hR3.alloc _) ⟨w3.heap.size, 0, none⟩ 1 1 [.int .i64 x.a.n] rfl (by decide) rfl (fun q u' h => new_cells _ _ _ q u' h) (by simp [Value.oneCell']) h3.out h4.out (h5.out _) ?_; intro sv' w4 hown4 hg4 hm4; obtain ⟨A', cap', rfl⟩ := own_slice hown4; obtain ⟨g4, ff4⟩ := Hst4.out _ w4 hg4)
          obtain ⟨hv4, hb4⟩ := Hk4.out _ w4 hg4
          go_roundw
          case rel =>
            refine ⟨j + 1, ws, .slice A' (j + 1) cap', r3, r4, by omega, by simp, hbits2, ⟨?_, ?_, hv4.l, hv4.ne⟩, hb4.setCell (by simp; omega) _, ?_, HR2.out.2⟩
            · rw [setCell_row _ _ _ _ _ _ _ hv4.v]; simp
            · exact (Deep.blk_setCell_other _ _ _ _ (by simp; omega)).trans hv4.n
            · have ht : (l.take (j + 1)).map (fun x => Value.int .i64 x.a.n) = (l.take j).map (fun x => Value.int .i64 x.a.n) ++ [.int .i64 x.a.n] := by
                rw [List.take_add_one, hx]; simp
              rw [ht]
              exact own_keep hown4 fun q h1 _ => Deep.blk_setCell_other _ _ _ _ (by simp; omega)
          case measure => simp [intOf]; omega
      · obtain rfl : j = size := by omega
        obtain ⟨c0, c1, c2, c3, c4, c5, c6, _⟩ := hv.cells
        obtain ⟨A', cap', rfl, rfl, rfl⟩ := hR.row
        have e1 : W0.heap[w.heap.size + 1]? = some (.cells #[.int .i64 0, .int .i64 0, .slice none 0 0, .slice none 0 0, .slice none 0 0, .slice none 0 0, .slice none 0 0] 54 (0, 0)) := by
          rw [← HW0.out]
          show (World.alloc _ _).heap[w.heap.size + 1]? = _
          rw [Below.heap_alloc _ _ _ (by simp), Below.heap_alloc _ _ _ (by simp)]
          have := heap_alloc_new (w.alloc (.cells #[.int .i64 k, .int .i64 sc, .slice A fl cap] 50)) (.cells #[.int .i64 0, .int .i64 0, .slice none 0 0, .slice none 0 0, .slice none 0 0, .slice none 0 0, .slice none 0 0] 54)
          simpa using this
        have e2 := (hb.block (w.heap.size + 1) (by omega)).trans e1
        have q0 := cell_of_row wr (w.heap.size + 1) 0 _ _ _ e2
        have q1 := cell_of_row wr (w.heap.size + 1) 1 _ _ _ e2
        have q2 := cell_of_row wr (w.heap.size + 1) 2 _ _ _ e2
        have q3 := cell_of_row wr (w.heap.size + 1) 3 _ _ _ e2
        have q4 := cell_of_row wr (w.heap.size + 1) 4 _ _ _ e2
        have q5 := cell_of_row wr (w.heap.size + 1) 5 _ _ _ e2
        have q6 := cell_of_row wr (w.heap.size + 1) 6 _ _ _ e2
        have fz : ∀ i, wr.frozen? ⟨w.heap.size + 1, i, none⟩ = false := fun i => by simp [World.frozen?, e2]
        simp at q0 q1 q2 q3 q4 q5 q6
        clear e1 e2 hSr
        go_wp2
        refine bodyPost_ret (v := .agg #[.int .i64 k, .int .i64 sc, .slice A fl cap, .slice (some ⟨nb, 0, none⟩) nw nw, .slice A' j cap', .slice none 0 0, .slice none 0 0]) (by simp [results, Tryz.results38, go_sem, *]) rfl ?_
        refine ⟨nb, ws, _, _, _, rfl, ?_, by omega, hv.l, hbits, ?_, ?_⟩
        · exact (((((((Hb0.out.trans (hb.mono (by omega))).setCell (by simp) _).setCell (by simp) _).setCell (by simp) _).setCell (by simp) _).setCell (by simp) _).setCell (by simp) _).setCell (by simp) _
        · iterate 7 rw [Deep.blk_setCell_other _ _ _ _ (by simp; omega)]
          exact hv.n
        · refine hR.keep (fun q h1 _ => ?_) (by simp [World.setCell])
          iterate 7 rw [Deep.blk_setCell_other _ _ _ _ (by simp; omega)]
end Go.Proofs.YtkadahfknccjfaaGreatDoor
namespace Go.Proofs.YtkadahfknccjfaaGreatDoor
open Go.RowKit
set_option maxRecDepth 100000 in
set_option maxHeartbeats 4000000 in
theorem enewVector_s (k sc : Int) (A A2 : Option Addr) (fl cap size cap2 nw : Nat) (w : World) (l : List VT) (B : Nat) (hr : VT.Row B w A2 cap2 l) (hB : B ≤ w.heap.size) (hlen : l.length = size) (hk2 : kindS k = 4) (hs : size ≤ 1024) (hnw : (size + 63) / 64 = nw) (hin : ∀ x, x ∈ l → VT.In B w x ∧ VT.Sml x) :
    Calls Tryz.prog 38 #[.agg #[.int .i64 k, .int .i64 sc, .slice A fl cap], .slice A2 size cap2] w (NvPost k sc A fl cap nw size l (RS l (w.heap.size + 4)) w) := by
  obtain ⟨i0, hi, iz, isz, iby⟩ := info_parts infoU64
  obtain ⟨i1, hi1, iz1, isz1, iby1⟩ := info_parts infoStr
  have hnw1 : (((size : Int) + 64 - 1) / 64) = (nw : Int) := by omega
  have hnw2 : nw ≤ 16 := by omega
  obtain ⟨Z, hZ⟩ : ∃ Z, madeCells (Value.cells (.int .u64 0)) (nw * i0.size) = Z := ⟨_, rfl⟩
  have hmk : ∀ W : World, (Instr.makeSlice 51 (.int .i64 (nw : Int)) (.int .i64 (nw : Int))).run Tryz.prog W = .ok (.slice (some ⟨W.heap.size, 0, none⟩) nw nw) (W.alloc (.cells Z 66)) := fun W => by
    have := run_makeSlice W 51 66 i0 (.int .u64 0) Tryz.underlying51 hi iz .i64 .i64 (nw : Int) (nw : Int) (by omega) (by omega) (by rw [isz]; simp; omega) (by rw [iby]; omega) (by omega)
    simp only [Int.toNat_natCast] at this
    rw [hZ] at this
    exact this
  have hw1 : IntKind.i64.wrap ((size : Int) + 64) = (size : Int) + 64 := wrap_small _ (by omega) (by omega)
  have hw2 : IntKind.i64.wrap ((size : Int) + 64 - 1) = (size : Int) + 64 - 1 := wrap_small _ (by omega) (by omega)
  have hw3 : ((size : Int) + 64 - 1).tdiv 64 = (nw : Int) := by rw [Int.tdiv_eq_ediv_of_nonneg (by omega)]; exact hnw1
  have HZ := Lib.hid hZ
  have Hr := Lib.hid hr
  have Hlen := Lib.hid hlen
  have Hk2 := Lib.hid hk2
  have Hin := Lib.hid hin
  clear hnw hZ hr hlen hk2 hin
  go_enter Tryz.func38, Tryz.ntmps38
  go_wp2
  go_region
  case _ =>
    go_wp2
    generalize hW0 : World.drew _ = W0
    obtain ⟨vb, hvb⟩ : ∃ n, w.heap.size + 1 + 1 + 1 = n := ⟨_, rfl⟩
    obtain ⟨nb, hnb⟩ : ∃ n, w.heap.size + 1 + 1 = n := ⟨_, rfl⟩
    simp only [hvb]
    simp only [hnb]
    have Htt : Hid (∀ W, Below (w.heap.size + 2) W0 W → W.cell? ⟨w.heap.size, 0, none⟩ = some (.int .i64 k) ∧ W.cell? ⟨w.heap.size, 1, none⟩ = some (.int .i64 sc) ∧ W.cell? ⟨w.heap.size, 2, none⟩ = some (.slice A fl cap)) := fun W h => by
      have e : W0.heap[w.heap.size]? = some (.cells #[.int .i64 k, .int .i64 sc, .slice A fl cap] 50 (0, 0)) := by
        rw [← hW0]
        show (World.alloc _ _).heap[w.heap.size]? = _
        rw [Below.heap_alloc _ _ _ (by simp; omega), Below.heap_alloc _ _ _ (by simp; omega), Below.heap_alloc _ _ _ (by simp)]
        exact heap_alloc_new w _
      have Q0 := (h.block w.heap.size (by omega)).trans e
      exact ⟨cell_of_row W w.heap.size 0 _ _ _ Q0, cell_of_row W w.heap.size 1 _ _ _ Q0, cell_of_row W w.heap.size 2 _ _ _ Q0⟩
    have Hz0 : Hid (W0.heap.size = w.heap.size + 4) := by show _ = _; rw [← hW0]; simp [World.drew]
    have Hb0 : Hid (Below w.heap.size w W0) := by rw [← hW0]; exact (((((Below.refl _ _).alloc (by simp) _).alloc (by simp) _).alloc (by simp; omega) _).alloc (by simp; omega) _).drew
    have HW0 := Lib.hid hW0
    clear hW0
    go_loopw [18] (fun i wr => NvRel k sc A fl cap (w.heap.size + 2) W0 vb nb nw l size (RS l (w.heap.size + 4)) i wr) (fun i _ => size - (intOf i).toNat)
    case atStart =>
      refine ⟨0, List.replicate nw 0, .slice none 0 0, .slice none 0 0, .slice none 0 0, Nat.zero_le _, rfl, BitsOf.zero l nw, ⟨?_, ?_, by simp, by omega⟩, Below.refl _ _, RS.nil _ _ _⟩
      · rw [← HW0.out, ← hvb, ← hnb]
        show (World.alloc _ _).heap[_]? = _
        first | exact blk_new _ _ _ (by simp) | exact (Below.heap_alloc _ _ _ (by simp)).trans (blk_new _ _ _ (by simp))
      · rw [← zero_words (Z := Z) (by rw [← HZ.out, isz, Nat.mul_one]), ← HW0.out, ← hnb]
        show (World.alloc _ _).heap[_]? = _
        first | exact blk_new _ _ _ (by simp) | exact (Below.heap_alloc _ _ _ (by simp)).trans (blk_new _ _ _ (by simp))
    case round =>
      obtain ⟨j, ws, r2, r3, r4, hj, rfl, hbits, hv, hb, hR⟩ := hrel
      have hSr : Same B w wr := (Same.mono (Same.of_below Hb0.out) hB).trans (Same.mono (Same.of_below hb) (by omega))
      have hzr : w.heap.size + 4 ≤ wr.heap.size := by rw [← Hz0.out]; exact hb.size
      have Hrl := Lib.hid hR.lt4
      by_cases hlt : j < size
      · obtain ⟨x, ad, hx, rfl, hbx, d0, d1, d2, d3, d4⟩ := (Hr.out.keep hSr).get (show j < l.length by rw [Hlen.out]; exact hlt)
        obtain ⟨o1, ho1⟩ : ∃ o1, Obj.cells #[.int .i64 x.a.k, .int .i64 x.a.n, .int .i64 x.a.sc, .string x.a.s, .slice x.a.A x.l.length x.a.cap] 61 = o1 := ⟨_, rfl⟩
        obtain ⟨W1, hW1⟩ : ∃ W1, wr.alloc o1 = W1 := ⟨_, rfl⟩
        have hbW1 : Below wr.heap.size wr W1 := by rw [← hW1]; exact bel1 _ _
        have hzW1 : W1.heap.size = wr.heap.size + 1 := by rw [← hW1]; simp
        have hv1 := hv.keep (hbW1.block vb (by omega)) (hbW1.block nb (by omega))
        have hx1 : W1.heap[wr.heap.size]? = some (.cells #[.int .i64 x.a.k, .int .i64 x.a.n, .int .i64 x.a.sc, .string x.a.s, .slice x.a.A x.l.length x.a.cap] 61 (0, 0)) := by rw [← hW1, ← ho1]; exact heap_alloc_new wr _
        have HW1 := Lib.hid hW1
        have Ho1 := Lib.hid ho1
        clear hW1 ho1
        by_cases hnull : x.a.k = 0
        · rw [hnull] at d0
          have Ho1' := Lib.hid (by rw [← hnull]; exact Ho1.out : Obj.cells #[.int .i64 0, .int .i64 x.a.n, .int .i64 x.a.sc, .string x.a.s, .slice x.a.A x.l.length x.a.cap] 61 = o1)
          have hq : j / 64 < nw := by omega
          obtain ⟨_, _, _, c3, _⟩ := hv1.cells
          obtain ⟨cn, fn⟩ := hv1.word hq
          obtain ⟨c, hc⟩ : ∃ c, ws.getD (j / 64) 0 = c := ⟨_, rfl⟩
          rw [hc] at cn
          obtain ⟨ws2, hbits2, hv2⟩ := hv1.bit hq hbits (by rw [nulAt_of hx, hnull]; rfl) c hc
          obtain ⟨W2, hW2⟩ : ∃ W2, (W1.setCell ⟨nb, j / 64, none⟩ (.int .u64 (bits .or .u64 (c : Int) (IntKind.u64.wrap (2 ^ (j % 64)))))).drew = W2 := ⟨_, rfl⟩
          have hz2 : W2.heap.size = wr.heap.size + 1 := by rw [← hW2, ← hzW1]; simp [World.setCell, World.drew]
          have ho2 : ∀ q, q ≠ nb → W2.heap[q]? = W1.heap[q]? := fun q hq => by rw [← hW2]; exact Deep.blk_setCell_other _ _ _ _ hq
          have hbB : Below (w.heap.size + 2) W0 W2 := by rw [← hW2]; exact ((hb.trans (hbW1.mono (by omega))).setCell (by simp; omega) _).drew
          replace hv2 : NvW k sc A fl cap vb nb nw ws2 r2 r3 r4 W2 := by rw [← hW2]; exact ⟨hv2.v, hv2.n, hv2.l, hv2.ne⟩
          have hR2 : RS l (w.heap.size + 4) j r2 r3 r4 W2 := hR.keep (fun q h1 h2 => (ho2 q (by omega)).trans (hbW1.block q h2)) (by omega)
          have hx2 := (ho2 wr.heap.size (by omega)).trans hx1
          have HW2 := Lib.hid hW2
          have t1 : ((j : Int)).tdiv 64 = ((j / 64 : Nat) : Int) := by rw [Int.tdiv_eq_ediv_of_nonneg (by omega)]; omega
          have t2 : ((j : Int)).tmod 64 = ((j % 64 : Nat) : Int) := by rw [Int.tmod_eq_emod_of_nonneg (by omega)]; omega
          have Hv2 := Lib.hid hv2
          have Hx2 := Lib.hid hx2
          have HR2 := Lib.hid hR2
          clear hSr hv hv1 hx1 hR hbits hv2 hx2 hR2 hc ho2 hW2
          go_wp2
          rw [Ho1'.out, HW1.out]
          go_region
          rw [HW2.out]
          clear c3 cn fn d0 d1 d2 d3 d4
          obtain ⟨tt0, tt1, tt2⟩ := Htt.out W2 hbB
          have hkd := Lib.hid (ekind_any k sc A fl cap W2)
          go_wp2_with fail
          refine hkd.out.mono ?_
          rintro e w3 ⟨rfl, hb3⟩
          rw [Hk2.out]
          clear tt0 tt1 tt2
          have hz3 := hb3.size
          have hv3 := Hv2.out.keep (hb3.block vb (by omega)) (hb3.block nb (by omega))
          have hR3 := own_below HR2.out.1 hb3
          have e1 := (hb3.block wr.heap.size (by omega)).trans Hx2.out
          have x1 := cell_of_row w3 wr.heap.size 3 _ _ _ e1
          simp at x1
          obtain ⟨_, _, _, _, _, c4, _, _, f4, _⟩ := hv3.cells
          clear e1
          have hlt3 := hR3.lt
          have hk4 : ∀ o w4, (w3.alloc o).grownBy w4 r3.ownBlock → NvW k sc A fl cap vb nb nw ws2 r2 r3 r4 w4 ∧ Below (w.heap.size + 2) W0 w4 := fun o w4 hg => by
            have hne : ∀ q, q < w.heap.size + 4 → some q ≠ r3.ownBlock := fun q hq e => by have := (hlt3 q e.symm).1; omega
            have hkk : ∀ q, q < w.heap.size + 4 → w4.heap[q]? = w3.heap[q]? := fun q hq => (hg.block q (by simp; omega) (hne q hq)).trans (Below.heap_alloc w3 o q (by omega))
            refine ⟨hv3.keep (hkk vb (by omega)) (hkk nb (by omega)), hg.os.trans (hb3.os.trans hbB.os), hg.tape.trans (hb3.tape.trans hbB.tape), hg.output.trans (hb3.output.trans hbB.output), by have := hg.size; have := hbB.size; simp at *; omega, fun q hq => ?_⟩
            rw [hkk q (by omega), hb3.block q (by omega), hbB.block q hq]
          have Hk4 := Lib.hid hk4
          have Hst4 : Hid (∀ o w4, (w3.alloc o).grownBy w4 r3.ownBlock → w4.cell? ⟨vb, 5, none⟩ = some r3 ∧ w4.frozen? ⟨vb, 5, none⟩ = false) := fun o w4 hg => by
            obtain ⟨_, _, _, _, _, c4, _, _, f4, _⟩ := (hk4 o w4 hg).1.cells
            exact ⟨c4, f4⟩
          have h3 : Hid (j + 1 ≤ maxLen) := by show _ ≤ _; unfold maxLen; omega
          have h4 : Hid ((j + 1) * 16 ≤ 140737488355328) := by show _ ≤ _; omega
          have h5 : Hid (∀ o, w.heap.size + 4 ≤ (w3.alloc o).heap.size) := fun o => by simp; omega
          clear hk4 hlt3 hv3
          go_wp2_with (at_builtin; refine wpList_append_own2 _ rfl _ _ 52 rfl (w.heap.size + 4) 9 i1 _ 1 16 Tryz.underlying52 hi1 iz1 isz1 iby1 rfl (by decide) _ j ((l.take j).map fun x => .string x.a.s) rfl (hR3.alloc _) ⟨w3.heap.size, 0, none⟩ 1 1 [.string x.a.s] rfl (by decide) rfl (fun q u' h => new_cells _ _ _ q u' h) (by simp [Value.oneCell']) h3.out h4.out (h5.out _) ?_; intro sv' w4 hown4 hg4 hm4; obtain ⟨A', cap', rfl⟩ := own_slice hown4; obtain ⟨g4, ff4⟩ := Hst4.out _ w4 hg4)
          obtain ⟨hv4, hb4⟩ := Hk4.out _ w4 hg4
          go_roundw
          case rel =>
            refine ⟨j + 1, ws2, r2, .slice A' (j + 1) cap', r4, by omega, by simp, hbits2, ⟨?_, ?_, hv4.l, hv4.ne⟩, hb4.setCell (by simp; omega) _, ?_, HR2.out.2⟩
            · rw [setCell_row _ _ _ _ _ _ _ hv4.v]; simp
            · exact (Deep.blk_setCell_other _ _ _ _ (by simp; omega)).trans hv4.n
            · have ht : (l.take (j + 1)).map (fun x => Value.string x.a.s) = (l.take j).map (fun x => Value.string x.a.s) ++ [.string x.a.s] := by
                rw [List.take_add_one, hx]; simp
              rw [ht]
              exact own_keep hown4 fun q h1 _ => Deep.blk_setCell_other _ _ _ _ (by simp; omega)
          case measure => simp [intOf]; omega
        · have e0 : (x.a.k == 0) = false := by simpa using hnull
          obtain ⟨W2, hW2⟩ : ∃ W2, W1 = W2 := ⟨_, rfl⟩
          have hz2 : W2.heap.size = wr.heap.size + 1 := by rw [← hW2, ← hzW1]
          have hbB : Below (w.heap.size + 2) W0 W2 := by rw [← hW2]; exact hb.trans (hbW1.mono (by omega))
          have hbits2 := hbits.skip (by rw [nulAt_of hx]; exact e0)
          have HR2 := Lib.hid (show RS l (w.heap.size + 4) j r2 r3 r4 W2 by rw [← hW2]; exact hR.keep (fun q _ h2 => hbW1.block q h2) (by omega))
          rw [hW2] at hx1 hv1
          have Hx2 := Lib.hid hx1
          have Hv2 := Lib.hid hv1
          have HW2 := Lib.hid hW2
          obtain ⟨ws2, hws2⟩ : ∃ ws2, ws = ws2 := ⟨_, rfl⟩
          subst hws2
          obtain ⟨tt0, tt1, tt2⟩ := Htt.out W2 hbB
          rw [← hW2, ← HW1.out, ← Ho1.out] at tt0 tt1 tt2
          have hkd := Lib.hid (ekind_any k sc A fl cap W2)
          clear hSr hv hv1 hx1 hR hbits hW2 hnull
          go_wp2_with fail
          rw [Ho1.out, HW1.out, HW2.out]
          clear d0 d1 d2 d3 d4
          refine hkd.out.mono ?_
          rintro e w3 ⟨rfl, hb3⟩
          rw [Hk2.out]
          clear tt0 tt1 tt2
          have hz3 := hb3.size
          have hv3 := Hv2.out.keep (hb3.block vb (by omega)) (hb3.block nb (by omega))
          have hR3 := own_below HR2.out.1 hb3
          have e1 := (hb3.block wr.heap.size (by omega)).trans Hx2.out
          have x1 := cell_of_row w3 wr.heap.size 3 _ _ _ e1
          simp at x1
          obtain ⟨_, _, _, _, _, c4, _, _, f4, _⟩ := hv3.cells
          clear e1
          have hlt3 := hR3.lt
          have hk4 : ∀ o w4, (w3.alloc o).grownBy w4 r3.ownBlock → NvW k sc A fl cap vb nb nw ws r2 r3 r4 w4 ∧ Below (w.heap.size + 2) W0 w4 := fun o w4 hg => by
            have hne : ∀ q, q < w.heap.size + 4 → some q ≠ r3.ownBlock := fun q hq e => by have := (hlt3 q e.symm).1; omega
            have hkk : ∀ q, q < w.heap.size + 4 → w4.heap[q]? = w3.heap[q]? := fun q hq => (hg.block q (by simp; omega) (hne q hq)).trans (Below.heap_alloc w3 o q (by omega))
            refine ⟨hv3.keep (hkk vb (by omega)) (hkk nb (by omega)), hg.os.trans (hb3.os.trans hbB.os), hg.tape.trans (hb3.tape.trans hbB.tape), hg.output.trans (hb3.output.trans hbB.output), by have := hg.size; have := hbB.size; simp at *; omega, fun q hq => ?_⟩
            rw [hkk q (by omega), hb3.block q (by omega), hbB.block q hq]
          have Hk4 := Lib.hid hk4
          have Hst4 : Hid (∀ o w4, (w3.alloc o).grownBy w4 r3.ownBlock → w4.cell? ⟨vb, 5, none⟩ = some r3 ∧ w4.frozen? ⟨vb, 5, none⟩ = false) := fun o w4 hg => by
            obtain ⟨_, _, _, _, _, c4, _, _, f4, _⟩ := (hk4 o w4 hg).1.cells
            exact ⟨c4, f4⟩
          have h3 : Hid (j + 1 ≤ maxLen) := by show _ ≤ _; unfold maxLen; omega
          have h4 : Hid ((j + 1) * 16 ≤ 140737488355328) := by show _ ≤ _; omega
          have h5 : Hid (∀ o, w.heap.size + 4 ≤ (w3.alloc o).heap.size) := fun o => by simp; omega
          clear hk4 hlt3 hv3
          go_wp2_with (at_builtin; refine wpList_append_own2 _ rfl _ _ 52 rfl (w.heap.size + 4) 9 i1 _ 1 16 Tryz.underlying52 hi1 iz1 isz1 iby1 rfl (by decide) _ j ((l.take j).map fun x => .string x.a.s) rfl (hR3.alloc _) ⟨w3.heap.size, 0, none⟩ 1 1 [.string x.a.s] rfl (by decide) rfl (fun q u' h => new_cells _ _ _ q u' h) (by simp [Value.oneCell']) h3.out h4.out (h5.out _) ?_; intro sv' w4 hown4 hg4 hm4; obtain ⟨A', cap', rfl⟩ := own_slice hown4; obtain ⟨g4, ff4⟩ := Hst4.out _ w4 hg4)
          obtain ⟨hv4, hb4⟩ := Hk4.out _ w4 hg4
          go_roundw
          case rel =>
            refine ⟨j + 1, ws, r2, .slice A' (j + 1) cap', r4, by omega, by simp, hbits2, ⟨?_, ?_, hv4.l, hv4.ne⟩, hb4.setCell (by simp; omega) _, ?_, HR2.out.2⟩
            · rw [setCell_row _ _ _ _ _ _ _ hv4.v]; simp
            · exact (Deep.blk_setCell_other _ _ _ _ (by simp; omega)).trans hv4.n
            · have ht : (l.take (j + 1)).map (fun x => Value.string x.a.s) = (l.take j).map (fun x => Value.string x.a.s) ++ [.string x.a.s] := by
                rw [List.take_add_one, hx]; simp
              rw [ht]
              exact own_keep hown4 fun q h1 _ => Deep.blk_setCell_other _ _ _ _ (by simp; omega)
          case measure => simp [intOf]; omega
      · obtain rfl : j = size := by omega
        obtain ⟨c0, c1, c2, c3, c4, c5, c6, _⟩ := hv.cells
        obtain ⟨A', cap', rfl, rfl, rfl⟩ := hR.row
        have e1 : W0.heap[w.heap.size + 1]? = some (.cells #[.int .i64 0, .int .i64 0, .slice none 0 0, .slice none 0 0, .slice none 0 0, .slice none 0 0, .slice none 0 0] 54 (0, 0)) := by
          rw [← HW0.out]
          show (World.alloc _ _).heap[w.heap.size + 1]? = _
          rw [Below.heap_alloc _ _ _ (by simp), Below.heap_alloc _ _ _ (by simp)]
          have := heap_alloc_new (w.alloc (.cells #[.int .i64 k, .int .i64 sc, .slice A fl cap] 50)) (.cells #[.int .i64 0, .int .i64 0, .slice none 0 0, .slice none 0 0, .slice none 0 0, .slice none 0 0, .slice none 0 0] 54)
          simpa using this
        have e2 := (hb.block (w.heap.size + 1) (by omega)).trans e1
        have q0 := cell_of_row wr (w.heap.size + 1) 0 _ _ _ e2
        have q1 := cell_of_row wr (w.heap.size + 1) 1 _ _ _ e2
        have q2 := cell_of_row wr (w.heap.size + 1) 2 _ _ _ e2
        have q3 := cell_of_row wr (w.heap.size + 1) 3 _ _ _ e2
        have q4 := cell_of_row wr (w.heap.size + 1) 4 _ _ _ e2
        have q5 := cell_of_row wr (w.heap.size + 1) 5 _ _ _ e2
        have q6 := cell_of_row wr (w.heap.size + 1) 6 _ _ _ e2
        have fz : ∀ i, wr.frozen? ⟨w.heap.size + 1, i, none⟩ = false := fun i => by simp [World.frozen?, e2]
        simp at q0 q1 q2 q3 q4 q5 q6
        clear e1 e2 hSr
        go_wp2
        refine bodyPost_ret (v := .agg #[.int .i64 k, .int .i64 sc, .slice A fl cap, .slice (some ⟨nb, 0, none⟩) nw nw, .slice none 0 0, .slice A' j cap', .slice none 0 0]) (by simp [results, Tryz.results38, go_sem, *]) rfl ?_
        refine ⟨nb, ws, _, _, _, rfl, ?_, by omega, hv.l, hbits, ?_, ?_⟩
        · exact (((((((Hb0.out.trans (hb.mono (by omega))).setCell (by simp) _).setCell (by simp) _).setCell (by simp) _).setCell (by simp) _).setCell (by simp) _).setCell (by simp) _).setCell (by simp) _
        · iterate 7 rw [Deep.blk_setCell_other _ _ _ _ (by simp; omega)]
          exact hv.n
        · refine hR.keep (fun q h1 _ => ?_) (by simp [World.setCell])
          iterate 7 rw [Deep.blk_setCell_other _ _ _ _ (by simp; omega)]
  case _ =>
    go_wp2
    generalize hW0 : World.drew _ = W0
    obtain ⟨vb, hvb⟩ : ∃ n, w.heap.size + 1 + 1 = n := ⟨_, rfl⟩
    obtain ⟨nb, hnb⟩ : ∃ n, w.heap.size + 1 + 1 + 1 = n := ⟨_, rfl⟩
    simp only [hnb]
    simp only [hvb]
    have Htt : Hid (∀ W, Below (w.heap.size + 2) W0 W → W.cell? ⟨w.heap.size, 0, none⟩ = some (.int .i64 k) ∧ W.cell? ⟨w.heap.size, 1, none⟩ = some (.int .i64 sc) ∧ W.cell? ⟨w.heap.size, 2, none⟩ = some (.slice A fl cap)) := fun W h => by
      have e : W0.heap[w.heap.size]? = some (.cells #[.int .i64 k, .int .i64 sc, .slice A fl cap] 50 (0, 0)) := by
        rw [← hW0]
        show (World.alloc _ _).heap[w.heap.size]? = _
        rw [Below.heap_alloc _ _ _ (by simp; omega), Below.heap_alloc _ _ _ (by simp; omega), Below.heap_alloc _ _ _ (by simp)]
        exact heap_alloc_new w _
      have Q0 := (h.block w.heap.size (by omega)).trans e
      exact ⟨cell_of_row W w.heap.size 0 _ _ _ Q0, cell_of_row W w.heap.size 1 _ _ _ Q0, cell_of_row W w.heap.size 2 _ _ _ Q0⟩
    have Hz0 : Hid (W0.heap.size = w.heap.size + 4) := by show _ = _; rw [← hW0]; simp [World.drew]
    have Hb0 : Hid (Below w.heap.size w W0) := by rw [← hW0]; exact (((((Below.refl _ _).alloc (by simp) _).alloc (by simp) _).alloc (by simp; omega) _).alloc (by simp; omega) _).drew
    have HW0 := Lib.hid hW0
    clear hW0
    go_loopw [18] (fun i wr => NvRel k sc A fl cap (w.heap.size + 2) W0 vb nb nw l size (RS l (w.heap.size + 4)) i wr) (fun i _ => size - (intOf i).toNat)
    case atStart =>
      refine ⟨0, List.replicate nw 0, .slice none 0 0, .slice none 0 0, .slice none 0 0, Nat.zero_le _, rfl, BitsOf.zero l nw, ⟨?_, ?_, by simp, by omega⟩, Below.refl _ _, RS.nil _ _ _⟩
      · rw [← HW0.out, ← hvb, ← hnb]
        show (World.alloc _ _).heap[_]? = _
        first | exact blk_new _ _ _ (by simp) | exact (Below.heap_alloc _ _ _ (by simp)).trans (blk_new _ _ _ (by simp))
      · rw [← zero_words (Z := Z) (by rw [← HZ.out, isz, Nat.mul_one]), ← HW0.out, ← hnb]
        show (World.alloc _ _).heap[_]? = _
        first | exact blk_new _ _ _ (by simp) | exact (Below.heap_alloc _ _ _ (by simp)).trans (blk_new _ _ _ (by simp))
    case round =>
      obtain ⟨j, ws, r2, r3, r4, hj, rfl, hbits, hv, hb, hR⟩ := hrel
      have hSr : Same B w wr := (Same.mono (Same.of_below Hb0.out) hB).trans (Same.mono (Same.of_below hb) (by omega))
      have hzr : w.heap.size + 4 ≤ wr.heap.size := by rw [← Hz0.out]; exact hb.size
      have Hrl := Lib.hid hR.lt4
      by_cases hlt : j < size
      · obtain ⟨x, ad, hx, rfl, hbx, d0, d1, d2, d3, d4⟩ := (Hr.out.keep hSr).get (show j < l.length by rw [Hlen.out]; exact hlt)
        obtain ⟨o1, ho1⟩ : ∃ o1, Obj.cells #[.int .i64 x.a.k, .int .i64 x.a.n, .int .i64 x.a.sc, .string x.a.s, .slice x.a.A x.l.length x.a.cap] 61 = o1 := ⟨_, rfl⟩
        obtain ⟨W1, hW1⟩ : ∃ W1, wr.alloc o1 = W1 := ⟨_, rfl⟩
        have hbW1 : Below wr.heap.size wr W1 := by rw [← hW1]; exact bel1 _ _
        have hzW1 : W1.heap.size = wr.heap.size + 1 := by rw [← hW1]; simp
        have hv1 := hv.keep (hbW1.block vb (by omega)) (hbW1.block nb (by omega))
        have hx1 : W1.heap[wr.heap.size]? = some (.cells #[.int .i64 x.a.k, .int .i64 x.a.n, .int .i64 x.a.sc, .string x.a.s, .slice x.a.A x.l.length x.a.cap] 61 (0, 0)) := by rw [← hW1, ← ho1]; exact heap_alloc_new wr _
        have HW1 := Lib.hid hW1
        have Ho1 := Lib.hid ho1
        clear hW1 ho1
        by_cases hnull : x.a.k = 0
        · rw [hnull] at d0
          have Ho1' := Lib.hid (by rw [← hnull]; exact Ho1.out : Obj.cells #[.int .i64 0, .int .i64 x.a.n, .int .i64 x.a.sc, .string x.a.s, .slice x.a.A x.l.length x.a.cap] 61 = o1)
          have hq : j / 64 < nw := by omega
          obtain ⟨_, _, _, c3, _⟩ := hv1.cells
          obtain ⟨cn, fn⟩ := hv1.word hq
          obtain ⟨c, hc⟩ : ∃ c, ws.getD (j / 64) 0 = c := ⟨_, rfl⟩
          rw [hc] at cn
          obtain ⟨ws2, hbits2, hv2⟩ := hv1.bit hq hbits (by rw [nulAt_of hx, hnull]; rfl) c hc
          obtain ⟨W2, hW2⟩ : ∃ W2, (W1.setCell ⟨nb, j / 64, none⟩ (.int .u64 (bits .or .u64 (c : Int) (IntKind.u64.wrap (2 ^ (j % 64)))))).drew = W2 := ⟨_, rfl⟩
          have hz2 : W2.heap.size = wr.heap.size + 1 := by rw [← hW2, ← hzW1]; simp [World.setCell, World.drew]
          have ho2 : ∀ q, q ≠ nb → W2.heap[q]? = W1.heap[q]? := fun q hq => by rw [← hW2]; exact Deep.blk_setCell_other _ _ _ _ hq
          have hbB : Below (w.heap.size + 2) W0 W2 := by rw [← hW2]; exact ((hb.trans (hbW1.mono (by omega))).setCell (by simp; omega) _).drew
          replace hv2 : NvW k sc A fl cap vb nb nw ws2 r2 r3 r4 W2 := by rw [← hW2]; exact ⟨hv2.v, hv2.n, hv2.l, hv2.ne⟩
          have hR2 : RS l (w.heap.size + 4) j r2 r3 r4 W2 := hR.keep (fun q h1 h2 => (ho2 q (by omega)).trans (hbW1.block q h2)) (by omega)
          have hx2 := (ho2 wr.heap.size (by omega)).trans hx1
          have HW2 := Lib.hid hW2
          have t1 : ((j : Int)).tdiv 64 = ((j / 64 : Nat) : Int) := by rw [Int.tdiv_eq_ediv_of_nonneg (by omega)]; omega
          have t2 : ((j : Int)).tmod 64 = ((j % 64 : Nat) : Int) := by rw [Int.tmod_eq_emod_of_nonneg (by omega)]; omega
          have Hv2 := Lib.hid hv2
          have Hx2 := Lib.hid hx2
          have HR2 := Lib.hid hR2
          clear hSr hv hv1 hx1 hR hbits hv2 hx2 hR2 hc ho2 hW2
          go_wp2
          rw [Ho1'.out, HW1.out]
          go_region
          rw [HW2.out]
          clear c3 cn fn d0 d1 d2 d3 d4
          obtain ⟨tt0, tt1, tt2⟩ := Htt.out W2 hbB
          have hkd := Lib.hid (ekind_any k sc A fl cap W2)
          go_wp2_with fail
          refine hkd.out.mono ?_
          rintro e w3 ⟨rfl, hb3⟩
          rw [Hk2.out]
          clear tt0 tt1 tt2
          have hz3 := hb3.size
          have hv3 := Hv2.out.keep (hb3.block vb (by omega)) (hb3.block nb (by omega))
          have hR3 := own_below HR2.out.1 hb3
          have e1 := (hb3.block wr.heap.size (by omega)).trans Hx2.out
          have x1 := cell_of_row w3 wr.heap.size 3 _ _ _ e1
          simp at x1
          obtain ⟨_, _, _, _, _, c4, _, _, f4, _⟩ := hv3.cells
          clear e1
          have hlt3 := hR3.lt
          have hk4 : ∀ o w4, (w3.alloc o).grownBy w4 r3.ownBlock → NvW k sc A fl cap vb nb nw ws2 r2 r3 r4 w4 ∧ Below (w.heap.size + 2) W0 w4 := fun o w4 hg => by
            have hne : ∀ q, q < w.heap.size + 4 → some q ≠ r3.ownBlock := fun q hq e => by have := (hlt3 q e.symm).1; omega
            have hkk : ∀ q, q < w.heap.size + 4 → w4.heap[q]? = w3.heap[q]? := fun q hq => (hg.block q (by simp; omega) (hne q hq)).trans (Below.heap_alloc w3 o q (by omega))
            refine ⟨hv3.keep (hkk vb (by omega)) (hkk nb (by omega)), hg.os.trans (hb3.os.trans hbB.os), hg.tape.trans (hb3.tape.trans hbB.tape), hg.output.trans (hb3.output.trans hbB.output), by have := hg.size; have := hbB.size; simp at *; omega, fun q hq => ?_⟩
            rw [hkk q (by omega), hb3.block q (by omega), hbB.block q hq]
          have Hk4 := Lib.hid hk4
          have Hst4 : Hid (∀ o w4, (w3.alloc o).grownBy w4 r3.ownBlock → w4.cell? ⟨vb, 5, none⟩ = some r3 ∧ w4.frozen? ⟨vb, 5, none⟩ = false) := fun o w4 hg => by
            obtain ⟨_, _, _, _, _, c4, _, _, f4, _⟩ := (hk4 o w4 hg).1.cells
            exact ⟨c4, f4⟩
          have h3 : Hid (j + 1 ≤ maxLen) := by show _ ≤ _; unfold maxLen; omega
          have h4 : Hid ((j + 1) * 16 ≤ 140737488355328) := by show _ ≤ _; omega
          have h5 : Hid (∀ o, w.heap.size + 4 ≤ (w3.alloc o).heap.size) := fun o => by simp; omega
          clear hk4 hlt3 hv3
          go_wp2_with (at_builtin; refine wpList_append_own2 _ rfl _ _ 52 rfl (w.heap.size + 4) 9 i1 _ 1 16 Tryz.underlying52 hi1 iz1 isz1 iby1 rfl (by decide) _ j ((l.take j).map fun x => .string x.a.s) rfl (hR3.alloc _) ⟨w3.heap.size, 0, none⟩ 1 1 [.string x.a.s] rfl (by decide) rfl (fun q u' h => new_cells _ _ _ q u' h) (by simp [Value.oneCell']) h3.out h4.out (h5.out _) ?_; intro sv' w4 hown4 hg4 hm4; obtain ⟨A', cap', rfl⟩ := own_slice hown4; obtain ⟨g4, ff4⟩ := Hst4.out _ w4 hg4)
          obtain ⟨hv4, hb4⟩ := Hk4.out _ w4 hg4
          go_roundw
          case rel =>
            refine ⟨j + 1, ws2, r2, .slice A' (j + 1) cap', r4, by omega, by simp, hbits2, ⟨?_, ?_, hv4.l, hv4.ne⟩, hb4.setCell (by simp; omega) _, ?_, HR2.out.2⟩
            · rw [setCell_row _ _ _ _ _ _ _ hv4.v]; simp
            · exact (Deep.blk_setCell_other _ _ _ _ (by simp; omega)).trans hv4.n
            · have ht : (l.take (j + 1)).map (fun x => Value.string x.a.s) = (l.take j).map (fun x => Value.string x.a.s) ++ [.string x.a.s] := by
                rw [List.take_add_one, hx]; simp
              rw [ht]
              exact own_keep hown4 fun q h1 _ => Deep.blk_setCell_other _ _ _ _ (by simp; omega)
          case measure => simp [intOf]; omega
        · have e0 : (x.a.k == 0) = false := by simpa using hnull
          obtain ⟨W2, hW2⟩ : ∃ W2, W1 = W2 := ⟨_, rfl⟩
          have hz2 : W2.heap.size = wr.heap.size + 1 := by rw [← hW2, ← hzW1]
          have hbB : Below (w.heap.size + 2) W0 W2 := by rw [← hW2]; exact hb.trans (hbW1.mono (by omega))
          have hbits2 := hbits.skip (by rw [nulAt_of hx]; exact e0)
          have HR2 := Lib.hid (show RS l (w.heap.size + 4) j r2 r3 r4 W2 by rw [← hW2]; exact hR.keep (fun q _ h2 => hbW1.block q h2) (by omega))
          rw [hW2] at hx1 hv1
          have Hx2 := Lib.hid hx1
          have Hv2 := Lib.hid hv1
          have HW2 := Lib.hid hW2
          obtain ⟨ws2, hws2⟩ : ∃ ws2, ws = ws2 := ⟨_, rfl⟩
          subst hws2
          obtain ⟨tt0, tt1, tt2⟩ := Htt.out W2 hbB
          rw [← hW2, ← HW1.out, ← Ho1.out] at tt0 tt1 tt2
          have hkd := Lib.hid (ekind_any k sc A fl cap W2)
          clear hSr hv hv1 hx1 hR hbits hW2 hnull
          go_wp2_with fail
          rw [Ho1.out, HW1.out, HW2.out]
          clear d0 d1 d2 d3 d4
          refine hkd.out.mono ?_
          rintro e w3 ⟨rfl, hb3⟩
          rw [Hk2.out]
          clear tt0 tt1 tt2
          have hz3 := hb3.size
          have hv3 := Hv2.out.keep (hb3.block vb (by omega)) (hb3.block nb (by omega))
          have hR3 := own_below HR2.out.1 hb3
          have e1 := (hb3.block wr.heap.size (by omega)).trans Hx2.out
          have x1 := cell_of_row w3 wr.heap.size 3 _ _ _ e1
          simp at x1
          obtain ⟨_, _, _, _, _, c4, _, _, f4, _⟩ := hv3.cells
          clear e1
          have hlt3 := hR3.lt
          have hk4 : ∀ o w4, (w3.alloc o).grownBy w4 r3.ownBlock → NvW k sc A fl cap vb nb nw ws r2 r3 r4 w4 ∧ Below (w.heap.size + 2) W0 w4 := fun o w4 hg => by
            have hne : ∀ q, q < w.heap.size + 4 → some q ≠ r3.ownBlock := fun q hq e => by have := (hlt3 q e.symm).1; omega
            have hkk : ∀ q, q < w.heap.size + 4 → w4.heap[q]? = w3.heap[q]? := fun q hq => (hg.block q (by simp; omega) (hne q hq)).trans (Below.heap_alloc w3 o q (by omega))
            refine ⟨hv3.keep (hkk vb (by omega)) (hkk nb (by omega)), hg.os.trans (hb3.os.trans hbB.os), hg.tape.trans (hb3.tape.trans hbB.tape), hg.output.trans (hb3.output.trans hbB.output), by have := hg.size; have := hbB.size; simp at *; omega, fun q hq => ?_⟩
            rw [hkk q (by omega), hb3.block q (by omega), hbB.block q hq]
          have Hk4 := Lib.hid hk4
          have Hst4 : Hid (∀ o w4, (w3.alloc o).grownBy w4 r3.ownBlock → w4.cell? ⟨vb, 5, none⟩ = some r3 ∧ w4.frozen? ⟨vb, 5, none⟩ = false) := fun o w4 hg => by
            obtain ⟨_, _, _, _, _, c4, _, _, f4, _⟩ := (hk4 o w4 hg).1.cells
            exact ⟨c4, f4⟩
          have h3 : Hid (j + 1 ≤ maxLen) := by show _ ≤ _; unfold maxLen; omega
          have h4 : Hid ((j + 1) * 16 ≤ 140737488355328) := by show _ ≤ _; omega
          have h5 : Hid (∀ o, w.heap.size + 4 ≤ (w3.alloc o).heap.size) := fun o => by simp; omega
          clear hk4 hlt3 hv3
          go_wp2_with (at_builtin; refine wpList_append_own2 _ rfl _ _ 52 rfl (w.heap.size + 4) 9 i1 _ 1 16 Tryz.underlying52 hi1 iz1 isz1 iby1 rfl (by decide) _ j ((l.take j).map fun x => .string x.a.s) rfl (hR3.alloc _) ⟨w3.heap.size, 0, none⟩ 1 1 [.string x.a.s] rfl (by decide) rfl (fun q u' h => new_cells _ _ _ q u' h) (by simp [Value.oneCell']) h3.out h4.out (h5.out _) ?_; intro sv' w4 hown4 hg4 hm4; obtain ⟨A', cap', rfl⟩ := own_slice hown4; obtain ⟨g4, ff4⟩ := Hst4.out _ w4 hg4)
          obtain ⟨hv4, hb4⟩ := Hk4.out _ w4 hg4
          go_roundw
          case rel =>
            refine ⟨j + 1, ws, r2, .slice A' (j + 1) cap', r4, by omega, by simp, hbits2, ⟨?_, ?_, hv4.l, hv4.ne⟩, hb4.setCell (by simp; omega) _, ?_, HR2.out.2⟩
            · rw [setCell_row _ _ _ _ _ _ _ hv4.v]; simp
            · exact (Deep.blk_setCell_other _ _ _ _ (by simp; omega)).trans hv4.n
            · have ht : (l.take (j + 1)).map (fun x => Value.string x.a.s) = (l.take j).map (fun x => Value.string x.a.s) ++ [.string x.a.s] := by
                rw [List.take_add_one, hx]; simp
              rw [ht]
              exact own_keep hown4 fun q h1 _ => Deep.blk_setCell_other _ _ _ _ (by simp; omega)
          case measure => simp [intOf]; omega
      · obtain rfl : j = size := by omega
        obtain ⟨c0, c1, c2, c3, c4, c5, c6, _⟩ := hv.cells
        obtain ⟨A', cap', rfl, rfl, rfl⟩ := hR.row
        have e1 : W0.heap[w.heap.size + 1]? = some (.cells #[.int .i64 0, .int .i64 0, .slice none 0 0, .slice none 0 0, .slice none 0 0, .slice none 0 0, .slice none 0 0] 54 (0, 0)) := by
          rw [← HW0.out]
          show (World.alloc _ _).heap[w.heap.size + 1]? = _
          rw [Below.heap_alloc _ _ _ (by simp), Below.heap_alloc _ _ _ (by simp)]
          have := heap_alloc_new (w.alloc (.cells #[.int .i64 k, .int .i64 sc, .slice A fl cap] 50)) (.cells #[.int .i64 0, .int .i64 0, .slice none 0 0, .slice none 0 0, .slice none 0 0, .slice none 0 0, .slice none 0 0] 54)
          simpa using this
        have e2 := (hb.block (w.heap.size + 1) (by omega)).trans e1
        have q0 := cell_of_row wr (w.heap.size + 1) 0 _ _ _ e2
        have q1 := cell_of_row wr (w.heap.size + 1) 1 _ _ _ e2
        have q2 := cell_of_row wr (w.heap.size + 1) 2 _ _ _ e2
        have q3 := cell_of_row wr (w.heap.size + 1) 3 _ _ _ e2
        have q4 := cell_of_row wr (w.heap.size + 1) 4 _ _ _ e2
        have q5 := cell_of_row wr (w.heap.size + 1) 5 _ _ _ e2
        have q6 := cell_of_row wr (w.heap.size + 1) 6 _ _ _ e2
        have fz : ∀ i, wr.frozen? ⟨w.heap.size + 1, i, none⟩ = false := fun i => by simp [World.frozen?, e2]
        simp at q0 q1 q2 q3 q4 q5 q6
        clear e1 e2 hSr
        go_wp2
        refine bodyPost_ret (v := .agg #[.int .i64 k, .int .i64 sc, .slice A fl cap, .slice (some ⟨nb, 0, none⟩) nw nw, .slice none 0 0, .slice A' j cap', .slice none 0 0]) (by simp [results, Tryz.results38, go_sem, *]) rfl ?_
        refine ⟨nb, ws, _, _, _, rfl, ?_, by omega, hv.l, hbits, ?_, ?_⟩
        · exact (((((((Hb0.out.trans (hb.mono (by omega))).setCell (by simp) _).setCell (by simp) _).setCell (by simp) _).setCell (by simp) _).setCell (by simp) _).setCell (by simp) _).setCell (by simp) _
        · iterate 7 rw [Deep.blk_setCell_other _ _ _ _ (by simp; omega)]
          exact hv.n
        · refine hR.keep (fun q h1 _ => ?_) (by simp [World.setCell])
          iterate 7 rw [Deep.blk_setCell_other _ _ _ _ (by simp; omega)]
end Go.Proofs.YtkadahfknccjfaaGreatDoor
