/-
  Reference of package engine: vector at numbers.
  Reference of package engine: vector at texts.
-/
import Derived.Test.YtkadahfknccjfaaGreatDoorQRvA
import Derived.BigRegion
import Derived.Deep.DeepCutAuto
namespace Go.Proofs.YtkadahfknccjfaaGreatDoor
open Go.RowKit
set_option maxRecDepth 100000 in
set_option maxHeartbeats 4000000 in
theorem rvector_n (k sc : Int) (A A2 : Option Addr) (fl cap size cap2 : Nat) (w : World) (l : List VT) (B : Nat) (hr : VT.Row B w A2 cap2 l) (hB : B ≤ w.heap.size) (hlen : l.length = size) (e4 : (k == 4) = false) (e6 : (k == 6) = false) (e7 : (k == 7) = false) (hs : size ≤ 1024) :
    Calls Tryz.prog 41 #[.agg #[.int .i64 k, .int .i64 sc, .slice A fl cap], .slice A2 size cap2] w (RvNPost k sc A fl cap (w.heap.size + 3) size l w) := by
  obtain ⟨i0, hi, iz, isz, iby⟩ := info_parts infoU64
  obtain ⟨i1, hi1, iz1, isz1, iby1⟩ := info_parts infoInt
  have Hr := Lib.hid hr
  have Hlen := Lib.hid hlen
  clear hr hlen
  go_enter Tryz.func41, Tryz.ntmps41
  go_wp2
  generalize hW0 : World.alloc _ _ = W0
  obtain ⟨vb, hvb⟩ : ∃ n, w.heap.size + 1 + 1 = n := ⟨_, rfl⟩
  simp only [hvb]
  have P0 : W0.heap[w.heap.size]? = some (.cells #[.int .i64 k, .int .i64 sc, .slice A fl cap] 50 (0, 0)) := by
    rw [← hW0, Below.heap_alloc _ _ _ (by simp; omega), Below.heap_alloc _ _ _ (by simp)]
    exact heap_alloc_new w _
  have P1 : W0.heap[w.heap.size + 1]? = some (.cells #[.int .i64 0, .int .i64 0, .slice none 0 0, .slice none 0 0, .slice none 0 0, .slice none 0 0, .slice none 0 0] 54 (0, 0)) := by
    rw [← hW0, Below.heap_alloc _ _ _ (by simp)]
    exact blk_new _ _ _ (by simp)
  have P2 : W0.heap[vb]? = some (.cells #[.int .i64 k, .int .i64 sc, .slice A fl cap, .slice none 0 0, .slice none 0 0, .slice none 0 0, .slice none 0 0] 54 (0, 0)) := by
    rw [← hW0, ← hvb]
    exact blk_new _ _ _ (by simp)
  have Htt : Hid (∀ W, Below vb W0 W → W.cell? ⟨w.heap.size, 0, none⟩ = some (.int .i64 k)) := fun W h => by
    have Q0 := (h.block w.heap.size (by omega)).trans P0
    exact cell_of_row W w.heap.size 0 _ _ _ Q0
  have Hz0 : Hid (W0.heap.size = w.heap.size + 3) := by show _ = _; rw [← hW0]; simp
  have Hb0 : Hid (Below w.heap.size w W0) := by rw [← hW0]; exact bel3 _ _ _ _
  have HP1 := Lib.hid P1
  have HP2 := Lib.hid P2
  clear hW0 P0 P1 P2
  go_loopw [12] (fun i wr => RvNRel k sc A fl cap (w.heap.size + 3) W0 vb l size i wr) (fun i _ => size - (intOf i).toNat)
  case atStart =>
    refine ⟨0, [], .slice none 0 0, .slice none 0 0, Nat.zero_le _, rfl, BitsOf.zero l 0, rfl, ⟨HP2.out, World.ownsRow_nil _ _ _ _, World.ownsRow_nil _ _ _ _, (fun q hq => (by cases hq)), by omega⟩, Below.refl _ _⟩
  case round =>
    obtain ⟨j, ws, rN, r, hj, rfl, hbits, hwl, hv, hb⟩ := hrel
    have hSr : Same B w wr := (Same.mono (Same.of_below Hb0.out) hB).trans (Same.mono (Same.of_below hb) (by omega))
    have hzr : w.heap.size + 3 ≤ wr.heap.size := by rw [← Hz0.out]; exact hb.size
    by_cases hlt : j < size
    · obtain ⟨x, ad, hx, rfl, hbx, d0, d1, d2, d3, d4⟩ := (Hr.out.keep hSr).get (show j < l.length by rw [Hlen.out]; exact hlt)
      obtain ⟨o1, ho1⟩ : ∃ o1, Obj.cells #[.int .i64 x.a.k, .int .i64 x.a.n, .int .i64 x.a.sc, .string x.a.s, .slice x.a.A x.l.length x.a.cap] 61 = o1 := ⟨_, rfl⟩
      obtain ⟨W1, hW1⟩ : ∃ W1, wr.alloc o1 = W1 := ⟨_, rfl⟩
      have hbW1 : Below wr.heap.size wr W1 := by rw [← hW1]; exact bel1 _ _
      have hzW1 : W1.heap.size = wr.heap.size + 1 := by rw [← hW1]; simp
      have hx1 : W1.heap[wr.heap.size]? = some (.cells #[.int .i64 x.a.k, .int .i64 x.a.n, .int .i64 x.a.sc, .string x.a.s, .slice x.a.A x.l.length x.a.cap] 61 (0, 0)) := by rw [← hW1, ← ho1]; exact heap_alloc_new wr _
      have hb1 : Below vb W0 W1 := hb.trans (hbW1.mono (by omega))
      have Hx := Lib.hid hx
      have HW1 := Lib.hid hW1
      have Ho1 := Lib.hid ho1
      have Hx1 := Lib.hid hx1
      have Hv1 := Lib.hid (hv.below hbW1)
      have HnN := Lib.hid hv.n.lt
      have Hgr := Lib.hid hv.o.lt
      have Hwl := Lib.hid hwl
      have Hzw1 := Lib.hid hzW1
      have hzw1 : wr.heap.size + 1 ≤ W1.heap.size := by omega
      clear hx hW1 ho1 hx1 hv hwl hSr hzW1
      by_cases hm0 : j % 64 = 0
      · have t0 : ((j : Int) % 64 == 0) = true := by simp; omega
        have t0' : ((j : Int).tmod 64 == 0) = true := by rw [Int.tmod_eq_emod_of_nonneg (by omega)]; exact t0
        obtain ⟨_, _, _, c3, _, f3⟩ := Hv1.out.cells
        have f3' := f3 3
        clear f3
        have Hst4 : Hid (∀ o w4, (W1.alloc o).grownBy w4 rN.ownBlock → w4.cell? ⟨vb, 3, none⟩ = some rN ∧ w4.frozen? ⟨vb, 3, none⟩ = false ∧ (∀ u, (w4.setCell ⟨vb, 3, none⟩ u).heap[wr.heap.size]? = W1.heap[wr.heap.size]?) ∧ (∀ u, (w4.setCell ⟨vb, 3, none⟩ u).cell? ⟨wr.heap.size, 0, none⟩ = some (.int .i64 x.a.k)) ∧ (∀ u, (w4.setCell ⟨vb, 3, none⟩ u).cell? ⟨wr.heap.size, 1, none⟩ = some (.int .i64 x.a.n)) ∧ (∀ u, (w4.setCell ⟨vb, 3, none⟩ u).cell? ⟨wr.heap.size, 2, none⟩ = some (.int .i64 x.a.sc)) ∧ (∀ u, (w4.setCell ⟨vb, 3, none⟩ u).cell? ⟨wr.heap.size, 3, none⟩ = some (.string x.a.s)) ∧ (∀ u, (w4.setCell ⟨vb, 3, none⟩ u).cell? ⟨wr.heap.size, 4, none⟩ = some (.slice x.a.A x.l.length x.a.cap))) := fun o w4 hg => by
          have gk := grow_keep Hv1.out.n hg
          have k4 := gk.1 vb (by omega) (by omega)
          have kx : ∀ u, (w4.setCell ⟨vb, 3, none⟩ u).heap[wr.heap.size]? = W1.heap[wr.heap.size]? := fun u => (Deep.blk_setCell_other _ _ _ _ (by simp; omega)).trans (gk.2.1 wr.heap.size (by omega) (fun e => by have := (HnN.out _ e).2; omega))
          exact ⟨(World.cell?_of_block k4).trans c3, (World.frozen?_of_block k4).trans f3', kx, fun u => cell_of_row _ wr.heap.size 0 _ _ _ ((kx u).trans Hx1.out), fun u => cell_of_row _ wr.heap.size 1 _ _ _ ((kx u).trans Hx1.out), fun u => cell_of_row _ wr.heap.size 2 _ _ _ ((kx u).trans Hx1.out), fun u => cell_of_row _ wr.heap.size 3 _ _ _ ((kx u).trans Hx1.out), fun u => cell_of_row _ wr.heap.size 4 _ _ _ ((kx u).trans Hx1.out)⟩
        have h3 : Hid (ws.length + 1 ≤ maxLen) := by show _ ≤ _; have := Hwl.out; unfold maxLen; omega
        have h4 : Hid ((ws.length + 1) * 8 ≤ 140737488355328) := by show _ ≤ _; have := Hwl.out; omega
        have h5 : Hid (∀ o, w.heap.size + 3 ≤ (W1.alloc o).heap.size) := fun o => by simp; omega
        have Hm0 := Lib.hid hm0
        clear hm0
        go_upto_region 5 with (fail)
        rw [Ho1.out, HW1.out]
        go_wp2_with (at_builtin; refine wpList_append_own2 _ rfl _ _ 51 rfl (w.heap.size + 3) 66 i0 _ 1 8 Tryz.underlying51 hi iz isz iby rfl (by decide) _ ws.length ((wI ws).map (Value.int .u64)) rfl (Hv1.out.n.alloc _) ⟨W1.heap.size, 0, none⟩ 1 1 [.int .u64 0] rfl (by decide) rfl (fun q u' h => new_cells _ _ _ q u' h) (by simp [Value.oneCell']) h3.out h4.out (h5.out _) ?_; intro sv' w4 hown4 hg4 hm4; obtain ⟨A', cap', rfl⟩ := own_slice hown4; obtain ⟨g4, ff4, kx, z0, z1, z2, z3, z4⟩ := Hst4.out _ w4 hg4; have Hkx := Lib.hid kx; clear kx)
        generalize hW2 : World.setCell _ _ _ = W2
        have Hx2 : Hid (W2.heap[wr.heap.size]? = some (.cells #[.int .i64 x.a.k, .int .i64 x.a.n, .int .i64 x.a.sc, .string x.a.s, .slice x.a.A x.l.length x.a.cap] 61 (0, 0))) := by rw [← hW2]; exact (Hkx.out _).trans Hx1.out
        obtain ⟨rN2, hrN2⟩ : ∃ v, Value.slice A' (ws.length + 1) cap' = v := ⟨_, rfl⟩
        have hv2 := (Hv1.out.below (bel1 _ _)).more hown4 hg4 hm4
        rw [hW2] at hv2
        have hb2 : Below vb W0 W2 := by rw [← hW2]; exact ((grow_keep Hv1.out.n hg4).2.2 _ _ hb1 (by omega) (by omega)).setCell (by simp) _
        have hzw2 : wr.heap.size + 1 ≤ W2.heap.size := by
          rw [← hW2]
          have := hg4.size
          simp [World.setCell] at *
          omega
        obtain ⟨ws2, hws2⟩ : ∃ u, ws ++ [0] = u := ⟨_, rfl⟩
        have Hwl2 : Hid (j / 64 < ws2.length ∧ ws2.length = (j + 64) / 64) := by
          show _ ∧ _
          have := Hwl.out
          have := Hm0.out
          rw [← hws2, List.length_append, List.length_singleton]
          omega
        have hbits2 : BitsOf l j ws2 := by rw [← hws2]; exact hbits.more
        have Hgx : Hid (∀ g, rN2.ownBlock = some g → g ≠ wr.heap.size) := fun g hg e => by
          rw [← hrN2] at hg
          rcases hm4 with hm | hm
          · have := (HnN.out g (hm ▸ hg)).2; omega
          · have := hm g hg; simp at this; omega
        rw [hws2, hrN2] at hv2
        have Hv2 := Lib.hid hv2
        clear hv2 z0 z1 z2 z3 z4 g4 ff4 hown4 hg4 hm4 hW2 hws2 c3 f3' d0 d1 d2 d3 d4 t0 t0' hrN2
        -- at the call of null, in W2: Hv2, Hx2, hb2, hbits2 : BitsOf l j ws2, Hwl2 : j / 64 < ws2.length ∧ ws2.length = (j + 64) / 64, Hgx, Hgr
        have hnc := Lib.hid (rnull_any x.a.k x.a.n x.a.sc x.a.s x.a.A x.l.length x.a.cap W2)
        by_cases hnull : x.a.k = 0
        · have e0 := Lib.hid (show (x.a.k == 0) = true by simpa using hnull)
          have Hy : Hid (nz x = zeroV) := by show _ = _; unfold nz; rw [if_pos hnull]
          have Hnul := Lib.hid (show nulAt l j = true by rw [nulAt_of Hx.out]; exact e0.out)
          clear hnull
          refine hnc.out.mono ?_
          rintro e W2b ⟨rfl, hb2b⟩
          rw [e0.out]
          have hz2b := hb2b.size
          have hv2b := Hv2.out.below hb2b
          have hx2b := (hb2b.block wr.heap.size (by omega)).trans Hx2.out
          have hb2c : Below vb W0 W2b := hb2.trans (hb2b.mono (by omega))
          obtain ⟨g, cN, hrN, hgb, hgz, cn, fn⟩ := hv2b.word Hwl2.out.1
          have hgx : g ≠ wr.heap.size := Hgx.out g (by rw [hrN]; rfl)
          rw [hrN] at hv2b
          obtain ⟨c, hc⟩ : ∃ c, ws2.getD (j / 64) 0 = c := ⟨_, rfl⟩
          rw [hc] at cn
          obtain ⟨ws3, hbits3, hwl3, hv3⟩ := hv2b.bit Hwl2.out.1 hbits2 Hnul.out c hc hgb
          obtain ⟨_, _, _, c3, _⟩ := hv2b.cells
          obtain ⟨q, hq⟩ : ∃ q, j / 64 = q := ⟨_, rfl⟩
          obtain ⟨m, hm⟩ : ∃ m, j % 64 = m := ⟨_, rfl⟩
          have t1 : (j : Int) / 64 = (q : Int) := by omega
          have t2 : (j : Int) % 64 = (m : Int) := by omega
          have t1' : (j : Int).tdiv 64 = (q : Int) := by rw [Int.tdiv_eq_ediv_of_nonneg (by omega)]; exact t1
          have t2' : (j : Int).tmod 64 = (m : Int) := by rw [Int.tmod_eq_emod_of_nonneg (by omega)]; exact t2
          have hql : q < ws2.length := by rw [← hq]; exact Hwl2.out.1
          have hm64 : m < 64 := by omega
          rw [hq] at cn fn hv3
          rw [hm] at hv3
          have hxo : ∀ u i, (W2b.setCell ⟨g, q, none⟩ u).cell? ⟨wr.heap.size, i, none⟩ = W2b.cell? ⟨wr.heap.size, i, none⟩ := fun u i => World.cell?_of_block (Deep.blk_setCell_other _ _ _ _ (by simpa using hgx.symm))
          have y0 := fun u => (hxo u 0).trans (cell_of_row W2b wr.heap.size 0 _ _ _ hx2b)
          have y1 := fun u => (hxo u 1).trans (cell_of_row W2b wr.heap.size 1 _ _ _ hx2b)
          have y2 := fun u => (hxo u 2).trans (cell_of_row W2b wr.heap.size 2 _ _ _ hx2b)
          have y3 := fun u => (hxo u 3).trans (cell_of_row W2b wr.heap.size 3 _ _ _ hx2b)
          have y4 := fun u => (hxo u 4).trans (cell_of_row W2b wr.heap.size 4 _ _ _ hx2b)
          simp at y0 y1 y2 y3 y4
          have hxf : ∀ u i, (W2b.setCell ⟨g, q, none⟩ u).frozen? ⟨wr.heap.size, i, none⟩ = false := fun u i => (World.frozen?_of_block (Deep.blk_setCell_other _ _ _ _ (by simpa using hgx.symm))).trans (by simp [World.frozen?, hx2b])
          have Hhx2b := Lib.hid hx2b
          have Hhv3 := Lib.hid hv3
          have HrN := Lib.hid hrN
          have Hhq := Lib.hid hq
          have Hhm := Lib.hid hm
          clear hx2b hv2b hv3 hxo hc hrN hq hm
          go_upto_region 10 with (fail)
          generalize hW3 : World.setCell _ _ _ = W3
          have a1 : (Value.slice (some ⟨g, 0, none⟩) ws3.length cN).ownBlock ≠ some wr.heap.size := by simpa [Value.ownBlock] using hgx
          have a2 : r.ownBlock ≠ some wr.heap.size := fun e => by have := (Hgr.out _ e).2; omega
          have a3 : vb ≠ wr.heap.size := by omega
          have Hv3 := Lib.hid (((((Hhv3.out.other a1 a2 a3 0 (.int .i64 0)).other a1 a2 a3 1 (.int .i64 0)).other a1 a2 a3 2 (.int .i64 0)).other a1 a2 a3 3 (.string ⟨#[]⟩)).other a1 a2 a3 4 (.slice none 0 0))
          have x0 : (W2b.setCell ⟨g, q, none⟩ (.int .u64 (bits .or .u64 (c : Int) (IntKind.u64.wrap (2 ^ m))))).heap[wr.heap.size]? = _ := (Deep.blk_setCell_other _ _ _ _ (by simpa using hgx.symm)).trans Hhx2b.out
          have x5 := setCell_row _ wr.heap.size 4 (.slice none 0 0) _ _ _ (setCell_row _ wr.heap.size 3 (.string ⟨#[]⟩) _ _ _ (setCell_row _ wr.heap.size 2 (.int .i64 0) _ _ _ (setCell_row _ wr.heap.size 1 (.int .i64 0) _ _ _ (setCell_row _ wr.heap.size 0 (.int .i64 0) _ _ _ x0))))
          have hb3 : Below vb W0 W3 := by rw [← hW3]; exact (((((hb2c.setCell (by simp; omega) _).setCell (by simp; omega) _).setCell (by simp; omega) _).setCell (by simp; omega) _).setCell (by simp; omega) _).setCell (by simp; omega) _
          have Hz3 : wr.heap.size + 1 ≤ W3.heap.size := by rw [← hW3]; simp [World.setCell]; omega
          rw [hW3] at Hv3 x5
          have Hx3 : Hid (W3.heap[wr.heap.size]? = some (.cells #[.int .i64 zeroV.a.k, .int .i64 zeroV.a.n, .int .i64 zeroV.a.sc, .string zeroV.a.s, .slice zeroV.a.A zeroV.l.length zeroV.a.cap] 61 (0, 0))) := by
            show _ = _
            rw [x5]
            simp [zeroV, VT.a, VT.l]
          have Hwl3 := Lib.hid (hwl3.trans Hwl2.out.2)
          clear x0 x5 hW3 y0 y1 y2 y3 y4 hxf c3 cn fn t1 t2 t1' t2' hwl3
          have hz3 : wr.heap.size + 1 ≤ W3.heap.size := Hz3
          have tt0 := Htt.out W3 hb3
          have xc := cell_of_row W3 wr.heap.size 1 _ _ _ Hx3.out
          simp at xc
          obtain ⟨_, _, _, _, c4, f4⟩ := Hv3.out.cells
          have Hst4 : Hid (∀ o w4, (W3.alloc o).grownBy w4 r.ownBlock → w4.cell? ⟨vb, 4, none⟩ = some r ∧ w4.frozen? ⟨vb, 4, none⟩ = false) := fun o w4 hg => by
            have k4 := (grow_keep Hv3.out.o hg).1 vb (by omega) (by omega)
            exact ⟨(World.cell?_of_block k4).trans c4, (World.frozen?_of_block k4).trans (f4 _)⟩
          have h3 : Hid (j + 1 ≤ maxLen) := by show _ ≤ _; unfold maxLen; omega
          have h4 : Hid ((j + 1) * 8 ≤ 140737488355328) := by show _ ≤ _; omega
          have h5 : Hid (∀ o, w.heap.size + 3 ≤ (W3.alloc o).heap.size) := fun o => by simp; omega
          have f4' := f4 4
          clear f4
          go_wp2_with (at_builtin; refine wpList_append_own2 _ rfl _ _ 30 rfl (w.heap.size + 3) 3 i1 _ 1 8 Tryz.underlying30 hi1 iz1 isz1 iby1 rfl (by decide) _ j (((l.map nz).take j).flatMap (fun x : VT => [Value.int .i64 x.a.n])) rfl (Hv3.out.o.alloc _) ⟨W3.heap.size, 0, none⟩ 1 1 ((fun x : VT => [Value.int .i64 x.a.n]) zeroV) rfl (by decide) rfl (fun q u' h => new_cells _ _ _ q u' h) (by simp [Value.oneCell']) h3.out h4.out (h5.out _) ?_; intro sv' w4 hown4 hg4 hm4; obtain ⟨A', cap', rfl⟩ := own_slice hown4; obtain ⟨g4, ff4⟩ := Hst4.out _ w4 hg4)
          have hst := (Hv3.out.below (bel1 _ _)).step Hx.out Hy.out hown4 hg4 hm4
          have hb4 := (grow_keep Hv3.out.o hg4).2.2 _ _ hb3 (by omega) (by omega)
          have Hst := Lib.hid hst
          clear hst
          go_roundw
          case rel => exact ⟨j + 1, ws3, _, _, by omega, by simp, hbits3, by have := Hwl3.out; omega, Hst.out, hb4.setCell (by simp) _⟩
          case measure => simp [intOf]; omega
        · have e0 := Lib.hid (show (x.a.k == 0) = false by simpa using hnull)
          have Hy : Hid (nz x = x) := by show _ = _; unfold nz; rw [if_neg hnull]
          have Hnul := Lib.hid (show nulAt l j = false by rw [nulAt_of Hx.out]; exact e0.out)
          clear hnull
          refine hnc.out.mono ?_
          rintro e W3 ⟨rfl, hb2b⟩
          rw [e0.out]
          have hz2b := hb2b.size
          have Hv3 := Lib.hid (Hv2.out.below hb2b)
          have Hx3 := Lib.hid ((hb2b.block wr.heap.size (by omega)).trans Hx2.out)
          have hb3 : Below vb W0 W3 := hb2.trans (hb2b.mono (by omega))
          have Hz3 : wr.heap.size + 1 ≤ W3.heap.size := by omega
          have hbits3 := hbits2.skip Hnul.out
          have Hwl3 := Lib.hid Hwl2.out.2
          have hz3 : wr.heap.size + 1 ≤ W3.heap.size := Hz3
          have tt0 := Htt.out W3 hb3
          have xc := cell_of_row W3 wr.heap.size 1 _ _ _ Hx3.out
          simp at xc
          obtain ⟨_, _, _, _, c4, f4⟩ := Hv3.out.cells
          have Hst4 : Hid (∀ o w4, (W3.alloc o).grownBy w4 r.ownBlock → w4.cell? ⟨vb, 4, none⟩ = some r ∧ w4.frozen? ⟨vb, 4, none⟩ = false) := fun o w4 hg => by
            have k4 := (grow_keep Hv3.out.o hg).1 vb (by omega) (by omega)
            exact ⟨(World.cell?_of_block k4).trans c4, (World.frozen?_of_block k4).trans (f4 _)⟩
          have h3 : Hid (j + 1 ≤ maxLen) := by show _ ≤ _; unfold maxLen; omega
          have h4 : Hid ((j + 1) * 8 ≤ 140737488355328) := by show _ ≤ _; omega
          have h5 : Hid (∀ o, w.heap.size + 3 ≤ (W3.alloc o).heap.size) := fun o => by simp; omega
          have f4' := f4 4
          clear f4
          go_wp2_with (at_builtin; refine wpList_append_own2 _ rfl _ _ 30 rfl (w.heap.size + 3) 3 i1 _ 1 8 Tryz.underlying30 hi1 iz1 isz1 iby1 rfl (by decide) _ j (((l.map nz).take j).flatMap (fun x : VT => [Value.int .i64 x.a.n])) rfl (Hv3.out.o.alloc _) ⟨W3.heap.size, 0, none⟩ 1 1 ((fun x : VT => [Value.int .i64 x.a.n]) x) rfl (by decide) rfl (fun q u' h => new_cells _ _ _ q u' h) (by simp [Value.oneCell']) h3.out h4.out (h5.out _) ?_; intro sv' w4 hown4 hg4 hm4; obtain ⟨A', cap', rfl⟩ := own_slice hown4; obtain ⟨g4, ff4⟩ := Hst4.out _ w4 hg4)
          have hst := (Hv3.out.below (bel1 _ _)).step Hx.out Hy.out hown4 hg4 hm4
          have hb4 := (grow_keep Hv3.out.o hg4).2.2 _ _ hb3 (by omega) (by omega)
          have Hst := Lib.hid hst
          clear hst
          go_roundw
          case rel => exact ⟨j + 1, ws2, rN2, _, by omega, by simp, hbits3, by have := Hwl3.out; omega, Hst.out, hb4.setCell (by simp) _⟩
          case measure => simp [intOf]; omega
      · have t0 : ((j : Int) % 64 == 0) = false := by simp; omega
        have t0' : ((j : Int).tmod 64 == 0) = false := by rw [Int.tmod_eq_emod_of_nonneg (by omega)]; exact t0
        have Hwl2 : Hid (j / 64 < ws.length ∧ ws.length = (j + 64) / 64) := by
          show _ ∧ _
          have := Hwl.out
          omega
        have Hgx : Hid (∀ g, rN.ownBlock = some g → g ≠ wr.heap.size) := fun g hg e => by
          have := (HnN.out g hg).2
          omega
        clear hm0
        go_wp2_with fail
        rw [Ho1.out, HW1.out]
        obtain ⟨W2, hW2⟩ : ∃ u, u = W1 := ⟨_, rfl⟩
        obtain ⟨ws2, hws2⟩ : ∃ u, u = ws := ⟨_, rfl⟩
        obtain ⟨rN2, hrN2⟩ : ∃ u, u = rN := ⟨_, rfl⟩
        subst hW2 hws2 hrN2
        have Hx2 := Hx1
        have Hv2 := Hv1
        have hb2 := hb1
        have hzw2 := hzw1
        have hbits2 := hbits
        clear d0 d1 d2 d3 d4 t0 t0'
        -- at the call of null, in W2: Hv2, Hx2, hb2, hbits2 : BitsOf l j ws2, Hwl2 : j / 64 < ws2.length ∧ ws2.length = (j + 64) / 64, Hgx, Hgr
        have hnc := Lib.hid (rnull_any x.a.k x.a.n x.a.sc x.a.s x.a.A x.l.length x.a.cap W2)
        by_cases hnull : x.a.k = 0
        · have e0 := Lib.hid (show (x.a.k == 0) = true by simpa using hnull)
          have Hy : Hid (nz x = zeroV) := by show _ = _; unfold nz; rw [if_pos hnull]
          have Hnul := Lib.hid (show nulAt l j = true by rw [nulAt_of Hx.out]; exact e0.out)
          clear hnull
          refine hnc.out.mono ?_
          rintro e W2b ⟨rfl, hb2b⟩
          rw [e0.out]
          have hz2b := hb2b.size
          have hv2b := Hv2.out.below hb2b
          have hx2b := (hb2b.block wr.heap.size (by omega)).trans Hx2.out
          have hb2c : Below vb W0 W2b := hb2.trans (hb2b.mono (by omega))
          obtain ⟨g, cN, hrN, hgb, hgz, cn, fn⟩ := hv2b.word Hwl2.out.1
          have hgx : g ≠ wr.heap.size := Hgx.out g (by rw [hrN]; rfl)
          rw [hrN] at hv2b
          obtain ⟨c, hc⟩ : ∃ c, ws2.getD (j / 64) 0 = c := ⟨_, rfl⟩
          rw [hc] at cn
          obtain ⟨ws3, hbits3, hwl3, hv3⟩ := hv2b.bit Hwl2.out.1 hbits2 Hnul.out c hc hgb
          obtain ⟨_, _, _, c3, _⟩ := hv2b.cells
          obtain ⟨q, hq⟩ : ∃ q, j / 64 = q := ⟨_, rfl⟩
          obtain ⟨m, hm⟩ : ∃ m, j % 64 = m := ⟨_, rfl⟩
          have t1 : (j : Int) / 64 = (q : Int) := by omega
          have t2 : (j : Int) % 64 = (m : Int) := by omega
          have t1' : (j : Int).tdiv 64 = (q : Int) := by rw [Int.tdiv_eq_ediv_of_nonneg (by omega)]; exact t1
          have t2' : (j : Int).tmod 64 = (m : Int) := by rw [Int.tmod_eq_emod_of_nonneg (by omega)]; exact t2
          have hql : q < ws2.length := by rw [← hq]; exact Hwl2.out.1
          have hm64 : m < 64 := by omega
          rw [hq] at cn fn hv3
          rw [hm] at hv3
          have hxo : ∀ u i, (W2b.setCell ⟨g, q, none⟩ u).cell? ⟨wr.heap.size, i, none⟩ = W2b.cell? ⟨wr.heap.size, i, none⟩ := fun u i => World.cell?_of_block (Deep.blk_setCell_other _ _ _ _ (by simpa using hgx.symm))
          have y0 := fun u => (hxo u 0).trans (cell_of_row W2b wr.heap.size 0 _ _ _ hx2b)
          have y1 := fun u => (hxo u 1).trans (cell_of_row W2b wr.heap.size 1 _ _ _ hx2b)
          have y2 := fun u => (hxo u 2).trans (cell_of_row W2b wr.heap.size 2 _ _ _ hx2b)
          have y3 := fun u => (hxo u 3).trans (cell_of_row W2b wr.heap.size 3 _ _ _ hx2b)
          have y4 := fun u => (hxo u 4).trans (cell_of_row W2b wr.heap.size 4 _ _ _ hx2b)
          simp at y0 y1 y2 y3 y4
          have hxf : ∀ u i, (W2b.setCell ⟨g, q, none⟩ u).frozen? ⟨wr.heap.size, i, none⟩ = false := fun u i => (World.frozen?_of_block (Deep.blk_setCell_other _ _ _ _ (by simpa using hgx.symm))).trans (by simp [World.frozen?, hx2b])
          have Hhx2b := Lib.hid hx2b
          have Hhv3 := Lib.hid hv3
          have HrN := Lib.hid hrN
          have Hhq := Lib.hid hq
          have Hhm := Lib.hid hm
          clear hx2b hv2b hv3 hxo hc hrN hq hm
          go_upto_region 10 with (fail)
          generalize hW3 : World.setCell _ _ _ = W3
          have a1 : (Value.slice (some ⟨g, 0, none⟩) ws3.length cN).ownBlock ≠ some wr.heap.size := by simpa [Value.ownBlock] using hgx
          have a2 : r.ownBlock ≠ some wr.heap.size := fun e => by have := (Hgr.out _ e).2; omega
          have a3 : vb ≠ wr.heap.size := by omega
          have Hv3 := Lib.hid (((((Hhv3.out.other a1 a2 a3 0 (.int .i64 0)).other a1 a2 a3 1 (.int .i64 0)).other a1 a2 a3 2 (.int .i64 0)).other a1 a2 a3 3 (.string ⟨#[]⟩)).other a1 a2 a3 4 (.slice none 0 0))
          have x0 : (W2b.setCell ⟨g, q, none⟩ (.int .u64 (bits .or .u64 (c : Int) (IntKind.u64.wrap (2 ^ m))))).heap[wr.heap.size]? = _ := (Deep.blk_setCell_other _ _ _ _ (by simpa using hgx.symm)).trans Hhx2b.out
          have x5 := setCell_row _ wr.heap.size 4 (.slice none 0 0) _ _ _ (setCell_row _ wr.heap.size 3 (.string ⟨#[]⟩) _ _ _ (setCell_row _ wr.heap.size 2 (.int .i64 0) _ _ _ (setCell_row _ wr.heap.size 1 (.int .i64 0) _ _ _ (setCell_row _ wr.heap.size 0 (.int .i64 0) _ _ _ x0))))
          have hb3 : Below vb W0 W3 := by rw [← hW3]; exact (((((hb2c.setCell (by simp; omega) _).setCell (by simp; omega) _).setCell (by simp; omega) _).setCell (by simp; omega) _).setCell (by simp; omega) _).setCell (by simp; omega) _
          have Hz3 : wr.heap.size + 1 ≤ W3.heap.size := by rw [← hW3]; simp [World.setCell]; omega
          rw [hW3] at Hv3 x5
          have Hx3 : Hid (W3.heap[wr.heap.size]? = some (.cells #[.int .i64 zeroV.a.k, .int .i64 zeroV.a.n, .int .i64 zeroV.a.sc, .string zeroV.a.s, .slice zeroV.a.A zeroV.l.length zeroV.a.cap] 61 (0, 0))) := by
            show _ = _
            rw [x5]
            simp [zeroV, VT.a, VT.l]
          have Hwl3 := Lib.hid (hwl3.trans Hwl2.out.2)
          clear x0 x5 hW3 y0 y1 y2 y3 y4 hxf c3 cn fn t1 t2 t1' t2' hwl3
          have hz3 : wr.heap.size + 1 ≤ W3.heap.size := Hz3
          have tt0 := Htt.out W3 hb3
          have xc := cell_of_row W3 wr.heap.size 1 _ _ _ Hx3.out
          simp at xc
          obtain ⟨_, _, _, _, c4, f4⟩ := Hv3.out.cells
          have Hst4 : Hid (∀ o w4, (W3.alloc o).grownBy w4 r.ownBlock → w4.cell? ⟨vb, 4, none⟩ = some r ∧ w4.frozen? ⟨vb, 4, none⟩ = false) := fun o w4 hg => by
            have k4 := (grow_keep Hv3.out.o hg).1 vb (by omega) (by omega)
            exact ⟨(World.cell?_of_block k4).trans c4, (World.frozen?_of_block k4).trans (f4 _)⟩
          have h3 : Hid (j + 1 ≤ maxLen) := by show _ ≤ _; unfold maxLen; omega
          have h4 : Hid ((j + 1) * 8 ≤ 140737488355328) := by show _ ≤ _; omega
          have h5 : Hid (∀ o, w.heap.size + 3 ≤ (W3.alloc o).heap.size) := fun o => by simp; omega
          have f4' := f4 4
          clear f4
          go_wp2_with (at_builtin; refine wpList_append_own2 _ rfl _ _ 30 rfl (w.heap.size + 3) 3 i1 _ 1 8 Tryz.underlying30 hi1 iz1 isz1 iby1 rfl (by decide) _ j (((l.map nz).take j).flatMap (fun x : VT => [Value.int .i64 x.a.n])) rfl (Hv3.out.o.alloc _) ⟨W3.heap.size, 0, none⟩ 1 1 ((fun x : VT => [Value.int .i64 x.a.n]) zeroV) rfl (by decide) rfl (fun q u' h => new_cells _ _ _ q u' h) (by simp [Value.oneCell']) h3.out h4.out (h5.out _) ?_; intro sv' w4 hown4 hg4 hm4; obtain ⟨A', cap', rfl⟩ := own_slice hown4; obtain ⟨g4, ff4⟩ := Hst4.out _ w4 hg4)
          have hst := (Hv3.out.below (bel1 _ _)).step Hx.out Hy.out hown4 hg4 hm4
          have hb4 := (grow_keep Hv3.out.o hg4).2.2 _ _ hb3 (by omega) (by omega)
          have Hst := Lib.hid hst
          clear hst
          go_roundw
          case rel => exact ⟨j + 1, ws3, _, _, by omega, by simp, hbits3, by have := Hwl3.out; omega, Hst.out, hb4.setCell (by simp) _⟩
          case measure => simp [intOf]; omega
        · have e0 := Lib.hid (show (x.a.k == 0) = false by simpa using hnull)
          have Hy : Hid (nz x = x) := by show _ = _; unfold nz; rw [if_neg hnull]
          have Hnul := Lib.hid (show nulAt l j = false by rw [nulAt_of Hx.out]; exact e0.out)
          clear hnull
          refine hnc.out.mono ?_
          rintro e W3 ⟨rfl, hb2b⟩
          rw [e0.out]
          have hz2b := hb2b.size
          have Hv3 := Lib.hid (Hv2.out.below hb2b)
          have Hx3 := Lib.hid ((hb2b.block wr.heap.size (by omega)).trans Hx2.out)
          have hb3 : Below vb W0 W3 := hb2.trans (hb2b.mono (by omega))
          have Hz3 : wr.heap.size + 1 ≤ W3.heap.size := by omega
          have hbits3 := hbits2.skip Hnul.out
          have Hwl3 := Lib.hid Hwl2.out.2
          have hz3 : wr.heap.size + 1 ≤ W3.heap.size := Hz3
          have tt0 := Htt.out W3 hb3
          have xc := cell_of_row W3 wr.heap.size 1 _ _ _ Hx3.out
          simp at xc
          obtain ⟨_, _, _, _, c4, f4⟩ := Hv3.out.cells
          have Hst4 : Hid (∀ o w4, (W3.alloc o).grownBy w4 r.ownBlock → w4.cell? ⟨vb, 4, none⟩ = some r ∧ w4.frozen? ⟨vb, 4, none⟩ = false) := fun o w4 hg => by
            have k4 := (grow_keep Hv3.out.o hg).1 vb (by omega) (by omega)
            exact ⟨(World.cell?_of_block k4).trans c4, (World.frozen?_of_block k4).trans (f4 _)⟩
          have h3 : Hid (j + 1 ≤ maxLen) := by show _ ≤ _; unfold maxLen; omega
          have h4 : Hid ((j + 1) * 8 ≤ 140737488355328) := by show _ ≤ _; omega
          have h5 : Hid (∀ o, w.heap.size + 3 ≤ (W3.alloc o).heap.size) := fun o => by simp; omega
          have f4' := f4 4
          clear f4
          go_wp2_with (at_builtin; refine wpList_append_own2 _ rfl _ _ 30 rfl (w.heap.size + 3) 3 i1 _ 1 8 Tryz.underlying30 hi1 iz1 isz1 iby1 rfl (by decide) _ j (((l.map nz).take j).flatMap (fun x : VT => [Value.int .i64 x.a.n])) rfl (Hv3.out.o.alloc _) ⟨W3.heap.size, 0, none⟩ 1 1 ((fun x : VT => [Value.int .i64 x.a.n]) x) rfl (by decide) rfl (fun q u' h => new_cells _ _ _ q u' h) (by simp [Value.oneCell']) h3.out h4.out (h5.out _) ?_; intro sv' w4 hown4 hg4 hm4; obtain ⟨A', cap', rfl⟩ := own_slice hown4; obtain ⟨g4, ff4⟩ := Hst4.out _ w4 hg4)
          have hst := (Hv3.out.below (bel1 _ _)).step Hx.out Hy.out hown4 hg4 hm4
          have hb4 := (grow_keep Hv3.out.o hg4).2.2 _ _ hb3 (by omega) (by omega)
          have Hst := Lib.hid hst
          clear hst
          go_roundw
          case rel => exact ⟨j + 1, ws2, rN2, _, by omega, by simp, hbits3, by have := Hwl3.out; omega, Hst.out, hb4.setCell (by simp) _⟩
          case measure => simp [intOf]; omega
    · obtain rfl : j = size := by omega
      obtain ⟨NA', ncap', rfl⟩ := own_slice hv.n
      obtain ⟨A', cap', rfl⟩ := own_slice hv.o
      have c0 := hv.all 0
      have c1 := hv.all 1
      have c2 := hv.all 2
      have c3 := hv.all 3
      have c4 := hv.all 4
      have c5 := hv.all 5
      have c6 := hv.all 6
      have e2 := (hb.block (w.heap.size + 1) (by omega)).trans HP1.out
      have q0 := cell_of_row wr (w.heap.size + 1) 0 _ _ _ e2
      have q1 := cell_of_row wr (w.heap.size + 1) 1 _ _ _ e2
      have q2 := cell_of_row wr (w.heap.size + 1) 2 _ _ _ e2
      have q3 := cell_of_row wr (w.heap.size + 1) 3 _ _ _ e2
      have q4 := cell_of_row wr (w.heap.size + 1) 4 _ _ _ e2
      have q5 := cell_of_row wr (w.heap.size + 1) 5 _ _ _ e2
      have q6 := cell_of_row wr (w.heap.size + 1) 6 _ _ _ e2
      have fz : ∀ i, wr.frozen? ⟨w.heap.size + 1, i, none⟩ = false := fun i => by simp [World.frozen?, e2]
      simp at q0 q1 q2 q3 q4 q5 q6 c0 c1 c2 c3 c4 c5 c6
      have Hwl := Lib.hid hwl
      clear e2 hSr hwl
      go_wp2
      refine bodyPost_ret (v := .agg #[.int .i64 k, .int .i64 sc, .slice A fl cap, .slice NA' ws.length ncap', .slice A' j cap', .slice none 0 0, .slice none 0 0]) (by simp [results, Tryz.results41, go_sem, *]) rfl ?_
      refine ⟨ws, _, _, rfl, ?_, hbits, Hwl.out, ?_, ?_⟩
      · exact (((((((Hb0.out.trans (hb.mono (by omega))).setCell (by simp) _).setCell (by simp) _).setCell (by simp) _).setCell (by simp) _).setCell (by simp) _).setCell (by simp) _).setCell (by simp) _
      · refine own_keep hv.n fun q h1 _ => ?_
        iterate 7 rw [Deep.blk_setCell_other _ _ _ _ (by simp; omega)]
      · refine own_keep hv.o fun q h1 _ => ?_
        iterate 7 rw [Deep.blk_setCell_other _ _ _ _ (by simp; omega)]
end Go.Proofs.YtkadahfknccjfaaGreatDoor
namespace Go.Proofs.YtkadahfknccjfaaGreatDoor
open Go.RowKit
set_option maxRecDepth 100000 in
set_option maxHeartbeats 4000000 in
theorem rvector_s (k sc : Int) (A A2 : Option Addr) (fl cap size cap2 : Nat) (w : World) (l : List VT) (B : Nat) (hr : VT.Row B w A2 cap2 l) (hB : B ≤ w.heap.size) (hlen : l.length = size) (e4 : (k == 4) = true) (hs : size ≤ 1024) :
    Calls Tryz.prog 41 #[.agg #[.int .i64 k, .int .i64 sc, .slice A fl cap], .slice A2 size cap2] w (RvSPost k sc A fl cap (w.heap.size + 3) size l w) := by
  obtain ⟨i0, hi, iz, isz, iby⟩ := info_parts infoU64
  obtain ⟨i1, hi1, iz1, isz1, iby1⟩ := info_parts infoStr
  have Hr := Lib.hid hr
  have Hlen := Lib.hid hlen
  clear hr hlen
  go_enter Tryz.func41, Tryz.ntmps41
  go_wp2
  generalize hW0 : World.alloc _ _ = W0
  obtain ⟨vb, hvb⟩ : ∃ n, w.heap.size + 1 + 1 = n := ⟨_, rfl⟩
  simp only [hvb]
  have P0 : W0.heap[w.heap.size]? = some (.cells #[.int .i64 k, .int .i64 sc, .slice A fl cap] 50 (0, 0)) := by
    rw [← hW0, Below.heap_alloc _ _ _ (by simp; omega), Below.heap_alloc _ _ _ (by simp)]
    exact heap_alloc_new w _
  have P1 : W0.heap[w.heap.size + 1]? = some (.cells #[.int .i64 0, .int .i64 0, .slice none 0 0, .slice none 0 0, .slice none 0 0, .slice none 0 0, .slice none 0 0] 54 (0, 0)) := by
    rw [← hW0, Below.heap_alloc _ _ _ (by simp)]
    exact blk_new _ _ _ (by simp)
  have P2 : W0.heap[vb]? = some (.cells #[.int .i64 k, .int .i64 sc, .slice A fl cap, .slice none 0 0, .slice none 0 0, .slice none 0 0, .slice none 0 0] 54 (0, 0)) := by
    rw [← hW0, ← hvb]
    exact blk_new _ _ _ (by simp)
  have Htt : Hid (∀ W, Below vb W0 W → W.cell? ⟨w.heap.size, 0, none⟩ = some (.int .i64 k)) := fun W h => by
    have Q0 := (h.block w.heap.size (by omega)).trans P0
    exact cell_of_row W w.heap.size 0 _ _ _ Q0
  have Hz0 : Hid (W0.heap.size = w.heap.size + 3) := by show _ = _; rw [← hW0]; simp
  have Hb0 : Hid (Below w.heap.size w W0) := by rw [← hW0]; exact bel3 _ _ _ _
  have HP1 := Lib.hid P1
  have HP2 := Lib.hid P2
  clear hW0 P0 P1 P2
  go_loopw [12] (fun i wr => RvSRel k sc A fl cap (w.heap.size + 3) W0 vb l size i wr) (fun i _ => size - (intOf i).toNat)
  case atStart =>
    refine ⟨0, [], .slice none 0 0, .slice none 0 0, Nat.zero_le _, rfl, BitsOf.zero l 0, rfl, ⟨HP2.out, World.ownsRow_nil _ _ _ _, World.ownsRow_nil _ _ _ _, (fun q hq => (by cases hq)), by omega⟩, Below.refl _ _⟩
  case round =>
    obtain ⟨j, ws, rN, r, hj, rfl, hbits, hwl, hv, hb⟩ := hrel
    have hSr : Same B w wr := (Same.mono (Same.of_below Hb0.out) hB).trans (Same.mono (Same.of_below hb) (by omega))
    have hzr : w.heap.size + 3 ≤ wr.heap.size := by rw [← Hz0.out]; exact hb.size
    by_cases hlt : j < size
    · obtain ⟨x, ad, hx, rfl, hbx, d0, d1, d2, d3, d4⟩ := (Hr.out.keep hSr).get (show j < l.length by rw [Hlen.out]; exact hlt)
      obtain ⟨o1, ho1⟩ : ∃ o1, Obj.cells #[.int .i64 x.a.k, .int .i64 x.a.n, .int .i64 x.a.sc, .string x.a.s, .slice x.a.A x.l.length x.a.cap] 61 = o1 := ⟨_, rfl⟩
      obtain ⟨W1, hW1⟩ : ∃ W1, wr.alloc o1 = W1 := ⟨_, rfl⟩
      have hbW1 : Below wr.heap.size wr W1 := by rw [← hW1]; exact bel1 _ _
      have hzW1 : W1.heap.size = wr.heap.size + 1 := by rw [← hW1]; simp
      have hx1 : W1.heap[wr.heap.size]? = some (.cells #[.int .i64 x.a.k, .int .i64 x.a.n, .int .i64 x.a.sc, .string x.a.s, .slice x.a.A x.l.length x.a.cap] 61 (0, 0)) := by rw [← hW1, ← ho1]; exact heap_alloc_new wr _
      have hb1 : Below vb W0 W1 := hb.trans (hbW1.mono (by omega))
      have Hx := Lib.hid hx
      have HW1 := Lib.hid hW1
      have Ho1 := Lib.hid ho1
      have Hx1 := Lib.hid hx1
      have Hv1 := Lib.hid (hv.below hbW1)
      have HnN := Lib.hid hv.n.lt
      have Hgr := Lib.hid hv.o.lt
      have Hwl := Lib.hid hwl
      have Hzw1 := Lib.hid hzW1
      have hzw1 : wr.heap.size + 1 ≤ W1.heap.size := by omega
      clear hx hW1 ho1 hx1 hv hwl hSr hzW1
      by_cases hm0 : j % 64 = 0
      · have t0 : ((j : Int) % 64 == 0) = true := by simp; omega
        have t0' : ((j : Int).tmod 64 == 0) = true := by rw [Int.tmod_eq_emod_of_nonneg (by omega)]; exact t0
        obtain ⟨_, _, _, c3, _, f3⟩ := Hv1.out.cells
        have f3' := f3 3
        clear f3
        have Hst4 : Hid (∀ o w4, (W1.alloc o).grownBy w4 rN.ownBlock → w4.cell? ⟨vb, 3, none⟩ = some rN ∧ w4.frozen? ⟨vb, 3, none⟩ = false ∧ (∀ u, (w4.setCell ⟨vb, 3, none⟩ u).heap[wr.heap.size]? = W1.heap[wr.heap.size]?) ∧ (∀ u, (w4.setCell ⟨vb, 3, none⟩ u).cell? ⟨wr.heap.size, 0, none⟩ = some (.int .i64 x.a.k)) ∧ (∀ u, (w4.setCell ⟨vb, 3, none⟩ u).cell? ⟨wr.heap.size, 1, none⟩ = some (.int .i64 x.a.n)) ∧ (∀ u, (w4.setCell ⟨vb, 3, none⟩ u).cell? ⟨wr.heap.size, 2, none⟩ = some (.int .i64 x.a.sc)) ∧ (∀ u, (w4.setCell ⟨vb, 3, none⟩ u).cell? ⟨wr.heap.size, 3, none⟩ = some (.string x.a.s)) ∧ (∀ u, (w4.setCell ⟨vb, 3, none⟩ u).cell? ⟨wr.heap.size, 4, none⟩ = some (.slice x.a.A x.l.length x.a.cap))) := fun o w4 hg => by
          have gk := grow_keep Hv1.out.n hg
          have k4 := gk.1 vb (by omega) (by omega)
          have kx : ∀ u, (w4.setCell ⟨vb, 3, none⟩ u).heap[wr.heap.size]? = W1.heap[wr.heap.size]? := fun u => (Deep.blk_setCell_other _ _ _ _ (by simp; omega)).trans (gk.2.1 wr.heap.size (by omega) (fun e => by have := (HnN.out _ e).2; omega))
          exact ⟨(World.cell?_of_block k4).trans c3, (World.frozen?_of_block k4).trans f3', kx, fun u => cell_of_row _ wr.heap.size 0 _ _ _ ((kx u).trans Hx1.out), fun u => cell_of_row _ wr.heap.size 1 _ _ _ ((kx u).trans Hx1.out), fun u => cell_of_row _ wr.heap.size 2 _ _ _ ((kx u).trans Hx1.out), fun u => cell_of_row _ wr.heap.size 3 _ _ _ ((kx u).trans Hx1.out), fun u => cell_of_row _ wr.heap.size 4 _ _ _ ((kx u).trans Hx1.out)⟩
        have h3 : Hid (ws.length + 1 ≤ maxLen) := by show _ ≤ _; have := Hwl.out; unfold maxLen; omega
        have h4 : Hid ((ws.length + 1) * 8 ≤ 140737488355328) := by show _ ≤ _; have := Hwl.out; omega
        have h5 : Hid (∀ o, w.heap.size + 3 ≤ (W1.alloc o).heap.size) := fun o => by simp; omega
        have Hm0 := Lib.hid hm0
        clear hm0
        go_upto_region 5 with (fail)
        rw [Ho1.out, HW1.out]
        go_wp2_with (at_builtin; refine wpList_append_own2 _ rfl _ _ 51 rfl (w.heap.size + 3) 66 i0 _ 1 8 Tryz.underlying51 hi iz isz iby rfl (by decide) _ ws.length ((wI ws).map (Value.int .u64)) rfl (Hv1.out.n.alloc _) ⟨W1.heap.size, 0, none⟩ 1 1 [.int .u64 0] rfl (by decide) rfl (fun q u' h => new_cells _ _ _ q u' h) (by simp [Value.oneCell']) h3.out h4.out (h5.out _) ?_; intro sv' w4 hown4 hg4 hm4; obtain ⟨A', cap', rfl⟩ := own_slice hown4; obtain ⟨g4, ff4, kx, z0, z1, z2, z3, z4⟩ := Hst4.out _ w4 hg4; have Hkx := Lib.hid kx; clear kx)
        generalize hW2 : World.setCell _ _ _ = W2
        have Hx2 : Hid (W2.heap[wr.heap.size]? = some (.cells #[.int .i64 x.a.k, .int .i64 x.a.n, .int .i64 x.a.sc, .string x.a.s, .slice x.a.A x.l.length x.a.cap] 61 (0, 0))) := by rw [← hW2]; exact (Hkx.out _).trans Hx1.out
        obtain ⟨rN2, hrN2⟩ : ∃ v, Value.slice A' (ws.length + 1) cap' = v := ⟨_, rfl⟩
        have hv2 := (Hv1.out.below (bel1 _ _)).more hown4 hg4 hm4
        rw [hW2] at hv2
        have hb2 : Below vb W0 W2 := by rw [← hW2]; exact ((grow_keep Hv1.out.n hg4).2.2 _ _ hb1 (by omega) (by omega)).setCell (by simp) _
        have hzw2 : wr.heap.size + 1 ≤ W2.heap.size := by
          rw [← hW2]
          have := hg4.size
          simp [World.setCell] at *
          omega
        obtain ⟨ws2, hws2⟩ : ∃ u, ws ++ [0] = u := ⟨_, rfl⟩
        have Hwl2 : Hid (j / 64 < ws2.length ∧ ws2.length = (j + 64) / 64) := by
          show _ ∧ _
          have := Hwl.out
          have := Hm0.out
          rw [← hws2, List.length_append, List.length_singleton]
          omega
        have hbits2 : BitsOf l j ws2 := by rw [← hws2]; exact hbits.more
        have Hgx : Hid (∀ g, rN2.ownBlock = some g → g ≠ wr.heap.size) := fun g hg e => by
          rw [← hrN2] at hg
          rcases hm4 with hm | hm
          · have := (HnN.out g (hm ▸ hg)).2; omega
          · have := hm g hg; simp at this; omega
        rw [hws2, hrN2] at hv2
        have Hv2 := Lib.hid hv2
        clear hv2 z0 z1 z2 z3 z4 g4 ff4 hown4 hg4 hm4 hW2 hws2 c3 f3' d0 d1 d2 d3 d4 t0 t0' hrN2
        -- at the call of null, in W2: Hv2, Hx2, hb2, hbits2 : BitsOf l j ws2, Hwl2 : j / 64 < ws2.length ∧ ws2.length = (j + 64) / 64, Hgx, Hgr
        have hnc := Lib.hid (rnull_any x.a.k x.a.n x.a.sc x.a.s x.a.A x.l.length x.a.cap W2)
        by_cases hnull : x.a.k = 0
        · have e0 := Lib.hid (show (x.a.k == 0) = true by simpa using hnull)
          have Hy : Hid (nz x = zeroV) := by show _ = _; unfold nz; rw [if_pos hnull]
          have Hnul := Lib.hid (show nulAt l j = true by rw [nulAt_of Hx.out]; exact e0.out)
          clear hnull
          refine hnc.out.mono ?_
          rintro e W2b ⟨rfl, hb2b⟩
          rw [e0.out]
          have hz2b := hb2b.size
          have hv2b := Hv2.out.below hb2b
          have hx2b := (hb2b.block wr.heap.size (by omega)).trans Hx2.out
          have hb2c : Below vb W0 W2b := hb2.trans (hb2b.mono (by omega))
          obtain ⟨g, cN, hrN, hgb, hgz, cn, fn⟩ := hv2b.word Hwl2.out.1
          have hgx : g ≠ wr.heap.size := Hgx.out g (by rw [hrN]; rfl)
          rw [hrN] at hv2b
          obtain ⟨c, hc⟩ : ∃ c, ws2.getD (j / 64) 0 = c := ⟨_, rfl⟩
          rw [hc] at cn
          obtain ⟨ws3, hbits3, hwl3, hv3⟩ := hv2b.bit Hwl2.out.1 hbits2 Hnul.out c hc hgb
          obtain ⟨_, _, _, c3, _⟩ := hv2b.cells
          obtain ⟨q, hq⟩ : ∃ q, j / 64 = q := ⟨_, rfl⟩
          obtain ⟨m, hm⟩ : ∃ m, j % 64 = m := ⟨_, rfl⟩
          have t1 : (j : Int) / 64 = (q : Int) := by omega
          have t2 : (j : Int) % 64 = (m : Int) := by omega
          have t1' : (j : Int).tdiv 64 = (q : Int) := by rw [Int.tdiv_eq_ediv_of_nonneg (by omega)]; exact t1
          have t2' : (j : Int).tmod 64 = (m : Int) := by rw [Int.tmod_eq_emod_of_nonneg (by omega)]; exact t2
          have hql : q < ws2.length := by rw [← hq]; exact Hwl2.out.1
          have hm64 : m < 64 := by omega
          rw [hq] at cn fn hv3
          rw [hm] at hv3
          have hxo : ∀ u i, (W2b.setCell ⟨g, q, none⟩ u).cell? ⟨wr.heap.size, i, none⟩ = W2b.cell? ⟨wr.heap.size, i, none⟩ := fun u i => World.cell?_of_block (Deep.blk_setCell_other _ _ _ _ (by simpa using hgx.symm))
          have y0 := fun u => (hxo u 0).trans (cell_of_row W2b wr.heap.size 0 _ _ _ hx2b)
          have y1 := fun u => (hxo u 1).trans (cell_of_row W2b wr.heap.size 1 _ _ _ hx2b)
          have y2 := fun u => (hxo u 2).trans (cell_of_row W2b wr.heap.size 2 _ _ _ hx2b)
          have y3 := fun u => (hxo u 3).trans (cell_of_row W2b wr.heap.size 3 _ _ _ hx2b)
          have y4 := fun u => (hxo u 4).trans (cell_of_row W2b wr.heap.size 4 _ _ _ hx2b)
          simp at y0 y1 y2 y3 y4
          have hxf : ∀ u i, (W2b.setCell ⟨g, q, none⟩ u).frozen? ⟨wr.heap.size, i, none⟩ = false := fun u i => (World.frozen?_of_block (Deep.blk_setCell_other _ _ _ _ (by simpa using hgx.symm))).trans (by simp [World.frozen?, hx2b])
          have Hhx2b := Lib.hid hx2b
          have Hhv3 := Lib.hid hv3
          have HrN := Lib.hid hrN
          have Hhq := Lib.hid hq
          have Hhm := Lib.hid hm
          clear hx2b hv2b hv3 hxo hc hrN hq hm
          go_upto_region 10 with (fail)
          generalize hW3 : World.setCell _ _ _ = W3
          have a1 : (Value.slice (some ⟨g, 0, none⟩) ws3.length cN).ownBlock ≠ some wr.heap.size := by simpa [Value.ownBlock] using hgx
          have a2 : r.ownBlock ≠ some wr.heap.size := fun e => by have := (Hgr.out _ e).2; omega
          have a3 : vb ≠ wr.heap.size := by omega
          have Hv3 := Lib.hid (((((Hhv3.out.other a1 a2 a3 0 (.int .i64 0)).other a1 a2 a3 1 (.int .i64 0)).other a1 a2 a3 2 (.int .i64 0)).other a1 a2 a3 3 (.string ⟨#[]⟩)).other a1 a2 a3 4 (.slice none 0 0))
          have x0 : (W2b.setCell ⟨g, q, none⟩ (.int .u64 (bits .or .u64 (c : Int) (IntKind.u64.wrap (2 ^ m))))).heap[wr.heap.size]? = _ := (Deep.blk_setCell_other _ _ _ _ (by simpa using hgx.symm)).trans Hhx2b.out
          have x5 := setCell_row _ wr.heap.size 4 (.slice none 0 0) _ _ _ (setCell_row _ wr.heap.size 3 (.string ⟨#[]⟩) _ _ _ (setCell_row _ wr.heap.size 2 (.int .i64 0) _ _ _ (setCell_row _ wr.heap.size 1 (.int .i64 0) _ _ _ (setCell_row _ wr.heap.size 0 (.int .i64 0) _ _ _ x0))))
          have hb3 : Below vb W0 W3 := by rw [← hW3]; exact (((((hb2c.setCell (by simp; omega) _).setCell (by simp; omega) _).setCell (by simp; omega) _).setCell (by simp; omega) _).setCell (by simp; omega) _).setCell (by simp; omega) _
          have Hz3 : wr.heap.size + 1 ≤ W3.heap.size := by rw [← hW3]; simp [World.setCell]; omega
          rw [hW3] at Hv3 x5
          have Hx3 : Hid (W3.heap[wr.heap.size]? = some (.cells #[.int .i64 zeroV.a.k, .int .i64 zeroV.a.n, .int .i64 zeroV.a.sc, .string zeroV.a.s, .slice zeroV.a.A zeroV.l.length zeroV.a.cap] 61 (0, 0))) := by
            show _ = _
            rw [x5]
            simp [zeroV, VT.a, VT.l]
          have Hwl3 := Lib.hid (hwl3.trans Hwl2.out.2)
          clear x0 x5 hW3 y0 y1 y2 y3 y4 hxf c3 cn fn t1 t2 t1' t2' hwl3
          have hz3 : wr.heap.size + 1 ≤ W3.heap.size := Hz3
          have tt0 := Htt.out W3 hb3
          have xc := cell_of_row W3 wr.heap.size 3 _ _ _ Hx3.out
          simp at xc
          obtain ⟨_, _, _, _, c4, f4⟩ := Hv3.out.cells
          have Hst4 : Hid (∀ o w4, (W3.alloc o).grownBy w4 r.ownBlock → w4.cell? ⟨vb, 5, none⟩ = some r ∧ w4.frozen? ⟨vb, 5, none⟩ = false) := fun o w4 hg => by
            have k4 := (grow_keep Hv3.out.o hg).1 vb (by omega) (by omega)
            exact ⟨(World.cell?_of_block k4).trans c4, (World.frozen?_of_block k4).trans (f4 _)⟩
          have h3 : Hid (j + 1 ≤ maxLen) := by show _ ≤ _; unfold maxLen; omega
          have h4 : Hid ((j + 1) * 16 ≤ 140737488355328) := by show _ ≤ _; omega
          have h5 : Hid (∀ o, w.heap.size + 3 ≤ (W3.alloc o).heap.size) := fun o => by simp; omega
          have f4' := f4 5
          clear f4
          go_wp2_with (at_builtin; refine wpList_append_own2 _ rfl _ _ 52 rfl (w.heap.size + 3) 9 i1 _ 1 16 Tryz.underlying52 hi1 iz1 isz1 iby1 rfl (by decide) _ j (((l.map nz).take j).flatMap (fun x : VT => [Value.string x.a.s])) rfl (Hv3.out.o.alloc _) ⟨W3.heap.size, 0, none⟩ 1 1 ((fun x : VT => [Value.string x.a.s]) zeroV) rfl (by decide) rfl (fun q u' h => new_cells _ _ _ q u' h) (by simp [Value.oneCell']) h3.out h4.out (h5.out _) ?_; intro sv' w4 hown4 hg4 hm4; obtain ⟨A', cap', rfl⟩ := own_slice hown4; obtain ⟨g4, ff4⟩ := Hst4.out _ w4 hg4)
          have hst := (Hv3.out.below (bel1 _ _)).step Hx.out Hy.out hown4 hg4 hm4
          have hb4 := (grow_keep Hv3.out.o hg4).2.2 _ _ hb3 (by omega) (by omega)
          have Hst := Lib.hid hst
          clear hst
          go_roundw
          case rel => exact ⟨j + 1, ws3, _, _, by omega, by simp, hbits3, by have := Hwl3.out; omega, Hst.out, hb4.setCell (by simp) _⟩
          case measure => simp [intOf]; omega
        · have e0 := Lib.hid (show (x.a.k == 0) = false by simpa using hnull)
          have Hy : Hid (nz x = x) := by show _ = _; unfold nz; rw [if_neg hnull]
          have Hnul := Lib.hid (show nulAt l j = false by rw [nulAt_of Hx.out]; exact e0.out)
          clear hnull
          refine hnc.out.mono ?_
          rintro e W3 ⟨rfl, hb2b⟩
          rw [e0.out]
          have hz2b := hb2b.size
          have Hv3 := Lib.hid (Hv2.out.below hb2b)
          have Hx3 := Lib.hid ((hb2b.block wr.heap.size (by omega)).trans Hx2.out)
          have hb3 : Below vb W0 W3 := hb2.trans (hb2b.mono (by omega))
          have Hz3 : wr.heap.size + 1 ≤ W3.heap.size := by omega
          have hbits3 := hbits2.skip Hnul.out
          have Hwl3 := Lib.hid Hwl2.out.2
          have hz3 : wr.heap.size + 1 ≤ W3.heap.size := Hz3
          have tt0 := Htt.out W3 hb3
          have xc := cell_of_row W3 wr.heap.size 3 _ _ _ Hx3.out
          simp at xc
          obtain ⟨_, _, _, _, c4, f4⟩ := Hv3.out.cells
          have Hst4 : Hid (∀ o w4, (W3.alloc o).grownBy w4 r.ownBlock → w4.cell? ⟨vb, 5, none⟩ = some r ∧ w4.frozen? ⟨vb, 5, none⟩ = false) := fun o w4 hg => by
            have k4 := (grow_keep Hv3.out.o hg).1 vb (by omega) (by omega)
            exact ⟨(World.cell?_of_block k4).trans c4, (World.frozen?_of_block k4).trans (f4 _)⟩
          have h3 : Hid (j + 1 ≤ maxLen) := by show _ ≤ _; unfold maxLen; omega
          have h4 : Hid ((j + 1) * 16 ≤ 140737488355328) := by show _ ≤ _; omega
          have h5 : Hid (∀ o, w.heap.size + 3 ≤ (W3.alloc o).heap.size) := fun o => by simp; omega
          have f4' := f4 5
          clear f4
          go_wp2_with (at_builtin; refine wpList_append_own2 _ rfl _ _ 52 rfl (w.heap.size + 3) 9 i1 _ 1 16 Tryz.underlying52 hi1 iz1 isz1 iby1 rfl (by decide) _ j (((l.map nz).take j).flatMap (fun x : VT => [Value.string x.a.s])) rfl (Hv3.out.o.alloc _) ⟨W3.heap.size, 0, none⟩ 1 1 ((fun x : VT => [Value.string x.a.s]) x) rfl (by decide) rfl (fun q u' h => new_cells _ _ _ q u' h) (by simp [Value.oneCell']) h3.out h4.out (h5.out _) ?_; intro sv' w4 hown4 hg4 hm4; obtain ⟨A', cap', rfl⟩ := own_slice hown4; obtain ⟨g4, ff4⟩ := Hst4.out _ w4 hg4)
          have hst := (Hv3.out.below (bel1 _ _)).step Hx.out Hy.out hown4 hg4 hm4
          have hb4 := (grow_keep Hv3.out.o hg4).2.2 _ _ hb3 (by omega) (by omega)
          have Hst := Lib.hid hst
          clear hst
          go_roundw
          case rel => exact ⟨j + 1, ws2, rN2, _, by omega, by simp, hbits3, by have := Hwl3.out; omega, Hst.out, hb4.setCell (by simp) _⟩
          case measure => simp [intOf]; omega
      · have t0 : ((j : Int) % 64 == 0) = false := by simp; omega
        have t0' : ((j : Int).tmod 64 == 0) = false := by rw [Int.tmod_eq_emod_of_nonneg (by omega)]; exact t0
        have Hwl2 : Hid (j / 64 < ws.length ∧ ws.length = (j + 64) / 64) := by
          show _ ∧ _
          have := Hwl.out
          omega
        have Hgx : Hid (∀ g, rN.ownBlock = some g → g ≠ wr.heap.size) := fun g hg e => by
          have := (HnN.out g hg).2
          omega
        clear hm0
        go_wp2_with fail
        rw [Ho1.out, HW1.out]
        obtain ⟨W2, hW2⟩ : ∃ u, u = W1 := ⟨_, rfl⟩
        obtain ⟨ws2, hws2⟩ : ∃ u, u = ws := ⟨_, rfl⟩
        obtain ⟨rN2, hrN2⟩ : ∃ u, u = rN := ⟨_, rfl⟩
        subst hW2 hws2 hrN2
        have Hx2 := Hx1
        have Hv2 := Hv1
        have hb2 := hb1
        have hzw2 := hzw1
        have hbits2 := hbits
        clear d0 d1 d2 d3 d4 t0 t0'
        -- at the call of null, in W2: Hv2, Hx2, hb2, hbits2 : BitsOf l j ws2, Hwl2 : j / 64 < ws2.length ∧ ws2.length = (j + 64) / 64, Hgx, Hgr
        have hnc := Lib.hid (rnull_any x.a.k x.a.n x.a.sc x.a.s x.a.A x.l.length x.a.cap W2)
        by_cases hnull : x.a.k = 0
        · have e0 := Lib.hid (show (x.a.k == 0) = true by simpa using hnull)
          have Hy : Hid (nz x = zeroV) := by show _ = _; unfold nz; rw [if_pos hnull]
          have Hnul := Lib.hid (show nulAt l j = true by rw [nulAt_of Hx.out]; exact e0.out)
          clear hnull
          refine hnc.out.mono ?_
          rintro e W2b ⟨rfl, hb2b⟩
          rw [e0.out]
          have hz2b := hb2b.size
          have hv2b := Hv2.out.below hb2b
          have hx2b := (hb2b.block wr.heap.size (by omega)).trans Hx2.out
          have hb2c : Below vb W0 W2b := hb2.trans (hb2b.mono (by omega))
          obtain ⟨g, cN, hrN, hgb, hgz, cn, fn⟩ := hv2b.word Hwl2.out.1
          have hgx : g ≠ wr.heap.size := Hgx.out g (by rw [hrN]; rfl)
          rw [hrN] at hv2b
          obtain ⟨c, hc⟩ : ∃ c, ws2.getD (j / 64) 0 = c := ⟨_, rfl⟩
          rw [hc] at cn
          obtain ⟨ws3, hbits3, hwl3, hv3⟩ := hv2b.bit Hwl2.out.1 hbits2 Hnul.out c hc hgb
          obtain ⟨_, _, _, c3, _⟩ := hv2b.cells
          obtain ⟨q, hq⟩ : ∃ q, j / 64 = q := ⟨_, rfl⟩
          obtain ⟨m, hm⟩ : ∃ m, j % 64 = m := ⟨_, rfl⟩
          have t1 : (j : Int) / 64 = (q : Int) := by omega
          have t2 : (j : Int) % 64 = (m : Int) := by omega
          have t1' : (j : Int).tdiv 64 = (q : Int) := by rw [Int.tdiv_eq_ediv_of_nonneg (by omega)]; exact t1
          have t2' : (j : Int).tmod 64 = (m : Int) := by rw [Int.tmod_eq_emod_of_nonneg (by omega)]; exact t2
          have hql : q < ws2.length := by rw [← hq]; exact Hwl2.out.1
          have hm64 : m < 64 := by omega
          rw [hq] at cn fn hv3
          rw [hm] at hv3
          have hxo : ∀ u i, (W2b.setCell ⟨g, q, none⟩ u).cell? ⟨wr.heap.size, i, none⟩ = W2b.cell? ⟨wr.heap.size, i, none⟩ := fun u i => World.cell?_of_block (Deep.blk_setCell_other _ _ _ _ (by simpa using hgx.symm))
          have y0 := fun u => (hxo u 0).trans (cell_of_row W2b wr.heap.size 0 _ _ _ hx2b)
          have y1 := fun u => (hxo u 1).trans (cell_of_row W2b wr.heap.size 1 _ _ _ hx2b)
          have y2 := fun u => (hxo u 2).trans (cell_of_row W2b wr.heap.size 2 _ _ _ hx2b)
          have y3 := fun u => (hxo u 3).trans (cell_of_row W2b wr.heap.size 3 _ _ _ hx2b)
          have y4 := fun u => (hxo u 4).trans (cell_of_row W2b wr.heap.size 4 _ _ _ hx2b)
          simp at y0 y1 y2 y3 y4
          have hxf : ∀ u i, (W2b.setCell ⟨g, q, none⟩ u).frozen? ⟨wr.heap.size, i, none⟩ = false := fun u i => (World.frozen?_of_block (Deep.blk_setCell_other _ _ _ _ (by simpa using hgx.symm))).trans (by simp [World.frozen?, hx2b])
          have Hhx2b := Lib.hid hx2b
          have Hhv3 := Lib.hid hv3
          have HrN := Lib.hid hrN
          have Hhq := Lib.hid hq
          have Hhm := Lib.hid hm
          clear hx2b hv2b hv3 hxo hc hrN hq hm
          go_upto_region 10 with (fail)
          generalize hW3 : World.setCell _ _ _ = W3
          have a1 : (Value.slice (some ⟨g, 0, none⟩) ws3.length cN).ownBlock ≠ some wr.heap.size := by simpa [Value.ownBlock] using hgx
          have a2 : r.ownBlock ≠ some wr.heap.size := fun e => by have := (Hgr.out _ e).2; omega
          have a3 : vb ≠ wr.heap.size := by omega
          have Hv3 := Lib.hid (((((Hhv3.out.other a1 a2 a3 0 (.int .i64 0)).other a1 a2 a3 1 (.int .i64 0)).other a1 a2 a3 2 (.int .i64 0)).other a1 a2 a3 3 (.string ⟨#[]⟩)).other a1 a2 a3 4 (.slice none 0 0))
          have x0 : (W2b.setCell ⟨g, q, none⟩ (.int .u64 (bits .or .u64 (c : Int) (IntKind.u64.wrap (2 ^ m))))).heap[wr.heap.size]? = _ := (Deep.blk_setCell_other _ _ _ _ (by simpa using hgx.symm)).trans Hhx2b.out
          have x5 := setCell_row _ wr.heap.size 4 (.slice none 0 0) _ _ _ (setCell_row _ wr.heap.size 3 (.string ⟨#[]⟩) _ _ _ (setCell_row _ wr.heap.size 2 (.int .i64 0) _ _ _ (setCell_row _ wr.heap.size 1 (.int .i64 0) _ _ _ (setCell_row _ wr.heap.size 0 (.int .i64 0) _ _ _ x0))))
          have hb3 : Below vb W0 W3 := by rw [← hW3]; exact (((((hb2c.setCell (by simp; omega) _).setCell (by simp; omega) _).setCell (by simp; omega) _).setCell (by simp; omega) _).setCell (by simp; omega) _).setCell (by simp; omega) _
          have Hz3 : wr.heap.size + 1 ≤ W3.heap.size := by rw [← hW3]; simp [World.setCell]; omega
          rw [hW3] at Hv3 x5
          have Hx3 : Hid (W3.heap[wr.heap.size]? = some (.cells #[.int .i64 zeroV.a.k, .int .i64 zeroV.a.n, .int .i64 zeroV.a.sc, .string zeroV.a.s, .slice zeroV.a.A zeroV.l.length zeroV.a.cap] 61 (0, 0))) := by
            show _ = _
            rw [x5]
            simp [zeroV, VT.a, VT.l]
          have Hwl3 := Lib.hid (hwl3.trans Hwl2.out.2)
          clear x0 x5 hW3 y0 y1 y2 y3 y4 hxf c3 cn fn t1 t2 t1' t2' hwl3
          have hz3 : wr.heap.size + 1 ≤ W3.heap.size := Hz3
          have tt0 := Htt.out W3 hb3
          have xc := cell_of_row W3 wr.heap.size 3 _ _ _ Hx3.out
          simp at xc
          obtain ⟨_, _, _, _, c4, f4⟩ := Hv3.out.cells
          have Hst4 : Hid (∀ o w4, (W3.alloc o).grownBy w4 r.ownBlock → w4.cell? ⟨vb, 5, none⟩ = some r ∧ w4.frozen? ⟨vb, 5, none⟩ = false) := fun o w4 hg => by
            have k4 := (grow_keep Hv3.out.o hg).1 vb (by omega) (by omega)
            exact ⟨(World.cell?_of_block k4).trans c4, (World.frozen?_of_block k4).trans (f4 _)⟩
          have h3 : Hid (j + 1 ≤ maxLen) := by show _ ≤ _; unfold maxLen; omega
          have h4 : Hid ((j + 1) * 16 ≤ 140737488355328) := by show _ ≤ _; omega
          have h5 : Hid (∀ o, w.heap.size + 3 ≤ (W3.alloc o).heap.size) := fun o => by simp; omega
          have f4' := f4 5
          clear f4
          go_wp2_with (at_builtin; refine wpList_append_own2 _ rfl _ _ 52 rfl (w.heap.size + 3) 9 i1 _ 1 16 Tryz.underlying52 hi1 iz1 isz1 iby1 rfl (by decide) _ j (((l.map nz).take j).flatMap (fun x : VT => [Value.string x.a.s])) rfl (Hv3.out.o.alloc _) ⟨W3.heap.size, 0, none⟩ 1 1 ((fun x : VT => [Value.string x.a.s]) zeroV) rfl (by decide) rfl (fun q u' h => new_cells _ _ _ q u' h) (by simp [Value.oneCell']) h3.out h4.out (h5.out _) ?_; intro sv' w4 hown4 hg4 hm4; obtain ⟨A', cap', rfl⟩ := own_slice hown4; obtain ⟨g4, ff4⟩ := Hst4.out _ w4 hg4)
          have hst := (Hv3.out.below (bel1 _ _)).step Hx.out Hy.out hown4 hg4 hm4
          have hb4 := (grow_keep Hv3.out.o hg4).2.2 _ _ hb3 (by omega) (by omega)
          have Hst := Lib.hid hst
          clear hst
          go_roundw
          case rel => exact ⟨j + 1, ws3, _, _, by omega, by simp, hbits3, by have := Hwl3.out; omega, Hst.out, hb4.setCell (by simp) _⟩
          case measure => simp [intOf]; omega
        · have e0 := Lib.hid (show (x.a.k == 0) = false by simpa using hnull)
          have Hy : Hid (nz x = x) := by show _ = _; unfold nz; rw [if_neg hnull]
          have Hnul := Lib.hid (show nulAt l j = false by rw [nulAt_of Hx.out]; exact e0.out)
          clear hnull
          refine hnc.out.mono ?_
          rintro e W3 ⟨rfl, hb2b⟩
          rw [e0.out]
          have hz2b := hb2b.size
          have Hv3 := Lib.hid (Hv2.out.below hb2b)
          have Hx3 := Lib.hid ((hb2b.block wr.heap.size (by omega)).trans Hx2.out)
          have hb3 : Below vb W0 W3 := hb2.trans (hb2b.mono (by omega))
          have Hz3 : wr.heap.size + 1 ≤ W3.heap.size := by omega
          have hbits3 := hbits2.skip Hnul.out
          have Hwl3 := Lib.hid Hwl2.out.2
          have hz3 : wr.heap.size + 1 ≤ W3.heap.size := Hz3
          have tt0 := Htt.out W3 hb3
          have xc := cell_of_row W3 wr.heap.size 3 _ _ _ Hx3.out
          simp at xc
          obtain ⟨_, _, _, _, c4, f4⟩ := Hv3.out.cells
          have Hst4 : Hid (∀ o w4, (W3.alloc o).grownBy w4 r.ownBlock → w4.cell? ⟨vb, 5, none⟩ = some r ∧ w4.frozen? ⟨vb, 5, none⟩ = false) := fun o w4 hg => by
            have k4 := (grow_keep Hv3.out.o hg).1 vb (by omega) (by omega)
            exact ⟨(World.cell?_of_block k4).trans c4, (World.frozen?_of_block k4).trans (f4 _)⟩
          have h3 : Hid (j + 1 ≤ maxLen) := by show _ ≤ _; unfold maxLen; omega
          have h4 : Hid ((j + 1) * 16 ≤ 140737488355328) := by show _ ≤ _; omega
          have h5 : Hid (∀ o, w.heap.size + 3 ≤ (W3.alloc o).heap.size) := fun o => by simp; omega
          have f4' := f4 5
          clear f4
          go_wp2_with (at_builtin; refine wpList_append_own2 _ rfl _ _ 52 rfl (w.heap.size + 3) 9 i1 _ 1 16 Tryz.underlying52 hi1 iz1 isz1 iby1 rfl (by decide) _ j (((l.map nz).take j).flatMap (fun x : VT => [Value.string x.a.s])) rfl (Hv3.out.o.alloc _) ⟨W3.heap.size, 0, none⟩ 1 1 ((fun x : VT => [Value.string x.a.s]) x) rfl (by decide) rfl (fun q u' h => new_cells _ _ _ q u' h) (by simp [Value.oneCell']) h3.out h4.out (h5.out _) ?_; intro sv' w4 hown4 hg4 hm4; obtain ⟨A', cap', rfl⟩ := own_slice hown4; obtain ⟨g4, ff4⟩ := Hst4.out _ w4 hg4)
          have hst := (Hv3.out.below (bel1 _ _)).step Hx.out Hy.out hown4 hg4 hm4
          have hb4 := (grow_keep Hv3.out.o hg4).2.2 _ _ hb3 (by omega) (by omega)
          have Hst := Lib.hid hst
          clear hst
          go_roundw
          case rel => exact ⟨j + 1, ws2, rN2, _, by omega, by simp, hbits3, by have := Hwl3.out; omega, Hst.out, hb4.setCell (by simp) _⟩
          case measure => simp [intOf]; omega
    · obtain rfl : j = size := by omega
      obtain ⟨NA', ncap', rfl⟩ := own_slice hv.n
      obtain ⟨A', cap', rfl⟩ := own_slice hv.o
      have c0 := hv.all 0
      have c1 := hv.all 1
      have c2 := hv.all 2
      have c3 := hv.all 3
      have c4 := hv.all 4
      have c5 := hv.all 5
      have c6 := hv.all 6
      have e2 := (hb.block (w.heap.size + 1) (by omega)).trans HP1.out
      have q0 := cell_of_row wr (w.heap.size + 1) 0 _ _ _ e2
      have q1 := cell_of_row wr (w.heap.size + 1) 1 _ _ _ e2
      have q2 := cell_of_row wr (w.heap.size + 1) 2 _ _ _ e2
      have q3 := cell_of_row wr (w.heap.size + 1) 3 _ _ _ e2
      have q4 := cell_of_row wr (w.heap.size + 1) 4 _ _ _ e2
      have q5 := cell_of_row wr (w.heap.size + 1) 5 _ _ _ e2
      have q6 := cell_of_row wr (w.heap.size + 1) 6 _ _ _ e2
      have fz : ∀ i, wr.frozen? ⟨w.heap.size + 1, i, none⟩ = false := fun i => by simp [World.frozen?, e2]
      simp at q0 q1 q2 q3 q4 q5 q6 c0 c1 c2 c3 c4 c5 c6
      have Hwl := Lib.hid hwl
      clear e2 hSr hwl
      go_wp2
      refine bodyPost_ret (v := .agg #[.int .i64 k, .int .i64 sc, .slice A fl cap, .slice NA' ws.length ncap', .slice none 0 0, .slice A' j cap', .slice none 0 0]) (by simp [results, Tryz.results41, go_sem, *]) rfl ?_
      refine ⟨ws, _, _, rfl, ?_, hbits, Hwl.out, ?_, ?_⟩
      · exact (((((((Hb0.out.trans (hb.mono (by omega))).setCell (by simp) _).setCell (by simp) _).setCell (by simp) _).setCell (by simp) _).setCell (by simp) _).setCell (by simp) _).setCell (by simp) _
      · refine own_keep hv.n fun q h1 _ => ?_
        iterate 7 rw [Deep.blk_setCell_other _ _ _ _ (by simp; omega)]
      · refine own_keep hv.o fun q h1 _ => ?_
        iterate 7 rw [Deep.blk_setCell_other _ _ _ _ (by simp; omega)]
end Go.Proofs.YtkadahfknccjfaaGreatDoor
