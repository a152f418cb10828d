/-
  Package value: the text of a sound value.
-/
import Derived.Test.YteeabfdafnncfaaDoorQTxS
namespace Go.Proofs.YteeabfdafnncfaaDoor
open Go.RowKit

theorem VT.In.invT {B : Nat} {w : World} {a : VP} {l : List VT} (h : VT.In B w (.node a l)) : VT.Row B w a.A a.cap l ∧ ∀ x, x ∈ l → VT.In B w x := by
  cases h
  exact ⟨by assumption, by assumption⟩
set_option maxRecDepth 100000 in
set_option maxHeartbeats 4000000 in
theorem vshow_any : ∀ (v : VT) (B : Nat) (w : World), VT.In B w v → PowTab B w → B ≤ w.heap.size → OkV v → (txtV v).length ≤ 4398046511104 →
    Calls Tryd.prog 12 #[.agg #[.int .i64 v.a.k, .int .i64 v.a.n, .int .i64 v.a.sc, .string v.a.s, .slice v.a.A v.l.length v.a.cap]] w fun e w' => e = .returned (.string (bs (txtV v))) ∧ Below w.heap.size w w' := by
  refine VT.ind fun a l ih B w hin hT hB hok hlen => ?_
  obtain ⟨k, n, sc, s, A, cap⟩ := a
  obtain ⟨hr, hl⟩ := hin.invT
  obtain ⟨hal, hox⟩ := hok.inv
  simp only [VT.a_node, VT.l_node] at hr hal ⊢
  by_cases h67 : k = 6 ∨ k = 7
  · obtain ⟨is, his, isz, iss, isb⟩ := info_str
    obtain ⟨len, hll⟩ : ∃ len, l.length = len := ⟨_, rfl⟩
    have hJ : (Lib.join (l.map txtV) [44, 32]).length ≤ 4398046511104 := by
      rcases h67 with rfl | rfl
      · rw [txtV_list rfl] at hlen; simp at hlen; omega
      · rw [txtV_record rfl] at hlen; simp at hlen; omega
    have hcnt := join_count (l.map txtV) [44, 32] (by decide)
    have hjl : ∀ x, x ∈ l → (txtV x).length ≤ 4398046511104 := fun x hx => Nat.le_trans (join_mem_le (List.mem_map_of_mem hx)) hJ
    have Hcnt : Hid (len ≤ 4398046511105) := by
      show _ ≤ _
      rw [List.length_map] at hcnt
      omega
    have hlm : len ≤ maxLen := by rw [← hll]; exact Nat.le_trans hr.1 hr.2.1
    unfold maxLen at hlm
    have Hlen := Lib.hid hll
    have HJ := Lib.hid hJ
    have Hjl := Lib.hid hjl
    have Hr := Lib.hid hr
    have Hl := Lib.hid hl
    have HT := Lib.hid hT
    have Hok := Lib.hid hox
    have Ih := Lib.hid ih
    rw [hll]
    rcases h67 with rfl | rfl
    · have Hf : Hid (bs [91] ++ bs (Lib.join (l.map txtV) [44, 32]) ++ bs [93] = bs (txtV (.node ⟨6, n, sc, s, A, cap⟩ l))) := by
        show _ = _
        rw [bs_cat, bs_cat, txtV_list rfl]
      clear hll hJ hjl hr hl hT hox ih hin hok hal hlen hcnt
      go_enter Tryd.func12, Tryd.ntmps12
      go_wp2_with fail
      generalize hW1 : World.alloc _ _ = W1
      have hb1 : Below w.heap.size w W1 := by rw [← hW1]; exact (Below.refl _ _).alloc (Nat.le_refl _) _
      have hk0 : W1.cell? ⟨w.heap.size, 0, none⟩ = some (.int .i64 6) := by rw [← hW1]; simp
      have hz1 : w.heap.size < W1.heap.size := by rw [← hW1]; simp
      clear hW1
      go_loopw [3, 44] (fun sv i wr => StR txtV l W1.heap.size W1 len sv i wr) (fun _ i _ => len - (intOf i).toNat)
      case atStart => exact ⟨0, Nat.zero_le _, rfl, World.ownsRow_nil _ _ _ _, Below.refl _ _⟩
      case round =>
        obtain ⟨j, hj, rfl, hown, hbr⟩ := hrel
        have hbw := hb1.trans (hbr.mono hb1.size)
        by_cases hlt : j < len
        · have hS := Same.mono (Same.of_below hbw) hB
          obtain ⟨x, ad, hx, rfl, hb, d0, d1, d2, d3, d4⟩ := (Hr.out.keep hS).get (show j < l.length by rw [Hlen.out]; exact hlt)
          have hxm := mem_of_get? hx
          obtain ⟨W4, hW4⟩ : ∃ W4, wr.alloc (.cells #[.int .i64 x.a.k, .int .i64 x.a.n, .int .i64 x.a.sc, .string x.a.s, .slice x.a.A x.l.length x.a.cap] 29) = W4 := ⟨_, rfl⟩
          have hb4 : Below wr.heap.size wr W4 := by rw [← hW4]; exact (Below.refl _ _).alloc (Nat.le_refl _) _
          have hbw4 := hbw.trans (hb4.mono hbw.size)
          have hS4 := Same.mono (Same.of_below hbw4) hB
          have hcp := Lib.hid (Ih.out x hxm B W4 ((Hl.out x hxm).keep hS4) (HT.out.keep hS4) (Nat.le_trans hB hbw4.size) (Hok.out x hxm) (Hjl.out x hxm))
          have h3 : Hid (j + 1 ≤ maxLen) := by show _ ≤ _; unfold maxLen; have := Hcnt.out; omega
          have h4 : Hid ((j + 1) * 16 ≤ 140737488355328) := by show _ ≤ _; have := Hcnt.out; omega
          have HW4 := Lib.hid hW4
          have Hhx := Lib.hid hx
          have Hown := Lib.hid hown
          clear hW4 hx hown hS hS4 hxm
          go_wp2_with fail
          rw [HW4.out]
          refine hcp.out.mono ?_
          rintro e w5 ⟨rfl, hb5⟩
          have hbr5 : Below wr.heap.size wr w5 := hb4.trans (hb5.mono hb4.size)
          have hownY := strOwn_below Hown.out hbr5
          have h5 : Hid (∀ o, W1.heap.size ≤ (w5.alloc o).heap.size) := fun o => by have := hbr5.size; have := hbr.size; simp; omega
          clear hcp
          go_wp2_with (at_builtin; refine wpList_append_own2 _ rfl _ _ 24 rfl W1.heap.size 9 is _ 1 16 Tryd.underlying24 his isz iss isb rfl (by decide) _ j (strRow ((l.take j).map txtV)) rfl (hownY.alloc _) ⟨w5.heap.size, 0, none⟩ 1 1 [.string (bs (txtV x))] rfl (by decide) rfl (strNew _ _ _) (by simp [Value.oneCell']) h3.out h4.out (h5.out _) ?_; intro sv' w6 hown6 hg6 hm6)
          have HST := Lib.hid (StR.step (f := txtV) rfl Hhx.out hlt Hown.out hbr hbr5 _ hown6 hg6)
          clear hown6 hg6 hm6 hownY
          go_wp2
          go_roundw
          case rel => exact HST.out
          case measure => simp [intOf]; omega
        · obtain rfl : j = len := by omega
          rw [List.take_of_length_le (by rw [Hlen.out]; omega)] at hown
          have hjn := Lib.hid (join_own hown (by rw [List.length_map]; exact Hlen.out) (sep := [44, 32]) (by decide) (Nat.le_trans HJ.out (by decide)))
          have hk0' := (hbr.cell (p := ⟨w.heap.size, 0, none⟩) hz1).trans hk0
          have hk1 : Hid (∀ w', Below wr.heap.size wr w' → w'.cell? ⟨w.heap.size, 0, none⟩ = some (.int .i64 6)) := fun w' h => (h.cell (p := ⟨w.heap.size, 0, none⟩) (by have := hbr.size; show w.heap.size < _; omega)).trans hk0'
          have Hbw := Lib.hid hbw
          clear hown hk0 hk0' hbr hb1 hbw
          have hsz := bs_size (Lib.join (l.map txtV) [44, 32])
          have hJ := HJ.out
          generalize bs (Lib.join (l.map txtV) [44, 32]) = S at *
          go_wp2_with fail
          refine hjn.out.mono ?_
          rintro e w7 ⟨rfl, hb7⟩
          have hk2 := hk1.out w7 hb7
          go_wp2
          go_ret
          exact ⟨by rw [← Hf.out]; rfl, Hbw.out.trans (hb7.mono Hbw.out.size)⟩
    · have Hf : Hid (bs [40] ++ bs (Lib.join (l.map txtV) [44, 32]) ++ bs [41] = bs (txtV (.node ⟨7, n, sc, s, A, cap⟩ l))) := by
        show _ = _
        rw [bs_cat, bs_cat, txtV_record rfl]
      clear hll hJ hjl hr hl hT hox ih hin hok hal hlen hcnt
      go_enter Tryd.func12, Tryd.ntmps12
      go_wp2_with fail
      generalize hW1 : World.alloc _ _ = W1
      have hb1 : Below w.heap.size w W1 := by rw [← hW1]; exact (Below.refl _ _).alloc (Nat.le_refl _) _
      have hk0 : W1.cell? ⟨w.heap.size, 0, none⟩ = some (.int .i64 7) := by rw [← hW1]; simp
      have hz1 : w.heap.size < W1.heap.size := by rw [← hW1]; simp
      clear hW1
      go_loopw [3, 44] (fun sv i wr => StR txtV l W1.heap.size W1 len sv i wr) (fun _ i _ => len - (intOf i).toNat)
      case atStart => exact ⟨0, Nat.zero_le _, rfl, World.ownsRow_nil _ _ _ _, Below.refl _ _⟩
      case round =>
        obtain ⟨j, hj, rfl, hown, hbr⟩ := hrel
        have hbw := hb1.trans (hbr.mono hb1.size)
        by_cases hlt : j < len
        · have hS := Same.mono (Same.of_below hbw) hB
          obtain ⟨x, ad, hx, rfl, hb, d0, d1, d2, d3, d4⟩ := (Hr.out.keep hS).get (show j < l.length by rw [Hlen.out]; exact hlt)
          have hxm := mem_of_get? hx
          obtain ⟨W4, hW4⟩ : ∃ W4, wr.alloc (.cells #[.int .i64 x.a.k, .int .i64 x.a.n, .int .i64 x.a.sc, .string x.a.s, .slice x.a.A x.l.length x.a.cap] 29) = W4 := ⟨_, rfl⟩
          have hb4 : Below wr.heap.size wr W4 := by rw [← hW4]; exact (Below.refl _ _).alloc (Nat.le_refl _) _
          have hbw4 := hbw.trans (hb4.mono hbw.size)
          have hS4 := Same.mono (Same.of_below hbw4) hB
          have hcp := Lib.hid (Ih.out x hxm B W4 ((Hl.out x hxm).keep hS4) (HT.out.keep hS4) (Nat.le_trans hB hbw4.size) (Hok.out x hxm) (Hjl.out x hxm))
          have h3 : Hid (j + 1 ≤ maxLen) := by show _ ≤ _; unfold maxLen; have := Hcnt.out; omega
          have h4 : Hid ((j + 1) * 16 ≤ 140737488355328) := by show _ ≤ _; have := Hcnt.out; omega
          have HW4 := Lib.hid hW4
          have Hhx := Lib.hid hx
          have Hown := Lib.hid hown
          clear hW4 hx hown hS hS4 hxm
          go_wp2_with fail
          rw [HW4.out]
          refine hcp.out.mono ?_
          rintro e w5 ⟨rfl, hb5⟩
          have hbr5 : Below wr.heap.size wr w5 := hb4.trans (hb5.mono hb4.size)
          have hownY := strOwn_below Hown.out hbr5
          have h5 : Hid (∀ o, W1.heap.size ≤ (w5.alloc o).heap.size) := fun o => by have := hbr5.size; have := hbr.size; simp; omega
          clear hcp
          go_wp2_with (at_builtin; refine wpList_append_own2 _ rfl _ _ 24 rfl W1.heap.size 9 is _ 1 16 Tryd.underlying24 his isz iss isb rfl (by decide) _ j (strRow ((l.take j).map txtV)) rfl (hownY.alloc _) ⟨w5.heap.size, 0, none⟩ 1 1 [.string (bs (txtV x))] rfl (by decide) rfl (strNew _ _ _) (by simp [Value.oneCell']) h3.out h4.out (h5.out _) ?_; intro sv' w6 hown6 hg6 hm6)
          have HST := Lib.hid (StR.step (f := txtV) rfl Hhx.out hlt Hown.out hbr hbr5 _ hown6 hg6)
          clear hown6 hg6 hm6 hownY
          go_wp2
          go_roundw
          case rel => exact HST.out
          case measure => simp [intOf]; omega
        · obtain rfl : j = len := by omega
          rw [List.take_of_length_le (by rw [Hlen.out]; omega)] at hown
          have hjn := Lib.hid (join_own hown (by rw [List.length_map]; exact Hlen.out) (sep := [44, 32]) (by decide) (Nat.le_trans HJ.out (by decide)))
          have hk0' := (hbr.cell (p := ⟨w.heap.size, 0, none⟩) hz1).trans hk0
          have hk1 : Hid (∀ w', Below wr.heap.size wr w' → w'.cell? ⟨w.heap.size, 0, none⟩ = some (.int .i64 7)) := fun w' h => (h.cell (p := ⟨w.heap.size, 0, none⟩) (by have := hbr.size; show w.heap.size < _; omega)).trans hk0'
          have Hbw := Lib.hid hbw
          clear hown hk0 hk0' hbr hb1 hbw
          have hsz := bs_size (Lib.join (l.map txtV) [44, 32])
          have hJ := HJ.out
          generalize bs (Lib.join (l.map txtV) [44, 32]) = S at *
          go_wp2_with fail
          refine hjn.out.mono ?_
          rintro e w7 ⟨rfl, hb7⟩
          have hk2 := hk1.out w7 hb7
          go_wp2
          go_ret
          exact ⟨by rw [← Hf.out]; rfl, Hbw.out.trans (hb7.mono Hbw.out.size)⟩
  · rw [txtV_leaf (by simp; omega) (by simp; omega)]
    exact vshow_leaf k n sc s A l.length cap B w hal (by omega) (by omega) hT hB
end Go.Proofs.YteeabfdafnncfaaDoor
