/-
  Package value: the fields of a record's type.
-/
import Derived.Test.YtcpbbagppkcilaaDoorValB
namespace Go.Proofs.YtcpbbagppkcilaaDoor
open Go.RowKit
set_option maxRecDepth 100000 in
set_option maxHeartbeats 4000000 in
theorem vfields_rec {B : Nat} {w : World} (sc : Int) (A : Option Addr) (cap len : Nat) (l : List FT) (hr : FT.Row B w A cap l) (hin : ∀ x, x ∈ l → FT.In B w x) (hB : B ≤ w.heap.size) (h0 : 0 < len) (hlen : Hid (l.length = len)) :
    Calls Tryd.prog 92 #[.agg #[.int .i64 7, .int .i64 sc, .slice A len cap]] w fun e w' => e = .returned (.int .i64 (recS l)) ∧ Below w.heap.size w w' := by
  have hl : len ≤ 9223372036854775807 := by rw [← hlen.out]; exact Nat.le_trans hr.1 hr.2.1
  have hcl : len ≤ cap := by rw [← hlen.out]; exact hr.1
  have hcm : cap ≤ 9223372036854775807 := hr.2.1
  have e0 : ((len : Int) == 0) = false := by simp; omega
  obtain ⟨W0, hW0⟩ : ∃ W0, w.alloc (.cells #[.int .i64 7, .int .i64 sc, .slice A len cap] 24) = W0 := ⟨_, rfl⟩
  have hbw : Below w.heap.size w W0 := by rw [← hW0]; exact bel1 _ _
  have hz0 : w.heap.size < W0.heap.size := by rw [← hW0]; simp
  have hbx : W0.cell? ⟨w.heap.size, 2, none⟩ = some (.slice A len cap) := by rw [← hW0]; simp
  have hS0 := Same.mono (Same.of_below hbw) hB
  have hr0 := hr.keep hS0
  have hin0 := fun x (hx : x ∈ l) => (hin x hx).keep hS0
  have hc1 := Lib.hid (names_ct A cap len l hr0 hin0 (by omega) hlen)
  have HW0 := Lib.hid hW0
  clear hW0 hr hin hS0
  go_enter Tryd.func92, Tryd.ntmps92
  go_wp2_with fail
  rw [HW0.out]
  refine hc1.out.mono ?_
  rintro e w1 (⟨rfl, hb1, hnf⟩ | ⟨rfl, hb1, hna⟩)
  · have HR := Lib.hid (show recS l = 4 by unfold recS; rw [if_pos hnf])
    go_wp2
    go_ret
    exact ⟨by rw [HR.out]; rfl, hbw.trans (hb1.mono (by omega))⟩
  · have hN := Lib.hid (namesB_true (l := l) fun i hi => hna i (by rw [hlen.out] at hi; omega))
    have hbx1 := (hb1.cell (p := ⟨w.heap.size, 2, none⟩) hz0).trans hbx
    have hz1 : W0.heap.size ≤ w1.heap.size := hb1.size
    have hr1 := hr0.keep (Same.mono (Same.of_below hb1) (by omega))
    have hbw1 : Below w.heap.size w w1 := hbw.trans (hb1.mono (by omega))
    clear hc1 hna hbx hr0 hin0 hb1 hbw HW0
    go_wp2
    go_loopw [40] (fun i wr => ∃ j : Nat, j ≤ len ∧ i = .int .i64 j ∧ Below w1.heap.size w1 wr ∧ Hid (∀ i k, i < j → k < i → ((nmAt l k).toList == (nmAt l i).toList) = false)) (fun i _ => len - (intOf i).toNat)
    case atStart => exact ⟨0, Nat.zero_le _, rfl, Below.refl _ _, fun i k h => absurd h (by omega)⟩
    case round =>
      obtain ⟨j, hj, rfl, hbr, hall⟩ := hrel
      by_cases hlt : j < len
      · have hrr := hr1.keep (Same.mono (Same.of_below hbr) (by omega))
        obtain ⟨x, ad, hx, rfl, hb, d0, d1, d2, d3, d4, d5⟩ := hrr.get (show j < l.length by rw [hlen.out]; exact hlt)
        have hnx := Lib.hid (nmAt_of hx)
        have hbxr := (hbr.cell (p := ⟨w.heap.size, 2, none⟩) (by show w.heap.size < _; omega)).trans hbx1
        have hzr : w1.heap.size ≤ wr.heap.size := hbr.size
        have hlt0 : w.heap.size < wr.heap.size := by omega
        obtain ⟨o1, ho1⟩ : ∃ o1, Obj.cells #[.int .i64 x.a.id, .string x.a.nm, .bool x.a.nd, .int .i64 x.a.k, .int .i64 x.a.sc, .slice x.a.A x.l.length x.a.cap] 77 = o1 := ⟨_, rfl⟩
        obtain ⟨W1, hW1⟩ : ∃ W1, wr.alloc o1 = W1 := ⟨_, rfl⟩
        have hbW1 : Below wr.heap.size wr W1 := by rw [← hW1]; exact bel1 _ _
        have hf1 : W1.cell? ⟨wr.heap.size, 1, none⟩ = some (.string x.a.nm) := by rw [← hW1, ← ho1, cell_new]; rfl
        have htw := Lib.hid (twice_ct (some ad) cap j wr.heap.size l x.a.nm (hrr.keep (Same.mono (Same.of_below hbW1) (by omega))) (by have := hbW1.size; omega) (by rw [hlen.out]; omega) hf1)
        have HW1 := Lib.hid hW1
        have Ho1 := Lib.hid ho1
        have hzW1 : wr.heap.size ≤ W1.heap.size := hbW1.size
        have hbR : Below w1.heap.size w1 W1 := hbr.trans (hbW1.mono hzr)
        clear hW1 ho1 hrr hr1 hx hbx1
        go_wp2_with fail
        rw [Ho1.out, HW1.out]
        refine htw.out.mono ?_
        rintro e w2 (⟨rfl, hb2, q, hq, hqe⟩ | ⟨rfl, hb2, hno⟩)
        · have HR := Lib.hid (show recS l = 5 by
            unfold recS
            rw [hN.out, if_neg (by simp), if_pos (twiceB_true (i := j) (k := q) (by rw [hlen.out]; exact hlt) hq (by rw [hnx.out]; exact hqe))])
          clear hqe
          go_wp2
          go_ret
          exact ⟨by rw [HR.out]; rfl, hbw1.trans ((hbR.trans (hb2.mono (by omega))).mono (by omega))⟩
        · have hno' : Hid (∀ k', k' < j → ((nmAt l k').toList == (nmAt l j).toList) = false) := by rw [hnx.out]; exact hno
          clear hno
          go_wp2
          go_roundw
          case rel => exact ⟨j + 1, by omega, by go_num, hbR.trans (hb2.mono (by omega)), twice_step2 hall hno' (Nat.le_refl _)⟩
          case measure => simp [intOf]; omega
      · have HR := Lib.hid (show recS l = 0 by
          unfold recS
          rw [hN.out, if_neg (by simp), if_neg (by rw [twiceB_false (fun i k hi hk => hall.out i k (by rw [hlen.out] at hi; omega) hk)]; simp)])
        go_wp2
        go_ret
        exact ⟨by rw [HR.out]; rfl, hbw1.trans (hbr.mono (by omega))⟩
theorem vfields_any {B : Nat} {w : World} (k sc : Int) (A : Option Addr) (cap len : Nat) (l : List FT) (hr : FT.Row B w A cap l) (hin : ∀ x, x ∈ l → FT.In B w x) (hB : B ≤ w.heap.size) (hlen : Hid (l.length = len)) :
    Calls Tryd.prog 92 #[.agg #[.int .i64 k, .int .i64 sc, .slice A len cap]] w fun e w' => e = .returned (.int .i64 (fieldsS k l)) ∧ Below w.heap.size w w' := by
  have hl : len ≤ maxLen := by rw [← hlen.out]; exact Nat.le_trans hr.1 hr.2.1
  have hle := hlen.out
  unfold fieldsS
  by_cases h6 : k = 6
  · subst h6
    rw [if_pos rfl]
    by_cases hl1 : l.length = 1
    · obtain ⟨x, ad, hx, rfl, hb, c0, c1, c2, c3, c4, c5⟩ := hr.get (show 0 < l.length by omega)
      have hnm := nmAt_of hx
      have ha : ad.add (0 * 6) = ad := rfl
      rw [ha] at c1
      obtain rfl : len = 1 := by omega
      by_cases he : x.a.nm.toList = []
      · rw [if_neg (by rw [hnm]; simp [hl1, he])]
        exact vfields_none sc ad cap x.a.nm w c1 he
      · rw [if_pos (by rw [hnm]; exact .inr he)]
        exact vfields_named sc ad cap x.a.nm w c1 he
    · rw [if_pos (.inl hl1)]
      exact vfields_many sc A len cap w hl (by omega)
  rw [if_neg h6]
  by_cases h7 : k = 7
  · subst h7
    rw [if_neg (by simp)]
    by_cases h0 : len = 0
    · subst h0
      rw [if_pos hle]
      exact vfields_rec0 sc A cap w
    · rw [if_neg (by omega)]
      exact vfields_rec sc A cap len l hr hin hB (by omega) hlen
  · rw [if_pos h7]
    by_cases h0 : len = 0
    · subst h0
      rw [if_pos hle]
      exact vfields_leaf0 k sc A cap w h6 h7
    · rw [if_neg (by omega)]
      exact vfields_leaf1 k sc A len cap w hl (by omega) h6 h7
end Go.Proofs.YtcpbbagppkcilaaDoor
