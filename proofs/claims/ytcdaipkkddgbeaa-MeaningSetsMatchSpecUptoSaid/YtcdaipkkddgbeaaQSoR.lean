/-
  Package value: wide numbers subtracted.
-/
import Derived.Test.YtcdaipkkddgbeaaQSoQ
namespace Go.Proofs.Ytcdaipkkddgbeaa
open Go.RowKit
theorem swap5_other {W : World} {b c d : Nat} (h1 : d ≠ b) (h2 : d ≠ c) (u0 u1 u2 u3 u4 x0 x1 x2 x3 x4 : Value) :
    ((((((((((W.setCell ⟨b, 0, none⟩ u0).setCell ⟨b, 1, none⟩ u1).setCell ⟨b, 2, none⟩ u2).setCell ⟨b, 3, none⟩ u3).setCell ⟨b, 4, none⟩ u4).setCell ⟨c, 0, none⟩ x0).setCell ⟨c, 1, none⟩ x1).setCell ⟨c, 2, none⟩ x2).setCell ⟨c, 3, none⟩ x3).setCell ⟨c, 4, none⟩ x4).heap[d]? = W.heap[d]? := by
  rw [set5_other h2, set5_other h1]
def mw2 (X Y i q : Nat) : Int := if q < i then wd (X - Y) q else wd X q
def mcs (ng : Bool) (X Y i : Nat) : Array Value := #[.bool ng, .int .u64 (mw2 X Y i 0), .int .u64 (mw2 X Y i 1), .int .u64 (mw2 X Y i 2), .int .u64 (mw2 X Y i 3)]
def borrow (X Y i : Nat) : Nat := if X % 18446744073709551616 ^ i < Y % 18446744073709551616 ^ i then 1 else 0
theorem borrow_zero (X Y : Nat) : borrow X Y 0 = 0 := by unfold borrow; rw [Nat.pow_zero, Nat.mod_one, Nat.mod_one]; rfl
theorem borrow_le (X Y i : Nat) : borrow X Y i ≤ 1 := by unfold borrow; split <;> omega
theorem sub_step {X Y : Nat} (i : Nat) (h : Y ≤ X) :
    (X / 18446744073709551616 ^ i % 18446744073709551616 + 18446744073709551616 - Y / 18446744073709551616 ^ i % 18446744073709551616 - borrow X Y i) % 18446744073709551616 = (X - Y) / 18446744073709551616 ^ i % 18446744073709551616 ∧
    (if X / 18446744073709551616 ^ i % 18446744073709551616 < Y / 18446744073709551616 ^ i % 18446744073709551616 + borrow X Y i then 1 else 0) = borrow X Y (i + 1) := by
  have hP : 0 < 18446744073709551616 ^ i := Nat.pow_pos (by decide)
  unfold borrow
  rw [Nat.pow_succ]
  generalize 18446744073709551616 ^ i = P at *
  have hx := Nat.mod_add_div X P
  have hy := Nat.mod_add_div Y P
  have x0 := Nat.mod_lt X hP
  have y0 := Nat.mod_lt Y hP
  have h1 : X % (P * 18446744073709551616) = X % P + P * (X / P % 18446744073709551616) := Nat.mod_mul
  have h2 : Y % (P * 18446744073709551616) = Y % P + P * (Y / P % 18446744073709551616) := Nat.mod_mul
  rw [h1, h2]
  have hle : Y / P ≤ X / P := Nat.div_le_div_right h
  have e : (X - Y) / P = X / P - Y / P - (if X % P < Y % P then 1 else 0) ∧ Y / P + (if X % P < Y % P then 1 else 0) ≤ X / P := by
    have hsub : P * (X / P) - P * (Y / P) = P * (X / P - Y / P) := (Nat.mul_sub _ _ _).symm
    have hmul : P * (Y / P) ≤ P * (X / P) := Nat.mul_le_mul_left _ hle
    split
    · rename_i hlt
      have hne : Y / P ≠ X / P := fun he => by rw [he] at hy; omega
      have hl : Y / P + 1 ≤ X / P := by omega
      refine ⟨?_, hl⟩
      have hm : P * (X / P - Y / P) = P * (X / P - Y / P - 1) + P := by
        conv => lhs; rw [show X / P - Y / P = X / P - Y / P - 1 + 1 by omega]
        rw [Nat.mul_add, Nat.mul_one]
      have : X - Y = X % P + P - Y % P + P * (X / P - Y / P - 1) := by omega
      rw [this, Nat.add_mul_div_left _ _ hP, Nat.div_eq_of_lt (by omega), Nat.zero_add]
    · rename_i hlt
      refine ⟨?_, by omega⟩
      have : X - Y = X % P - Y % P + P * (X / P - Y / P) := by omega
      rw [this, Nat.add_mul_div_left _ _ hP, Nat.div_eq_of_lt (by omega), Nat.zero_add, Nat.sub_zero]
  obtain ⟨e1, e2⟩ := e
  rw [e1]
  have hB : (X % P < Y % P ∧ (if X % P < Y % P then 1 else 0) = 1) ∨ (¬ X % P < Y % P ∧ (if X % P < Y % P then 1 else 0) = 0) := by
    by_cases hc : X % P < Y % P
    · exact .inl ⟨hc, if_pos hc⟩
    · exact .inr ⟨hc, if_neg hc⟩
  generalize (if X % P < Y % P then 1 else 0) = b at *
  refine ⟨by omega, ?_⟩
  generalize hu : X / P % 18446744073709551616 = u
  generalize hv : Y / P % 18446744073709551616 = v
  have key : (u < v + b) ↔ (X % P + P * u < Y % P + P * v) := by
    rcases Nat.lt_trichotomy u v with hl | rfl | hl
    · have : P * (u + 1) ≤ P * v := Nat.mul_le_mul_left _ hl
      rw [Nat.mul_add, Nat.mul_one] at this
      constructor <;> intro _ <;> omega
    · constructor <;> intro _ <;> omega
    · have : P * (v + 1) ≤ P * u := Nat.mul_le_mul_left _ hl
      rw [Nat.mul_add, Nat.mul_one] at this
      constructor <;> intro _ <;> omega
  by_cases hc : u < v + b
  · rw [if_pos hc, if_pos (key.1 hc)]
  · rw [if_neg hc, if_neg (fun h => hc (key.2 h))]
theorem sub_words {X Y : Nat} (q : Nat) (h : Y ≤ X) (W : World) : (callFunc 63 #[.int .u64 (wd X q), .int .u64 (wd Y q), .int .u64 (borrow X Y q : Int)]).run Try.prog W = .ok (.value (.tuple #[.int .u64 (wd (X - Y) q), .int .u64 (borrow X Y (q + 1) : Int)])) W := by
  obtain ⟨m1, m2⟩ := sub_step q h
  have h := sub64_any (X / 18446744073709551616 ^ q % 18446744073709551616) (Y / 18446744073709551616 ^ q % 18446744073709551616) (borrow X Y q) (borrow_le _ _ _) W
  rw [m1, m2] at h
  exact h
theorem mcs_set {ng : Bool} {X Y i : Nat} {W : World} {b : Nat} {t : TypeId} (h : W.heap[b]? = some (.cells (mcs ng X Y i) t (0, 0))) (hi : i < 4) : (W.setCell ⟨b, i + 1, none⟩ (.int .u64 (wd (X - Y) i))).heap[b]? = some (.cells (mcs ng X Y (i + 1)) t (0, 0)) := by
  unfold mcs at h ⊢
  have : i = 0 ∨ i = 1 ∨ i = 2 ∨ i = 3 := by omega
  rcases this with rfl | rfl | rfl | rfl <;> simp [World.setCell, Array.getElem?_modify, h, mw2]
theorem swap5 {w W : World} {b c : Nat} {t : TypeId} {v0 v1 v2 v3 v4 y0 y1 y2 y3 y4 : Value} (h : W52 w b c t #[v0, v1, v2, v3, v4] #[y0, y1, y2, y3, y4] W) (hbc : c ≠ b) (u0 u1 u2 u3 u4 x0 x1 x2 x3 x4 : Value) :
    W52 w b c t #[u0, u1, u2, u3, u4] #[x0, x1, x2, x3, x4] ((((((((((W.setCell ⟨b, 0, none⟩ u0).setCell ⟨b, 1, none⟩ u1).setCell ⟨b, 2, none⟩ u2).setCell ⟨b, 3, none⟩ u3).setCell ⟨b, 4, none⟩ u4).setCell ⟨c, 0, none⟩ x0).setCell ⟨c, 1, none⟩ x1).setCell ⟨c, 2, none⟩ x2).setCell ⟨c, 3, none⟩ x3).setCell ⟨c, 4, none⟩ x4) := by
  have h1 := set5 h.one u0 u1 u2 u3 u4
  have h2 := set5_other hbc u0 u1 u2 u3 u4 (W := W)
  rw [h.two] at h2
  refine ⟨set5_below (set5_below h.below h.lo _ _ _ _ _) h.lo2 _ _ _ _ _, ?_, set5 h2 _ _ _ _ _, h.lo, h.lo2, ?_, ?_⟩
  · rw [set5_other hbc.symm]; exact h1
  · have := h.lt; simpa using this
  · have := h.lt2; simpa using this
set_option maxRecDepth 100000 in
set_option maxHeartbeats 4000000 in
theorem minus_ge (ng : Bool) (X Y : Nat) (w : World) (hX : X < 18446744073709551616 ^ 4) (hY : Y < 18446744073709551616 ^ 4) (hle : Y ≤ X) : Calls Try.prog 55 #[wideV ng X, wideV ng Y] w fun e w' => e = .returned (wideV ng (X - Y)) ∧ Below w.heap.size w w' := by
  have Hle := Lib.hid hle
  have hcs := Lib.hid (fun W => compareSize_any ng ng X Y W hX hY)
  have hn : ¬ ordI (X : Int) (Y : Int) < 0 := by
    unfold ordI
    rw [if_neg (by omega)]
    split <;> decide
  clear hX hY hle
  unfold wideV at hcs ⊢
  go_enter Try.func55, Try.ntmps55
  go_wp2_with (go_at_call 62; refine (hcs.out _).mono ?_; rintro e w' ⟨rfl, hb2⟩)
  have hT0 := (W52.mk3 w 69 (wcs ng X) (wcs ng Y) #[.bool false, .int .u64 0, .int .u64 0, .int .u64 0, .int .u64 0]).keep hb2
  have hR0 : w'.heap[w.heap.size + 2]? = some (.cells #[.bool false, .int .u64 0, .int .u64 0, .int .u64 0, .int .u64 0] 69 (0, 0)) := by
    rw [hb2.block _ (by simp)]
    have := heap_alloc_new ((w.alloc (.cells (wcs ng X) 69)).alloc (.cells (wcs ng Y) 69)) (.cells #[.bool false, .int .u64 0, .int .u64 0, .int .u64 0, .int .u64 0] 69)
    rw [show w.heap.size + 2 = ((w.alloc (.cells (wcs ng X) 69)).alloc (.cells (wcs ng Y) 69)).heap.size by simp]
    exact this
  have HT0 := Lib.hid hT0
  have HR0 := Lib.hid hR0
  clear hb2 hT0 hR0
  go_wp2
  go_loopw [5, 23] (fun c i wr => ∃ q : Nat, q ≤ 4 ∧ i = .int .i64 q ∧ c = .int .u64 (borrow X Y q) ∧ W52 w w.heap.size (w.heap.size + 1) 69 (mcs (ng) X Y q) (wcs (ng) Y) wr ∧ wr.heap[w.heap.size + 2]? = some (.cells #[.bool false, .int .u64 0, .int .u64 0, .int .u64 0, .int .u64 0] 69 (0, 0))) (fun _ i _ => 4 - (intOf i).toNat)
  case atStart =>
    refine ⟨0, by decide, rfl, by rw [borrow_zero]; rfl, ?_, ?_⟩
    · exact HT0.out
    · exact HR0.out
  case round =>
    obtain ⟨q, hq, rfl, rfl, hT, hR⟩ := hrel
    have HT := Lib.hid hT
    have HR := Lib.hid hR
    obtain ⟨⟨c0, c1, c2, c3, c4⟩, f0, f1, f2, f3, f4⟩ := blk5 hT.one
    obtain ⟨⟨d0, d1, d2, d3, d4⟩, -⟩ := blk5 hT.two
    clear hT hR
    have hq5 : q = 0 ∨ q = 1 ∨ q = 2 ∨ q = 3 ∨ q = 4 := by omega
    rcases hq5 with rfl | rfl | rfl | rfl | rfl
    · skip
      have ha := sub_words 0 Hle.out
      have HT2 := Lib.hid (HT.out.set (by omega) (0 + 1) _ (mcs_set HT.out.one (by decide)))
      replace c1 : wr.cell? ⟨w.heap.size, 1, none⟩ = some (.int .u64 (wd X 0)) := c1
      go_wp2
      go_region
      generalize hw2 : World.drew _ = w2
      have hb2 := below_drewNb (wr.setCell ⟨w.heap.size, 1, none⟩ (.int .u64 (wd (X - Y) 0))) 1
      change Below _ _ (World.drew _) at hb2
      rw [hw2] at hb2
      have hR2 : w2.heap[w.heap.size + 2]? = some (.cells #[.bool false, .int .u64 0, .int .u64 0, .int .u64 0, .int .u64 0] 69 (0, 0)) := by
        rw [← hw2]
        show (wr.setCell ⟨w.heap.size, 1, none⟩ (.int .u64 (wd (X - Y) 0))).heap[w.heap.size + 2]? = _
        rw [Below.heap_setCell _ _ _ _ (by show w.heap.size + 2 ≠ w.heap.size; omega)]
        exact HR.out
      clear hw2
      go_wp2
      go_roundw
      case rel => exact ⟨1, by decide, rfl, rfl, HT2.out.keep hb2, hR2⟩
      case measure => simp [intOf]
    · skip
      have ha := sub_words 1 Hle.out
      have HT2 := Lib.hid (HT.out.set (by omega) (1 + 1) _ (mcs_set HT.out.one (by decide)))
      replace c2 : wr.cell? ⟨w.heap.size, 2, none⟩ = some (.int .u64 (wd X 1)) := c2
      go_wp2
      go_region
      generalize hw2 : World.drew _ = w2
      have hb2 := below_drewNb (wr.setCell ⟨w.heap.size, 2, none⟩ (.int .u64 (wd (X - Y) 1))) 1
      change Below _ _ (World.drew _) at hb2
      rw [hw2] at hb2
      have hR2 : w2.heap[w.heap.size + 2]? = some (.cells #[.bool false, .int .u64 0, .int .u64 0, .int .u64 0, .int .u64 0] 69 (0, 0)) := by
        rw [← hw2]
        show (wr.setCell ⟨w.heap.size, 2, none⟩ (.int .u64 (wd (X - Y) 1))).heap[w.heap.size + 2]? = _
        rw [Below.heap_setCell _ _ _ _ (by show w.heap.size + 2 ≠ w.heap.size; omega)]
        exact HR.out
      clear hw2
      go_wp2
      go_roundw
      case rel => exact ⟨2, by decide, rfl, rfl, HT2.out.keep hb2, hR2⟩
      case measure => simp [intOf]
    · skip
      have ha := sub_words 2 Hle.out
      have HT2 := Lib.hid (HT.out.set (by omega) (2 + 1) _ (mcs_set HT.out.one (by decide)))
      replace c3 : wr.cell? ⟨w.heap.size, 3, none⟩ = some (.int .u64 (wd X 2)) := c3
      go_wp2
      go_region
      generalize hw2 : World.drew _ = w2
      have hb2 := below_drewNb (wr.setCell ⟨w.heap.size, 3, none⟩ (.int .u64 (wd (X - Y) 2))) 1
      change Below _ _ (World.drew _) at hb2
      rw [hw2] at hb2
      have hR2 : w2.heap[w.heap.size + 2]? = some (.cells #[.bool false, .int .u64 0, .int .u64 0, .int .u64 0, .int .u64 0] 69 (0, 0)) := by
        rw [← hw2]
        show (wr.setCell ⟨w.heap.size, 3, none⟩ (.int .u64 (wd (X - Y) 2))).heap[w.heap.size + 2]? = _
        rw [Below.heap_setCell _ _ _ _ (by show w.heap.size + 2 ≠ w.heap.size; omega)]
        exact HR.out
      clear hw2
      go_wp2
      go_roundw
      case rel => exact ⟨3, by decide, rfl, rfl, HT2.out.keep hb2, hR2⟩
      case measure => simp [intOf]
    · skip
      have ha := sub_words 3 Hle.out
      have HT2 := Lib.hid (HT.out.set (by omega) (3 + 1) _ (mcs_set HT.out.one (by decide)))
      replace c4 : wr.cell? ⟨w.heap.size, 4, none⟩ = some (.int .u64 (wd X 3)) := c4
      go_wp2
      go_region
      generalize hw2 : World.drew _ = w2
      have hb2 := below_drewNb (wr.setCell ⟨w.heap.size, 4, none⟩ (.int .u64 (wd (X - Y) 3))) 1
      change Below _ _ (World.drew _) at hb2
      rw [hw2] at hb2
      have hR2 : w2.heap[w.heap.size + 2]? = some (.cells #[.bool false, .int .u64 0, .int .u64 0, .int .u64 0, .int .u64 0] 69 (0, 0)) := by
        rw [← hw2]
        show (wr.setCell ⟨w.heap.size, 4, none⟩ (.int .u64 (wd (X - Y) 3))).heap[w.heap.size + 2]? = _
        rw [Below.heap_setCell _ _ _ _ (by show w.heap.size + 2 ≠ w.heap.size; omega)]
        exact HR.out
      clear hw2
      go_wp2
      go_roundw
      case rel => exact ⟨4, by decide, rfl, rfl, HT2.out.keep hb2, hR2⟩
      case measure => simp [intOf]
    · obtain ⟨⟨e0, e1, e2, e3, e4⟩, g0, g1, g2, g3, g4⟩ := blk5 HR.out
      replace c1 : wr.cell? ⟨w.heap.size, 1, none⟩ = some (.int .u64 (wd (X - Y) 0)) := c1
      replace c2 : wr.cell? ⟨w.heap.size, 2, none⟩ = some (.int .u64 (wd (X - Y) 1)) := c2
      replace c3 : wr.cell? ⟨w.heap.size, 3, none⟩ = some (.int .u64 (wd (X - Y) 2)) := c3
      replace c4 : wr.cell? ⟨w.heap.size, 4, none⟩ = some (.int .u64 (wd (X - Y) 3)) := c4
      go_wp2
      refine bodyPost_ret (v := .agg #[.bool (ng), .int .u64 (wd (X - Y) 0), .int .u64 (wd (X - Y) 1), .int .u64 (wd (X - Y) 2), .int .u64 (wd (X - Y) 3)]) (by simp [results, Try.results55, go_sem, *]) rfl ?_
      exact ⟨rfl, set5_below HT.out.below (by omega) _ _ _ _ _⟩
set_option maxRecDepth 100000 in
set_option maxHeartbeats 4000000 in
theorem minus_lt (ng : Bool) (X Y : Nat) (w : World) (hX : X < 18446744073709551616 ^ 4) (hY : Y < 18446744073709551616 ^ 4) (hle : X < Y) : Calls Try.prog 55 #[wideV ng X, wideV ng Y] w fun e w' => e = .returned (wideV (!ng) (Y - X)) ∧ Below w.heap.size w w' := by
  have Hle := Lib.hid (Nat.le_of_lt hle)
  have hcs := Lib.hid (fun W => compareSize_any ng ng X Y W hX hY)
  have hn : ordI (X : Int) (Y : Int) < 0 := by unfold ordI; split <;> omega
  clear hX hY hle
  unfold wideV at hcs ⊢
  go_enter Try.func55, Try.ntmps55
  go_wp2_with (go_at_call 62; refine (hcs.out _).mono ?_; rintro e w' ⟨rfl, hb2⟩)
  have hT0 := (W52.mk3 w 69 (wcs ng X) (wcs ng Y) #[.bool false, .int .u64 0, .int .u64 0, .int .u64 0, .int .u64 0]).keep hb2
  have hR0 : w'.heap[w.heap.size + 2]? = some (.cells #[.bool false, .int .u64 0, .int .u64 0, .int .u64 0, .int .u64 0] 69 (0, 0)) := by
    rw [hb2.block _ (by simp)]
    have := heap_alloc_new ((w.alloc (.cells (wcs ng X) 69)).alloc (.cells (wcs ng Y) 69)) (.cells #[.bool false, .int .u64 0, .int .u64 0, .int .u64 0, .int .u64 0] 69)
    rw [show w.heap.size + 2 = ((w.alloc (.cells (wcs ng X) 69)).alloc (.cells (wcs ng Y) 69)).heap.size by simp]
    exact this
  have hk := Lib.hid (fun (W : World) (h : Below w'.heap.size w' W) => And.intro (blk5 (hT0.keep h).one) (blk5 (hT0.keep h).two))
  obtain ⟨⟨⟨c0, c1, c2, c3, c4⟩, f0, f1, f2, f3, f4⟩, ⟨d0, d1, d2, d3, d4⟩, g0, g1, g2, g3, g4⟩ := hk.out w' (Below.refl _ _)
  have HT1 := Lib.hid hT0
  have HR1 := Lib.hid hR0
  clear hb2 hT0 hR0
  go_wp2
  have hng := Lib.hid (negated_any ng (wd Y 0) (wd Y 1) (wd Y 2) (wd Y 3))
  go_region_with (go_at_call 61; (with_reducible refine (hng.out _).mono ?_); rintro e w4 ⟨rfl, hb4⟩; have hbk : Below w'.heap.size w' w4 := (by first | exact hb4 | exact (Below.drew (Below.refl _ _)).trans (hb4.mono (Nat.le_refl _))); clear c0 c1 c2 c3 c4 f0 f1 f2 f3 f4 d0 d1 d2 d3 d4 g0 g1 g2 g3 g4; obtain ⟨⟨⟨c0, c1, c2, c3, c4⟩, f0, f1, f2, f3, f4⟩, ⟨d0, d1, d2, d3, d4⟩, g0, g1, g2, g3, g4⟩ := hk.out w4 hbk)
  all_goals
    have hT6 := swap5 (HT1.out.keep hbk) (Nat.succ_ne_self _) (.bool !ng) (.int .u64 (wd Y 0)) (.int .u64 (wd Y 1)) (.int .u64 (wd Y 2)) (.int .u64 (wd Y 3)) (.bool ng) (.int .u64 (wd X 0)) (.int .u64 (wd X 1)) (.int .u64 (wd X 2)) (.int .u64 (wd X 3))
    have hR6 := swap5_other (W := w4) (b := w.heap.size) (c := w.heap.size + 1) (d := w.heap.size + 2) (by omega) (by omega) (.bool !ng) (.int .u64 (wd Y 0)) (.int .u64 (wd Y 1)) (.int .u64 (wd Y 2)) (.int .u64 (wd Y 3)) (.bool ng) (.int .u64 (wd X 0)) (.int .u64 (wd X 1)) (.int .u64 (wd X 2)) (.int .u64 (wd X 3))
    have hlt2 : w.heap.size + 2 < w'.heap.size := by
      have h := HR1.out
      exact (Array.getElem?_eq_some_iff.1 h).1
    rw [hbk.block _ hlt2, HR1.out] at hR6
    clear c0 c1 c2 c3 c4 f0 f1 f2 f3 f4 d0 d1 d2 d3 d4 g0 g1 g2 g3 g4 hlt2
    revert hT6 hR6
    generalize World.setCell _ _ _ = W6
    intro hT6 hR6
    have HT0 := Lib.hid hT6
    have HR0 := Lib.hid hR6
    clear hT6 hR6 hb4 hbk
    go_wp2
    go_loopw [5, 23] (fun c i wr => ∃ q : Nat, q ≤ 4 ∧ i = .int .i64 q ∧ c = .int .u64 (borrow Y X q) ∧ W52 w w.heap.size (w.heap.size + 1) 69 (mcs (!ng) Y X q) (wcs (ng) X) wr ∧ wr.heap[w.heap.size + 2]? = some (.cells #[.bool false, .int .u64 0, .int .u64 0, .int .u64 0, .int .u64 0] 69 (0, 0))) (fun _ i _ => 4 - (intOf i).toNat)
    case atStart =>
      refine ⟨0, by decide, rfl, by rw [borrow_zero]; rfl, ?_, ?_⟩
      · exact HT0.out
      · exact HR0.out
    case round =>
      obtain ⟨q, hq, rfl, rfl, hT, hR⟩ := hrel
      have HT := Lib.hid hT
      have HR := Lib.hid hR
      obtain ⟨⟨c0, c1, c2, c3, c4⟩, f0, f1, f2, f3, f4⟩ := blk5 hT.one
      obtain ⟨⟨d0, d1, d2, d3, d4⟩, -⟩ := blk5 hT.two
      clear hT hR
      have hq5 : q = 0 ∨ q = 1 ∨ q = 2 ∨ q = 3 ∨ q = 4 := by omega
      rcases hq5 with rfl | rfl | rfl | rfl | rfl
      · skip
        have ha := sub_words 0 Hle.out
        have HT2 := Lib.hid (HT.out.set (by omega) (0 + 1) _ (mcs_set HT.out.one (by decide)))
        replace c1 : wr.cell? ⟨w.heap.size, 1, none⟩ = some (.int .u64 (wd Y 0)) := c1
        go_wp2
        go_region
        generalize hw2 : World.drew _ = w2
        have hb2 := below_drewNb (wr.setCell ⟨w.heap.size, 1, none⟩ (.int .u64 (wd (Y - X) 0))) 1
        change Below _ _ (World.drew _) at hb2
        rw [hw2] at hb2
        have hR2 : w2.heap[w.heap.size + 2]? = some (.cells #[.bool false, .int .u64 0, .int .u64 0, .int .u64 0, .int .u64 0] 69 (0, 0)) := by
          rw [← hw2]
          show (wr.setCell ⟨w.heap.size, 1, none⟩ (.int .u64 (wd (Y - X) 0))).heap[w.heap.size + 2]? = _
          rw [Below.heap_setCell _ _ _ _ (by show w.heap.size + 2 ≠ w.heap.size; omega)]
          exact HR.out
        clear hw2
        go_wp2
        go_roundw
        case rel => exact ⟨1, by decide, rfl, rfl, HT2.out.keep hb2, hR2⟩
        case measure => simp [intOf]
      · skip
        have ha := sub_words 1 Hle.out
        have HT2 := Lib.hid (HT.out.set (by omega) (1 + 1) _ (mcs_set HT.out.one (by decide)))
        replace c2 : wr.cell? ⟨w.heap.size, 2, none⟩ = some (.int .u64 (wd Y 1)) := c2
        go_wp2
        go_region
        generalize hw2 : World.drew _ = w2
        have hb2 := below_drewNb (wr.setCell ⟨w.heap.size, 2, none⟩ (.int .u64 (wd (Y - X) 1))) 1
        change Below _ _ (World.drew _) at hb2
        rw [hw2] at hb2
        have hR2 : w2.heap[w.heap.size + 2]? = some (.cells #[.bool false, .int .u64 0, .int .u64 0, .int .u64 0, .int .u64 0] 69 (0, 0)) := by
          rw [← hw2]
          show (wr.setCell ⟨w.heap.size, 2, none⟩ (.int .u64 (wd (Y - X) 1))).heap[w.heap.size + 2]? = _
          rw [Below.heap_setCell _ _ _ _ (by show w.heap.size + 2 ≠ w.heap.size; omega)]
          exact HR.out
        clear hw2
        go_wp2
        go_roundw
        case rel => exact ⟨2, by decide, rfl, rfl, HT2.out.keep hb2, hR2⟩
        case measure => simp [intOf]
      · skip
        have ha := sub_words 2 Hle.out
        have HT2 := Lib.hid (HT.out.set (by omega) (2 + 1) _ (mcs_set HT.out.one (by decide)))
        replace c3 : wr.cell? ⟨w.heap.size, 3, none⟩ = some (.int .u64 (wd Y 2)) := c3
        go_wp2
        go_region
        generalize hw2 : World.drew _ = w2
        have hb2 := below_drewNb (wr.setCell ⟨w.heap.size, 3, none⟩ (.int .u64 (wd (Y - X) 2))) 1
        change Below _ _ (World.drew _) at hb2
        rw [hw2] at hb2
        have hR2 : w2.heap[w.heap.size + 2]? = some (.cells #[.bool false, .int .u64 0, .int .u64 0, .int .u64 0, .int .u64 0] 69 (0, 0)) := by
          rw [← hw2]
          show (wr.setCell ⟨w.heap.size, 3, none⟩ (.int .u64 (wd (Y - X) 2))).heap[w.heap.size + 2]? = _
          rw [Below.heap_setCell _ _ _ _ (by show w.heap.size + 2 ≠ w.heap.size; omega)]
          exact HR.out
        clear hw2
        go_wp2
        go_roundw
        case rel => exact ⟨3, by decide, rfl, rfl, HT2.out.keep hb2, hR2⟩
        case measure => simp [intOf]
      · skip
        have ha := sub_words 3 Hle.out
        have HT2 := Lib.hid (HT.out.set (by omega) (3 + 1) _ (mcs_set HT.out.one (by decide)))
        replace c4 : wr.cell? ⟨w.heap.size, 4, none⟩ = some (.int .u64 (wd Y 3)) := c4
        go_wp2
        go_region
        generalize hw2 : World.drew _ = w2
        have hb2 := below_drewNb (wr.setCell ⟨w.heap.size, 4, none⟩ (.int .u64 (wd (Y - X) 3))) 1
        change Below _ _ (World.drew _) at hb2
        rw [hw2] at hb2
        have hR2 : w2.heap[w.heap.size + 2]? = some (.cells #[.bool false, .int .u64 0, .int .u64 0, .int .u64 0, .int .u64 0] 69 (0, 0)) := by
          rw [← hw2]
          show (wr.setCell ⟨w.heap.size, 4, none⟩ (.int .u64 (wd (Y - X) 3))).heap[w.heap.size + 2]? = _
          rw [Below.heap_setCell _ _ _ _ (by show w.heap.size + 2 ≠ w.heap.size; omega)]
          exact HR.out
        clear hw2
        go_wp2
        go_roundw
        case rel => exact ⟨4, by decide, rfl, rfl, HT2.out.keep hb2, hR2⟩
        case measure => simp [intOf]
      · obtain ⟨⟨e0, e1, e2, e3, e4⟩, g0, g1, g2, g3, g4⟩ := blk5 HR.out
        replace c1 : wr.cell? ⟨w.heap.size, 1, none⟩ = some (.int .u64 (wd (Y - X) 0)) := c1
        replace c2 : wr.cell? ⟨w.heap.size, 2, none⟩ = some (.int .u64 (wd (Y - X) 1)) := c2
        replace c3 : wr.cell? ⟨w.heap.size, 3, none⟩ = some (.int .u64 (wd (Y - X) 2)) := c3
        replace c4 : wr.cell? ⟨w.heap.size, 4, none⟩ = some (.int .u64 (wd (Y - X) 3)) := c4
        go_wp2
        refine bodyPost_ret (v := .agg #[.bool (!ng), .int .u64 (wd (Y - X) 0), .int .u64 (wd (Y - X) 1), .int .u64 (wd (Y - X) 2), .int .u64 (wd (Y - X) 3)]) (by simp [results, Try.results55, go_sem, *]) rfl ?_
        exact ⟨rfl, set5_below HT.out.below (by omega) _ _ _ _ _⟩
end Go.Proofs.Ytcdaipkkddgbeaa
