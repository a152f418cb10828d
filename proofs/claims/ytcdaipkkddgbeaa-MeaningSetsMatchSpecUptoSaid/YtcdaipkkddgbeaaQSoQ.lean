/-
  Package value: wide numbers added and subtracted.
-/
import Derived.Test.YtcdaipkkddgbeaaQSoP
namespace Go.Proofs.Ytcdaipkkddgbeaa
open Go.RowKit
theorem W52.set {w W : World} {b c : Nat} {t : TypeId} {p q p' : Array Value} (h : W52 w b c t p q W) (hbc : c ≠ b) (k : Nat) (v : Value) (hp : (W.setCell ⟨b, k, none⟩ v).heap[b]? = some (.cells p' t (0, 0))) : W52 w b c t p' q (W.setCell ⟨b, k, none⟩ v) :=
  ⟨h.below.setCell h.lo _, hp, by rw [Below.heap_setCell _ _ _ _ hbc]; exact h.two, h.lo, h.lo2, by have := h.lt; simpa using this, by have := h.lt2; simpa using this⟩
/-- The sum's words below i are there. -/
def pw (X Y i q : Nat) : Int := if q < i then wd (X + Y) q else wd X q
def pcs (ng : Bool) (X Y i : Nat) : Array Value := #[.bool ng, .int .u64 (pw X Y i 0), .int .u64 (pw X Y i 1), .int .u64 (pw X Y i 2), .int .u64 (pw X Y i 3)]
def carryA (X Y i : Nat) : Nat := (X % 18446744073709551616 ^ i + Y % 18446744073709551616 ^ i) / 18446744073709551616 ^ i
theorem carryA_zero (X Y : Nat) : carryA X Y 0 = 0 := by unfold carryA; rw [Nat.pow_zero, Nat.mod_one, Nat.mod_one]
theorem carryA_le (X Y i : Nat) : carryA X Y i ≤ 1 := by
  have hP : 0 < 18446744073709551616 ^ i := Nat.pow_pos (by decide)
  unfold carryA
  have a := Nat.mod_lt X hP
  have b := Nat.mod_lt Y hP
  refine Nat.le_of_lt_succ ?_
  rw [Nat.div_lt_iff_lt_mul hP]
  omega
theorem add_step (X Y i : Nat) :
    (X / 18446744073709551616 ^ i % 18446744073709551616 + Y / 18446744073709551616 ^ i % 18446744073709551616 + carryA X Y i) % 18446744073709551616 = (X + Y) / 18446744073709551616 ^ i % 18446744073709551616 ∧
    (X / 18446744073709551616 ^ i % 18446744073709551616 + Y / 18446744073709551616 ^ i % 18446744073709551616 + carryA X Y i) / 18446744073709551616 = carryA X Y (i + 1) := by
  have hP : 0 < 18446744073709551616 ^ i := Nat.pow_pos (by decide)
  unfold carryA
  rw [Nat.pow_succ]
  generalize 18446744073709551616 ^ i = P at *
  have e : (X + Y) / P = (X % P + Y % P) / P + (X / P + Y / P) := by
    conv => lhs; rw [← Nat.mod_add_div X P, ← Nat.mod_add_div Y P]
    rw [show X % P + P * (X / P) + (Y % P + P * (Y / P)) = X % P + Y % P + P * (X / P + Y / P) by rw [Nat.mul_add]; omega, Nat.add_mul_div_left _ _ hP]
  have h1 : X % (P * 18446744073709551616) = X % P + P * (X / P % 18446744073709551616) := Nat.mod_mul
  have h2 : Y % (P * 18446744073709551616) = Y % P + P * (Y / P % 18446744073709551616) := Nat.mod_mul
  have e2 : (X % (P * 18446744073709551616) + Y % (P * 18446744073709551616)) / P = (X % P + Y % P) / P + (X / P % 18446744073709551616 + Y / P % 18446744073709551616) := by
    rw [h1, h2, show X % P + P * (X / P % 18446744073709551616) + (Y % P + P * (Y / P % 18446744073709551616)) = X % P + Y % P + P * (X / P % 18446744073709551616 + Y / P % 18446744073709551616) by rw [Nat.mul_add]; omega, Nat.add_mul_div_left _ _ hP]
  rw [e, ← Nat.div_div_eq_div_mul, e2]
  generalize (X % P + Y % P) / P = c
  omega
theorem add_words (X Y q : Nat) (W : World) : (callFunc 67 #[.int .u64 (wd X q), .int .u64 (wd Y q), .int .u64 (carryA X Y q : Int)]).run Try.prog W = .ok (.value (.tuple #[.int .u64 (wd (X + Y) q), .int .u64 (carryA X Y (q + 1) : Int)])) W := by
  obtain ⟨m1, m2⟩ := add_step X Y q
  have h := add64_any (X / 18446744073709551616 ^ q % 18446744073709551616) (Y / 18446744073709551616 ^ q % 18446744073709551616) (carryA X Y q) (carryA_le _ _ _) W
  rw [m1, m2] at h
  exact h
theorem pcs_set {ng : Bool} {X Y i : Nat} {W : World} {b : Nat} {t : TypeId} (h : W.heap[b]? = some (.cells (pcs ng X Y i) t (0, 0))) (hi : i < 4) : (W.setCell ⟨b, i + 1, none⟩ (.int .u64 (wd (X + Y) i))).heap[b]? = some (.cells (pcs ng X Y (i + 1)) t (0, 0)) := by
  unfold pcs at h ⊢
  have : i = 0 ∨ i = 1 ∨ i = 2 ∨ i = 3 := by omega
  rcases this with rfl | rfl | rfl | rfl <;> simp [World.setCell, Array.getElem?_modify, h, pw]
set_option maxRecDepth 100000 in
set_option maxHeartbeats 4000000 in
theorem plus_same (ng : Bool) (X Y : Nat) (w : World) : Calls Try.prog 60 #[wideV ng X, wideV ng Y] w fun e w' => e = .returned (wideV ng (X + Y)) ∧ Below w.heap.size w w' := by
  unfold wideV
  go_enter Try.func60, Try.ntmps60
  go_wp2
  go_loopw [5, 16] (fun c i wr => ∃ q : Nat, q ≤ 4 ∧ i = .int .i64 q ∧ c = .int .u64 (carryA X Y q) ∧ W52 w w.heap.size (w.heap.size + 1) 69 (pcs ng X Y q) (wcs ng Y) wr ∧ wr.heap[w.heap.size + 2]? = some (.cells #[.bool false, .int .u64 0, .int .u64 0, .int .u64 0, .int .u64 0] 69 (0, 0))) (fun _ i _ => 4 - (intOf i).toNat)
  case atStart =>
    refine ⟨0, by decide, rfl, by rw [carryA_zero]; rfl, W52.mk3 w _ _ _ _, ?_⟩
    have := heap_alloc_new ((w.alloc (.cells (wcs ng X) 69)).alloc (.cells (wcs ng Y) 69)) (.cells #[.bool false, .int .u64 0, .int .u64 0, .int .u64 0, .int .u64 0] 69)
    rw [show w.heap.size + 2 = ((w.alloc (.cells (wcs ng X) 69)).alloc (.cells (wcs ng Y) 69)).heap.size by simp]
    exact this
  case round =>
    obtain ⟨q, hq, rfl, rfl, hT, hR⟩ := hrel
    have HT := Lib.hid hT
    have HR := Lib.hid hR
    obtain ⟨⟨c0, c1, c2, c3, c4⟩, f0, f1, f2, f3, f4⟩ := blk5 hT.one
    obtain ⟨⟨d0, d1, d2, d3, d4⟩, -⟩ := blk5 hT.two
    clear hT hR
    have hq5 : q = 0 ∨ q = 1 ∨ q = 2 ∨ q = 3 ∨ q = 4 := by omega
    rcases hq5 with rfl | rfl | rfl | rfl | rfl
    · skip
      have ha := add_words X Y 0
      have HT2 := Lib.hid (HT.out.set (by omega) (0 + 1) _ (pcs_set HT.out.one (by decide)))
      replace c1 : wr.cell? ⟨w.heap.size, 1, none⟩ = some (.int .u64 (wd X 0)) := c1
      go_wp2
      go_region
      generalize hw2 : World.drew _ = w2
      have hb2 := below_drewNb (wr.setCell ⟨w.heap.size, 1, none⟩ (.int .u64 (wd (X + Y) 0))) 1
      change Below _ _ (World.drew _) at hb2
      rw [hw2] at hb2
      have hR2 : w2.heap[w.heap.size + 2]? = some (.cells #[.bool false, .int .u64 0, .int .u64 0, .int .u64 0, .int .u64 0] 69 (0, 0)) := by
        rw [← hw2]
        show (wr.setCell ⟨w.heap.size, 1, none⟩ (.int .u64 (wd (X + Y) 0))).heap[w.heap.size + 2]? = _
        rw [Below.heap_setCell _ _ _ _ (by show w.heap.size + 2 ≠ w.heap.size; omega)]
        exact HR.out
      clear hw2
      go_wp2
      go_roundw
      case rel => exact ⟨1, by decide, rfl, rfl, HT2.out.keep hb2, hR2⟩
      case measure => simp [intOf]
    · skip
      have ha := add_words X Y 1
      have HT2 := Lib.hid (HT.out.set (by omega) (1 + 1) _ (pcs_set HT.out.one (by decide)))
      replace c2 : wr.cell? ⟨w.heap.size, 2, none⟩ = some (.int .u64 (wd X 1)) := c2
      go_wp2
      go_region
      generalize hw2 : World.drew _ = w2
      have hb2 := below_drewNb (wr.setCell ⟨w.heap.size, 2, none⟩ (.int .u64 (wd (X + Y) 1))) 1
      change Below _ _ (World.drew _) at hb2
      rw [hw2] at hb2
      have hR2 : w2.heap[w.heap.size + 2]? = some (.cells #[.bool false, .int .u64 0, .int .u64 0, .int .u64 0, .int .u64 0] 69 (0, 0)) := by
        rw [← hw2]
        show (wr.setCell ⟨w.heap.size, 2, none⟩ (.int .u64 (wd (X + Y) 1))).heap[w.heap.size + 2]? = _
        rw [Below.heap_setCell _ _ _ _ (by show w.heap.size + 2 ≠ w.heap.size; omega)]
        exact HR.out
      clear hw2
      go_wp2
      go_roundw
      case rel => exact ⟨2, by decide, rfl, rfl, HT2.out.keep hb2, hR2⟩
      case measure => simp [intOf]
    · skip
      have ha := add_words X Y 2
      have HT2 := Lib.hid (HT.out.set (by omega) (2 + 1) _ (pcs_set HT.out.one (by decide)))
      replace c3 : wr.cell? ⟨w.heap.size, 3, none⟩ = some (.int .u64 (wd X 2)) := c3
      go_wp2
      go_region
      generalize hw2 : World.drew _ = w2
      have hb2 := below_drewNb (wr.setCell ⟨w.heap.size, 3, none⟩ (.int .u64 (wd (X + Y) 2))) 1
      change Below _ _ (World.drew _) at hb2
      rw [hw2] at hb2
      have hR2 : w2.heap[w.heap.size + 2]? = some (.cells #[.bool false, .int .u64 0, .int .u64 0, .int .u64 0, .int .u64 0] 69 (0, 0)) := by
        rw [← hw2]
        show (wr.setCell ⟨w.heap.size, 3, none⟩ (.int .u64 (wd (X + Y) 2))).heap[w.heap.size + 2]? = _
        rw [Below.heap_setCell _ _ _ _ (by show w.heap.size + 2 ≠ w.heap.size; omega)]
        exact HR.out
      clear hw2
      go_wp2
      go_roundw
      case rel => exact ⟨3, by decide, rfl, rfl, HT2.out.keep hb2, hR2⟩
      case measure => simp [intOf]
    · skip
      have ha := add_words X Y 3
      have HT2 := Lib.hid (HT.out.set (by omega) (3 + 1) _ (pcs_set HT.out.one (by decide)))
      replace c4 : wr.cell? ⟨w.heap.size, 4, none⟩ = some (.int .u64 (wd X 3)) := c4
      go_wp2
      go_region
      generalize hw2 : World.drew _ = w2
      have hb2 := below_drewNb (wr.setCell ⟨w.heap.size, 4, none⟩ (.int .u64 (wd (X + Y) 3))) 1
      change Below _ _ (World.drew _) at hb2
      rw [hw2] at hb2
      have hR2 : w2.heap[w.heap.size + 2]? = some (.cells #[.bool false, .int .u64 0, .int .u64 0, .int .u64 0, .int .u64 0] 69 (0, 0)) := by
        rw [← hw2]
        show (wr.setCell ⟨w.heap.size, 4, none⟩ (.int .u64 (wd (X + Y) 3))).heap[w.heap.size + 2]? = _
        rw [Below.heap_setCell _ _ _ _ (by show w.heap.size + 2 ≠ w.heap.size; omega)]
        exact HR.out
      clear hw2
      go_wp2
      go_roundw
      case rel => exact ⟨4, by decide, rfl, rfl, HT2.out.keep hb2, hR2⟩
      case measure => simp [intOf]
    · obtain ⟨⟨e0, e1, e2, e3, e4⟩, g0, g1, g2, g3, g4⟩ := blk5 HR.out
      replace c1 : wr.cell? ⟨w.heap.size, 1, none⟩ = some (.int .u64 (wd (X + Y) 0)) := c1
      replace c2 : wr.cell? ⟨w.heap.size, 2, none⟩ = some (.int .u64 (wd (X + Y) 1)) := c2
      replace c3 : wr.cell? ⟨w.heap.size, 3, none⟩ = some (.int .u64 (wd (X + Y) 2)) := c3
      replace c4 : wr.cell? ⟨w.heap.size, 4, none⟩ = some (.int .u64 (wd (X + Y) 3)) := c4
      go_wp2
      refine bodyPost_ret (v := .agg #[.bool ng, .int .u64 (wd (X + Y) 0), .int .u64 (wd (X + Y) 1), .int .u64 (wd (X + Y) 2), .int .u64 (wd (X + Y) 3)]) (by simp [results, Try.results60, go_sem, *]) rfl ?_
      exact ⟨rfl, set5_below HT.out.below (by omega) _ _ _ _ _⟩
end Go.Proofs.Ytcdaipkkddgbeaa
