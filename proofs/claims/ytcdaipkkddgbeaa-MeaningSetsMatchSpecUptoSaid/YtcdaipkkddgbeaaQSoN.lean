/-
  Package value: a wide number times a number.
-/
import Derived.Test.YtcdaipkkddgbeaaQSoM
import Derived.Shelf.Spec.BitsCarry
namespace Go.Proofs.Ytcdaipkkddgbeaa
open Go.RowKit
def carryN (X k i : Nat) : Nat := X % 18446744073709551616 ^ i * k / 18446744073709551616 ^ i
theorem carry_zero (X k : Nat) : carryN X k 0 = 0 := by unfold carryN; rw [Nat.pow_zero, Nat.mod_one, Nat.zero_mul]
theorem mul_step (X k i : Nat) :
    (X / 18446744073709551616 ^ i % 18446744073709551616 * k % 18446744073709551616 + carryN X k i) % 18446744073709551616 = X * k / 18446744073709551616 ^ i % 18446744073709551616 ∧
    X / 18446744073709551616 ^ i % 18446744073709551616 * k / 18446744073709551616 + (X / 18446744073709551616 ^ i % 18446744073709551616 * k % 18446744073709551616 + carryN X k i) / 18446744073709551616 = carryN X k (i + 1) := by
  have hP : 0 < 18446744073709551616 ^ i := Nat.pow_pos (by decide)
  unfold carryN
  rw [Nat.pow_succ]
  generalize 18446744073709551616 ^ i = P at *
  have h1 : X % (P * 18446744073709551616) = X % P + P * (X / P % 18446744073709551616) := Nat.mod_mul
  have h2 : X % (P * 18446744073709551616) * k / P = X % P * k / P + X / P % 18446744073709551616 * k := by
    rw [h1, Nat.add_mul, Nat.mul_assoc, Nat.add_mul_div_left _ _ hP]
  have h3 : X % (P * 18446744073709551616) * k / (P * 18446744073709551616) = (X % P * k / P + X / P % 18446744073709551616 * k) / 18446744073709551616 := by
    rw [← Nat.div_div_eq_div_mul, h2]
  have h4 : X * k / P % 18446744073709551616 = (X % P * k / P + X / P % 18446744073709551616 * k) % 18446744073709551616 := by
    rw [← h2]
    have e : X * k = X % (P * 18446744073709551616) * k + P * (18446744073709551616 * (X / (P * 18446744073709551616) * k)) := by
      conv => lhs; rw [← Nat.mod_add_div X (P * 18446744073709551616)]
      rw [Nat.add_mul, Nat.mul_assoc, Nat.mul_assoc]
    rw [e, Nat.add_mul_div_left _ _ hP, Nat.add_mul_mod_self_left]
  rw [h3, h4]
  generalize X % P * k / P = c
  generalize X / P % 18446744073709551616 * k = t
  omega
/-- Word q while the words below i have been multiplied. -/
def mw (X k i q : Nat) : Int := if q < i then wd (X * k) q else wd X q
structure TmW (w : World) (b : Nat) (t : TypeId) (ng : Bool) (X k i : Nat) (W : World) : Prop where
  below : Below w.heap.size w W
  cur : W.heap[b]? = some (.cells #[.bool ng, .int .u64 (mw X k i 0), .int .u64 (mw X k i 1), .int .u64 (mw X k i 2), .int .u64 (mw X k i 3)] t (0, 0))
  res : W.heap[b + 1]? = some (.cells #[.bool false, .int .u64 0, .int .u64 0, .int .u64 0, .int .u64 0] t (0, 0))
theorem blk5 {W : World} {b : Nat} {t : TypeId} {v0 v1 v2 v3 v4 : Value} (h : W.heap[b]? = some (.cells #[v0, v1, v2, v3, v4] t (0, 0))) :
    (W.cell? ⟨b, 0, none⟩ = some v0 ∧ W.cell? ⟨b, 1, none⟩ = some v1 ∧ W.cell? ⟨b, 2, none⟩ = some v2 ∧ W.cell? ⟨b, 3, none⟩ = some v3 ∧ W.cell? ⟨b, 4, none⟩ = some v4) ∧
    (W.frozen? ⟨b, 0, none⟩ = false ∧ W.frozen? ⟨b, 1, none⟩ = false ∧ W.frozen? ⟨b, 2, none⟩ = false ∧ W.frozen? ⟨b, 3, none⟩ = false ∧ W.frozen? ⟨b, 4, none⟩ = false) := by
  refine ⟨⟨?_, ?_, ?_, ?_, ?_⟩, ?_, ?_, ?_, ?_, ?_⟩ <;> simp [World.cell?, World.frozen?, h]
theorem TmW.step {w W : World} {b : Nat} {t : TypeId} {ng : Bool} {X k i : Nat} (h : TmW w b t ng X k i W) (hb : w.heap.size ≤ b) (hi : i < 4) : TmW w b t ng X k (i + 1) (W.setCell ⟨b, i + 1, none⟩ (.int .u64 (wd (X * k) i))) := by
  refine ⟨h.below.setCell hb _, ?_, ?_⟩
  · have hc := h.cur
    have : i = 0 ∨ i = 1 ∨ i = 2 ∨ i = 3 := by omega
    rcases this with rfl | rfl | rfl | rfl <;> simp [World.setCell, Array.getElem?_modify, hc, mw]
  · have : (W.setCell ⟨b, i + 1, none⟩ (.int .u64 (wd (X * k) i))).heap[b + 1]? = W.heap[b + 1]? := Below.heap_setCell _ _ _ _ (by show b + 1 ≠ b; omega)
    rw [this]; exact h.res
theorem add64_any (x y c : Nat) (hc : c ≤ 1) (w : World) : (callFunc 67 #[.int .u64 x, .int .u64 y, .int .u64 c]).run Try.prog w = .ok (.value (.tuple #[.int .u64 (((x + y + c) % 18446744073709551616 : Nat) : Int), .int .u64 (((x + y + c) / 18446744073709551616 : Nat) : Int)])) w := by
  rw [run_callFunc_extern Try.func67 (by kernel_rfl) (by kernel_rfl) (by kernel_rfl) (e := add64Entry) (by kernel_rfl), run_add64 x y c (by omega) (by omega) (by omega) (by omega)]
  simp only [Result.andThen]
  congr 5 <;> omega
theorem sub64_any (x y b : Nat) (hb : b ≤ 1) (w : World) : (callFunc 63 #[.int .u64 x, .int .u64 y, .int .u64 b]).run Try.prog w = .ok (.value (.tuple #[.int .u64 (((x + 18446744073709551616 - y - b) % 18446744073709551616 : Nat) : Int), .int .u64 ((if x < y + b then 1 else 0 : Nat) : Int)])) w := by
  rw [run_callFunc_extern Try.func63 (by kernel_rfl) (by kernel_rfl) (by kernel_rfl) (e := sub64Entry) (by kernel_rfl), run_sub64 x y b hb]
  rfl
theorem carry_lt {X k i : Nat} (hk : k < 18446744073709551616) : carryN X k i < 18446744073709551616 := by
  have hP : 0 < 18446744073709551616 ^ i := Nat.pow_pos (by decide)
  unfold carryN
  refine Nat.lt_of_le_of_lt ?_ hk
  refine Nat.div_le_of_le_mul ?_
  exact Nat.mul_le_mul_right _ (Nat.le_of_lt (Nat.mod_lt _ hP))
theorem mul_words (X k q : Nat) (hk : k < 18446744073709551616) : ∃ H L C : Nat,
    (∀ W, Calls Try.prog 66 #[.int .u64 (wd X q), .int .u64 (k : Int)] W fun e w' => e = .returned (.tuple #[.int .u64 (H : Int), .int .u64 (L : Int)]) ∧ w' = W) ∧
    (∀ W, (callFunc 67 #[.int .u64 (L : Int), .int .u64 (carryN X k q : Int), .int .u64 0]).run Try.prog W = .ok (.value (.tuple #[.int .u64 (wd (X * k) q), .int .u64 (C : Int)])) W) ∧
    IntKind.u64.wrap ((H : Int) + (C : Int)) = (carryN X k (q + 1) : Int) := by
  obtain ⟨m1, m2⟩ := mul_step X k q
  refine ⟨_, _, (X / 18446744073709551616 ^ q % 18446744073709551616 * k % 18446744073709551616 + carryN X k q) / 18446744073709551616, fun W => Try.bits_Mul64 (X / 18446744073709551616 ^ q % 18446744073709551616) k (Nat.mod_lt _ (by decide)) hk W, fun W => ?_, ?_⟩
  · have h := add64_any (X / 18446744073709551616 ^ q % 18446744073709551616 * k % 18446744073709551616) (carryN X k q) 0 (by decide) W
    rw [Nat.add_zero, m1] at h
    exact h
  · have h1 : carryN X k (q + 1) < 18446744073709551616 := carry_lt hk
    rw [IntKind.wrap_u64]
    omega
@[go_sem] theorem idx4_0 (a b c d : Value) (w : World) : (Instr.index 67 (.agg #[a, b, c, d]) (.int .i64 0)).run Try.prog w = .ok a w := by
  have y66 : (Try.prog.types[66]'(Nat.le_of_ble_eq_true (by kernel_rfl))).size = 1 := by kernel_rfl
  simp [Instr.index, run_underlying Try.underlying67, asIntOf, go_sem]
@[go_sem] theorem idx4_1 (a b c d : Value) (w : World) : (Instr.index 67 (.agg #[a, b, c, d]) (.int .i64 1)).run Try.prog w = .ok b w := by
  have y66 : (Try.prog.types[66]'(Nat.le_of_ble_eq_true (by kernel_rfl))).size = 1 := by kernel_rfl
  simp [Instr.index, run_underlying Try.underlying67, asIntOf, go_sem]
@[go_sem] theorem idx4_2 (a b c d : Value) (w : World) : (Instr.index 67 (.agg #[a, b, c, d]) (.int .i64 2)).run Try.prog w = .ok c w := by
  have y66 : (Try.prog.types[66]'(Nat.le_of_ble_eq_true (by kernel_rfl))).size = 1 := by kernel_rfl
  simp [Instr.index, run_underlying Try.underlying67, asIntOf, go_sem]
@[go_sem] theorem idx4_3 (a b c d : Value) (w : World) : (Instr.index 67 (.agg #[a, b, c, d]) (.int .i64 3)).run Try.prog w = .ok d w := by
  have y66 : (Try.prog.types[66]'(Nat.le_of_ble_eq_true (by kernel_rfl))).size = 1 := by kernel_rfl
  simp [Instr.index, run_underlying Try.underlying67, asIntOf, go_sem]
set_option maxRecDepth 100000 in
set_option maxHeartbeats 4000000 in
theorem times_any (ng : Bool) (X k : Nat) (w : World) (hk : k < 18446744073709551616) : Calls Try.prog 59 #[wideV ng X, .int .u64 (k : Int)] w fun e w' => e = .returned (wideV ng (X * k)) ∧ Below w.heap.size w w' := by
  unfold wideV
  have Hk := Lib.hid hk
  clear hk
  go_enter Try.func59, Try.ntmps59
  go_wp2
  go_loopw [5, 13] (fun c i wr => ∃ q : Nat, q ≤ 4 ∧ i = .int .i64 q ∧ c = .int .u64 (carryN X k q) ∧ TmW w w.heap.size 69 ng X k q wr) (fun _ i _ => 4 - (intOf i).toNat)
  case atStart =>
    refine ⟨0, by decide, rfl, by rw [carry_zero]; rfl, ((Below.refl _ _).alloc (Nat.le_refl _) _).alloc (by simp) _, ?_, ?_⟩
    · rw [Below.heap_alloc _ _ _ (by simp)]; exact heap_alloc_new w _
    · have := heap_alloc_new (w.alloc (.cells #[.bool ng, .int .u64 (wd X 0), .int .u64 (wd X 1), .int .u64 (wd X 2), .int .u64 (wd X 3)] 69)) (.cells #[.bool false, .int .u64 0, .int .u64 0, .int .u64 0, .int .u64 0] 69)
      simpa using this
  case round =>
    obtain ⟨q, hq, rfl, rfl, hT⟩ := hrel
    have hq5 : q = 0 ∨ q = 1 ∨ q = 2 ∨ q = 3 ∨ q = 4 := by omega
    rcases hq5 with rfl | rfl | rfl | rfl | rfl
    · skip
      have hc := (blk5 hT.cur).1
      obtain ⟨c0, c1, c2, c3, c4⟩ := hc
      have hf := (blk5 hT.cur).2
      obtain ⟨f0, f1, f2, f3, f4⟩ := hf
      obtain ⟨H, L, C, hm, ha, hw⟩ := mul_words X k 0 Hk.out
      have hm := Lib.hid hm
      have hT2 := Lib.hid (hT.step (Nat.le_refl _) (show 0 < 4 by decide))
      clear hT
      go_wp2_with (go_at_call 66; refine (hm.out _).mono ?_; rintro e w' ⟨rfl, rfl⟩)
      go_roundw
      case rel => exact ⟨0 + 1, by decide, rfl, rfl, hT2.out⟩
      case measure => simp [intOf]
    · skip
      have hc := (blk5 hT.cur).1
      obtain ⟨c0, c1, c2, c3, c4⟩ := hc
      have hf := (blk5 hT.cur).2
      obtain ⟨f0, f1, f2, f3, f4⟩ := hf
      obtain ⟨H, L, C, hm, ha, hw⟩ := mul_words X k 1 Hk.out
      have hm := Lib.hid hm
      have hT2 := Lib.hid (hT.step (Nat.le_refl _) (show 1 < 4 by decide))
      clear hT
      go_wp2_with (go_at_call 66; refine (hm.out _).mono ?_; rintro e w' ⟨rfl, rfl⟩)
      go_roundw
      case rel => exact ⟨1 + 1, by decide, rfl, rfl, hT2.out⟩
      case measure => simp [intOf]
    · skip
      have hc := (blk5 hT.cur).1
      obtain ⟨c0, c1, c2, c3, c4⟩ := hc
      have hf := (blk5 hT.cur).2
      obtain ⟨f0, f1, f2, f3, f4⟩ := hf
      obtain ⟨H, L, C, hm, ha, hw⟩ := mul_words X k 2 Hk.out
      have hm := Lib.hid hm
      have hT2 := Lib.hid (hT.step (Nat.le_refl _) (show 2 < 4 by decide))
      clear hT
      go_wp2_with (go_at_call 66; refine (hm.out _).mono ?_; rintro e w' ⟨rfl, rfl⟩)
      go_roundw
      case rel => exact ⟨2 + 1, by decide, rfl, rfl, hT2.out⟩
      case measure => simp [intOf]
    · skip
      have hc := (blk5 hT.cur).1
      obtain ⟨c0, c1, c2, c3, c4⟩ := hc
      have hf := (blk5 hT.cur).2
      obtain ⟨f0, f1, f2, f3, f4⟩ := hf
      obtain ⟨H, L, C, hm, ha, hw⟩ := mul_words X k 3 Hk.out
      have hm := Lib.hid hm
      have hT2 := Lib.hid (hT.step (Nat.le_refl _) (show 3 < 4 by decide))
      clear hT
      go_wp2_with (go_at_call 66; refine (hm.out _).mono ?_; rintro e w' ⟨rfl, rfl⟩)
      go_roundw
      case rel => exact ⟨3 + 1, by decide, rfl, rfl, hT2.out⟩
      case measure => simp [intOf]
    · have hc := (blk5 hT.cur).1
      obtain ⟨c0, c1, c2, c3, c4⟩ := hc
      have hc := (blk5 hT.res).1
      obtain ⟨d0, d1, d2, d3, d4⟩ := hc
      have hf := (blk5 hT.res).2
      obtain ⟨f0, f1, f2, f3, f4⟩ := hf
      have hb := Lib.hid hT.below
      clear hT
      replace c1 : wr.cell? ⟨w.heap.size, 1, none⟩ = some (.int .u64 (wd (X * k) 0)) := c1
      replace c2 : wr.cell? ⟨w.heap.size, 2, none⟩ = some (.int .u64 (wd (X * k) 1)) := c2
      replace c3 : wr.cell? ⟨w.heap.size, 3, none⟩ = some (.int .u64 (wd (X * k) 2)) := c3
      replace c4 : wr.cell? ⟨w.heap.size, 4, none⟩ = some (.int .u64 (wd (X * k) 3)) := c4
      go_wp2
      refine bodyPost_ret (v := .agg #[.bool ng, .int .u64 (wd (X * k) 0), .int .u64 (wd (X * k) 1), .int .u64 (wd (X * k) 2), .int .u64 (wd (X * k) 3)]) (by simp [results, Try.results59, go_sem, *]) rfl ?_
      exact ⟨rfl, ((((hb.out.setCell (Nat.le_succ _) _).setCell (Nat.le_succ _) _).setCell (Nat.le_succ _) _).setCell (Nat.le_succ _) _).setCell (Nat.le_succ _) _⟩
end Go.Proofs.Ytcdaipkkddgbeaa
