/-
  Package value: wide numbers: made of a number; negated; zero.
-/
import Derived.Test.YtcdaipkkddgbeaaQSoK
import Derived.Test.YtcdaipkkddgbeaaQShelf
import Derived.Laws.Externs
import Derived.Laws.StructEq
namespace Go.Proofs.Ytcdaipkkddgbeaa
open Go.RowKit
/-- Word i of a size. -/
def wd (X i : Nat) : Int := ((X / 18446744073709551616 ^ i % 18446744073709551616 : Nat) : Int)
/-- A wide number: its sign and its size. -/
def wideV (ng : Bool) (X : Nat) : Value := .agg #[.bool ng, .int .u64 (wd X 0), .int .u64 (wd X 1), .int .u64 (wd X 2), .int .u64 (wd X 3)]
theorem wd_small {X i : Nat} (h : X < 18446744073709551616) (hi : 0 < i) : wd X i = 0 := by
  unfold wd
  obtain ⟨k, rfl⟩ : ∃ k, i = k + 1 := ⟨i - 1, by omega⟩
  have : X / 18446744073709551616 ^ (k + 1) = 0 := by
    rw [Nat.pow_succ]
    refine Nat.div_eq_of_lt (Nat.lt_of_lt_of_le h ?_)
    exact Nat.le_mul_of_pos_left _ (Nat.pow_pos (by decide))
  rw [this]
  rfl
theorem wd_zero {X : Nat} (h : X < 18446744073709551616) : wd X 0 = X := by
  unfold wd
  rw [Nat.pow_zero, Nat.div_one, Nat.mod_eq_of_lt h]
theorem wide_small {ng : Bool} {X : Nat} (h : X < 18446744073709551616) : wideV ng X = .agg #[.bool ng, .int .u64 (X : Int), .int .u64 0, .int .u64 0, .int .u64 0] := by
  unfold wideV
  rw [wd_zero h, wd_small h (by decide), wd_small h (by decide), wd_small h (by decide)]
set_option maxRecDepth 100000 in
set_option maxHeartbeats 1000000 in
theorem whole_any (n : Int) (w : World) (hn : I64 n) : Calls Try.prog 53 #[.int .i64 n] w fun e w' => e = .returned (wideV (decide (n < 0)) n.natAbs) ∧ Below w.heap.size w w' := by
  obtain ⟨n0, n1⟩ := hn
  rw [wide_small (by omega)]
  by_cases h : n < 0
  · have e1 : (n.natAbs : Int) = -n := by omega
    rw [e1]
    have hd : decide (n < 0) = true := by simpa using h
    rw [hd]
    have eW : IntKind.u64.wrap (-IntKind.u64.wrap n) = -n := by rw [IntKind.wrap_u64, IntKind.wrap_u64]; omega
    go_enter Try.func53, Try.ntmps53
    go_wp2
    refine bodyPost_ret (v := .agg #[.bool true, .int .u64 (-n), .int .u64 0, .int .u64 0, .int .u64 0]) (by simp [results, Try.results53, go_sem, *]) rfl ?_
    exact ⟨rfl, (Below.refl _ _).alloc (Nat.le_refl _) _⟩
  · have e1 : (n.natAbs : Int) = n := by omega
    rw [e1]
    have hd : decide (n < 0) = false := by simpa using h
    rw [hd]
    go_enter Try.func53, Try.ntmps53
    go_wp2
    refine bodyPost_ret (v := .agg #[.bool false, .int .u64 n, .int .u64 0, .int .u64 0, .int .u64 0]) (by simp [results, Try.results53, go_sem, *]) rfl ?_
    exact ⟨rfl, (Below.refl _ _).alloc (Nat.le_refl _) _⟩
set_option maxRecDepth 100000 in
set_option maxHeartbeats 1000000 in
theorem negated_any (ng : Bool) (a b c d : Int) (w : World) : Calls Try.prog 61 #[.agg #[.bool ng, .int .u64 a, .int .u64 b, .int .u64 c, .int .u64 d]] w fun e w' => e = .returned (.agg #[.bool (!ng), .int .u64 a, .int .u64 b, .int .u64 c, .int .u64 d]) ∧ Below w.heap.size w w' := by
  go_enter Try.func61, Try.ntmps61
  go_wp2
  refine bodyPost_ret (v := .agg #[.bool (!ng), .int .u64 a, .int .u64 b, .int .u64 c, .int .u64 d]) (by simp [results, Try.results61, go_sem, *]) rfl ?_
  exact ⟨rfl, ((Below.refl _ _).alloc (Nat.le_refl _) _).alloc (by simp) _⟩
@[go_sem] theorem eqWords (a b c d : Int) (w : World) : (Op.equalIn 10000 67 (.agg #[.int .u64 a, .int .u64 b, .int .u64 c, .int .u64 d]) (.agg #[.int .u64 0, .int .u64 0, .int .u64 0, .int .u64 0])).run Try.prog w = .ok (a == 0 && (b == 0 && (c == 0 && d == 0))) w := by
  have u3 := Try.underlying66
  have a3 := Try.isAgg66
  have z3 := Try.sizeOf66
  rw [show (10000 : Nat) = 9999 + 1 from rfl, Op.equalIn]
  simp only [Sem.run_bind, run_underlying Try.underlying67, Result.andThen_ok]
  simp only [Std.Legacy.Range.forIn_eq_forIn_range', Std.Legacy.Range.size, Nat.sub_zero, Nat.add_sub_cancel, Nat.div_one, List.range'_succ, List.range'_zero, List.forIn_cons, List.forIn_nil]
  go_simp
  by_cases h1 : a = 0 <;> by_cases h2 : b = 0 <;> by_cases h3 : c = 0 <;> by_cases h4 : d = 0 <;> simp [h1, h2, h3, h4]
set_option maxRecDepth 100000 in
set_option maxHeartbeats 1000000 in
theorem zero_any (ng : Bool) (a b c d : Int) (w : World) : Calls Try.prog 56 #[.agg #[.bool ng, .int .u64 a, .int .u64 b, .int .u64 c, .int .u64 d]] w fun e w' => e = .returned (.bool (a == 0 && (b == 0 && (c == 0 && d == 0)))) ∧ Below w.heap.size w w' := by
  go_enter Try.func56, Try.ntmps56
  go_wp2
  go_ret
  exact ⟨rfl, (Below.refl _ _).alloc (Nat.le_refl _) _⟩
end Go.Proofs.Ytcdaipkkddgbeaa
