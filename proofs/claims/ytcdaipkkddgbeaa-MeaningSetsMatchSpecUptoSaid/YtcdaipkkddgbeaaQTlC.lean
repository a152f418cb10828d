/-
  Package meaning: times.
-/
import Derived.Test.YtcdaipkkddgbeaaQTlB
namespace Go.Proofs.Ytcdaipkkddgbeaa
open Go.RowKit
/-- How often a row is in the result of a set operation. -/
def timesN (op : Int) (all : Bool) (a b : Nat) : Nat :=
  let n := if op = 1 then a + b else if op = 2 then min a b else if op = 3 then (if all = false ∧ 0 < b then 0 else a - b) else 0
  if all = true then n else min n 1
theorem timesN_le (op : Int) (all : Bool) (a b : Nat) : timesN op all a b ≤ a + b := by
  unfold timesN
  simp only
  repeat' split
  all_goals omega
set_option maxRecDepth 100000 in
set_option maxHeartbeats 4000000 in
theorem times_m (op : Int) (all : Bool) (v : Value) (a b : Nat) (w : World) (hop : I64 op) (hab : a + b ≤ 4194304) (_hv : v.oneCell' = true) :
    Calls Try.prog 18 #[.int .i64 op, .bool all, .agg #[v, .int .i64 a, .int .i64 b]] w fun e w' => e = .returned (.int .i64 (timesN op all a b)) ∧ Below w.heap.size w w' := by
  obtain ⟨W0, hW0⟩ : ∃ W0, w.alloc (.cells #[v, .int .i64 a, .int .i64 b] 38) = W0 := ⟨_, rfl⟩
  have hb0 : Below w.heap.size w W0 := by rw [← hW0]; exact bel1 _ _
  have p1 : W0.cell? ⟨w.heap.size, 1, none⟩ = some (.int .i64 a) := by rw [← hW0, cell_new]; rfl
  have p2 : W0.cell? ⟨w.heap.size, 2, none⟩ = some (.int .i64 b) := by rw [← hW0, cell_new]; rfl
  have e1 : IntKind.i64.wrap ((a : Int) + (b : Int)) = (a : Int) + (b : Int) := IntWalk.i64_in _ ⟨by omega, by omega⟩
  have e2 : IntKind.i64.wrap ((a : Int) - (b : Int)) = (a : Int) - (b : Int) := IntWalk.i64_in _ ⟨by omega, by omega⟩
  have HW0 := Lib.hid hW0
  have Hb0 := Lib.hid hb0
  clear hW0 hb0 _hv
  have fin : ∀ (x : Int), x = (timesN op all a b : Nat) → Ending.returned (Value.int .i64 x) = Ending.returned (.int .i64 (timesN op all a b)) ∧ Below w.heap.size w W0 := fun x h => ⟨by rw [h], Hb0.out⟩
  have Fin := Lib.hid fin
  clear fin
  go_enter Try.func18, Try.ntmps18
  go_upto_region 1 with (fail)
  rw [HW0.out]
  clear HW0
  by_cases h1 : op = 1
  · subst h1
    cases all
    · go_wp2
      go_ret
      refine Fin.out _ ?_
      simp [timesN]
      omega
    · go_wp2
      go_ret
      refine Fin.out _ ?_
      simp [timesN]
  · by_cases h2 : op = 2
    · subst h2
      cases all
      · go_wp2
        go_ret
        refine Fin.out _ ?_
        simp [timesN]
        omega
      · go_wp2
        go_ret
        refine Fin.out _ ?_
        simp [timesN]
        omega
    · by_cases h3 : op = 3
      · subst h3
        cases all
        · by_cases h4 : 0 < b
          · go_wp2
            go_ret
            refine Fin.out _ ?_
            simp [timesN, h4]
            rfl
          · go_wp2
            go_ret
            refine Fin.out _ ?_
            simp [timesN, h4]
            omega
        · go_wp2
          go_ret
          refine Fin.out _ ?_
          simp [timesN]
          omega
      · cases all
        · go_wp2
          go_ret
          refine Fin.out _ ?_
          simp [timesN, h1, h2, h3]
          rfl
        · go_wp2
          go_ret
          refine Fin.out _ ?_
          simp [timesN, h1, h2, h3]
end Go.Proofs.Ytcdaipkkddgbeaa
