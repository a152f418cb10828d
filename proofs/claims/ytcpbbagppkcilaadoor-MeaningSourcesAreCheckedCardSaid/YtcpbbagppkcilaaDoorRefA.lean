/-
  The reference of package value: small functions.
-/
import Derived.Test.YtcpbbagppkcilaaDoorProg
import Derived.Test.YtcpbbagppkcilaaDoorSpec
import Derived.WalkLawsBesides
import Derived.WalkSpells
import Derived.Outline
import Derived.Deep.QuietTactic
import Derived.BigQuiet
import Derived.Lib.Hide
namespace Go.Proofs.YtcpbbagppkcilaaDoor
open Go.RowKit
theorem rwithin_any (n a b : Int) (w : World) :
    Calls Tryd.prog 80 #[.int .i64 n, .int .i64 a, .int .i64 b] w fun e w' => e = .returned (.bool (withinB n a b)) ∧ w = w' := by
  by_cases h1 : a ≤ n <;> by_cases h2 : n ≤ b
  all_goals
    go_enter Tryd.func80, Tryd.ntmps80
    go_wp2
    go_ret
    exact ⟨by simp [withinB, h1, h2], rfl⟩
theorem rLeaf_any (k : Int) (w : World) :
    Calls Tryd.prog 97 #[.int .i64 k] w fun e w' => e = .returned (.bool (leafB k)) ∧ w = w' := by
  go_enter Tryd.func97, Tryd.ntmps97
  go_wp2
  all_goals
    go_ret
    exact ⟨by simp_all [leafB], rfl⟩
theorem name_step {s : ByteArray} {j : Nat} {hlt : j < s.size} (h : Hid (∀ i (h : i < s.size), i < j → nmB i s[i] = true)) (hg : Hid (nmB j s[j] = true)) : Hid (∀ i (h : i < s.size), i < j + 1 → nmB i s[i] = true) := by
  intro i hi hj
  by_cases e : i = j
  · subst e; exact hg
  · exact h i hi (by omega)
theorem name_not {s : ByteArray} {j : Nat} (hlt : j < s.size) (hg : nmB j s[j] = false) : nameB s = false := by
  rw [Bool.eq_false_iff]
  intro h
  simp only [nameB, Bool.and_eq_true, decide_eq_true_eq] at h
  rw [h.2 j hlt] at hg
  cases hg
set_option maxRecDepth 100000 in
set_option maxHeartbeats 1000000 in
theorem rName_any (s : ByteArray) (w : World) (hs : s.size ≤ maxLen) :
    Calls Tryd.prog 110 #[.string s] w fun e w' => e = .returned (.bool (nameB s)) ∧ w = w' := by
  unfold maxLen at hs
  by_cases h1 : s.size < 1
  · have hf := Lib.hid (show nameB s = false by unfold nameB; simp; omega)
    go_enter Tryd.func110, Tryd.ntmps110
    go_wp2
    go_ret
    exact ⟨by rw [hf.out]; rfl, rfl⟩
  by_cases h2 : 24 < s.size
  · have hf := Lib.hid (show nameB s = false by unfold nameB; simp; omega)
    go_enter Tryd.func110, Tryd.ntmps110
    go_wp2
    go_ret
    exact ⟨by rw [hf.out]; rfl, rfl⟩
  go_enter Tryd.func110, Tryd.ntmps110
  go_wp2
  go_loop [3] (fun i => ∃ j : Nat, j ≤ s.size ∧ i = .int .i64 j ∧ Hid (∀ i (h : i < s.size), i < j → nmB i s[i] = true)) (fun i => s.size - (intOf i).toNat)
  case atStart => exact ⟨0, Nat.zero_le _, rfl, fun i _ h => absurd h (by omega)⟩
  case round =>
    obtain ⟨j, hj, rfl, hall⟩ := hrel
    by_cases hlt : j < s.size
    · have hx : (97 ≤ (s[j].toNat : Int) ∧ (s[j].toNat : Int) ≤ 122) ∨ (95 ≤ (s[j].toNat : Int) ∧ (s[j].toNat : Int) ≤ 95) ∨ (48 ≤ (s[j].toNat : Int) ∧ (s[j].toNat : Int) ≤ 57) ∨
          (0 ≤ (s[j].toNat : Int) ∧ (s[j].toNat : Int) < 48) ∨ (57 < (s[j].toNat : Int) ∧ (s[j].toNat : Int) < 95) ∨ (95 < (s[j].toNat : Int) ∧ (s[j].toNat : Int) < 97) ∨ (122 < (s[j].toNat : Int) ∧ (s[j].toNat : Int) < 256) := by
        have := s[j].toNat_lt
        omega
      by_cases hj0 : 0 < j
      · rcases hx with ⟨a, b⟩ | ⟨a, b⟩ | ⟨a, b⟩ | ⟨a, b⟩ | ⟨a, b⟩ | ⟨a, b⟩ | ⟨a, b⟩
        · have hg := Lib.hid (show nmB j s[j] = true by simp [nmB]; omega)
          go_wp2
          go_round
          case rel => exact ⟨j + 1, by omega, by go_num, name_step hall hg⟩
          case measure => simp [intOf]; omega
        · have hg := Lib.hid (show nmB j s[j] = true by simp [nmB]; omega)
          go_wp2
          go_round
          case rel => exact ⟨j + 1, by omega, by go_num, name_step hall hg⟩
          case measure => simp [intOf]; omega
        · have hg := Lib.hid (show nmB j s[j] = true by simp [nmB]; omega)
          go_wp2
          go_round
          case rel => exact ⟨j + 1, by omega, by go_num, name_step hall hg⟩
          case measure => simp [intOf]; omega
        all_goals
          have hg := Lib.hid (name_not (by omega) (show nmB j s[j] = false by simp [nmB]; omega))
          have e0 : ((j : Int) == 0) = false := by simp; omega
          have e3 : ((s[j].toNat : Int) == 95) = false := by simp; omega
          try have e5 : decide ((s[j].toNat : Int) ≤ 57) = false := by simp; omega
          try have e6 : decide ((s[j].toNat : Int) ≤ 122) = false := by simp; omega
          go_wp2
          go_ret
          exact ⟨by rw [hg.out]; rfl, rfl⟩
      · obtain rfl : j = 0 := by omega
        rcases hx with ⟨a, b⟩ | ⟨a, b⟩ | ⟨a, b⟩ | ⟨a, b⟩ | ⟨a, b⟩ | ⟨a, b⟩ | ⟨a, b⟩
        · have hg := Lib.hid (show nmB 0 s[0] = true by simp [nmB]; omega)
          go_wp2
          go_round
          case rel => exact ⟨0 + 1, by omega, by go_num, name_step hall hg⟩
          case measure => simp [intOf]; omega
        all_goals
          have hg := Lib.hid (name_not (by omega) (show nmB 0 s[0] = false by simp [nmB]; omega))
          try have e5 : decide ((s[0].toNat : Int) ≤ 57) = false := by simp; omega
          try have e6 : decide ((s[0].toNat : Int) ≤ 122) = false := by simp; omega
          go_wp2
          go_ret
          exact ⟨by rw [hg.out]; rfl, rfl⟩
    · have hg := Lib.hid (show nameB s = true by
        have := hall.out
        simp only [nameB, Bool.and_eq_true, decide_eq_true_eq]
        exact ⟨⟨by omega, by omega⟩, fun i h => this i h (by omega)⟩)
      go_wp2
      go_ret
      exact ⟨by rw [hg.out]; rfl, rfl⟩
end Go.Proofs.YtcpbbagppkcilaaDoor
