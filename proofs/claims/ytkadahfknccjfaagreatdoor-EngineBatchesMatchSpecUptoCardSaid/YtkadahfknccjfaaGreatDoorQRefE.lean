/-
  The reference of package value: small functions.
  The reference of package value: what is wrong with one level of a type.
  The reference of package value: one level of a record's type (two loops, one of them in another).
  The reference of package value: the check of types.
  The reference of package value: the check of types, level by level.
-/
import Derived.Test.YtkadahfknccjfaaGreatDoorQData3
import Derived.Test.YtkadahfknccjfaaGreatDoorQSpec2
import Derived.Test.YtkadahfknccjfaaGreatDoorProg
import Derived.WalkLawsBesides
import Derived.WalkSpells
import Derived.Outline
import Derived.Deep.QuietTactic
import Derived.BigQuiet
import Derived.Lib.Hide
namespace Go.Proofs.YtkadahfknccjfaaGreatDoor
open Go.RowKit
theorem rwithin_any (n a b : Int) (w : World) :
    Calls Tryz.prog 84 #[.int .i64 n, .int .i64 a, .int .i64 b] w fun e w' => e = .returned (.bool (withinB n a b)) ∧ w = w' := by
  by_cases h1 : a ≤ n <;> by_cases h2 : n ≤ b
  all_goals
    go_enter Tryz.func84, Tryz.ntmps84
    go_wp2
    go_ret
    exact ⟨by simp [withinB, h1, h2], rfl⟩
theorem rLeaf_any (k : Int) (w : World) :
    Calls Tryz.prog 94 #[.int .i64 k] w fun e w' => e = .returned (.bool (leafB k)) ∧ w = w' := by
  go_enter Tryz.func94, Tryz.ntmps94
  go_wp2
  all_goals
    go_ret
    exact ⟨by simp_all [leafB], rfl⟩
theorem name_step {s : ByteArray} {j : Nat} {hlt : j < s.size} (h : Hid (∀ i (h : i < s.size), i < j → nmB i s[i] = true)) (hg : Hid (nmB j s[j] = true)) : Hid (∀ i (h : i < s.size), i < j + 1 → nmB i s[i] = true) := by
  intro i hi hj
  by_cases e : i = j
  · subst e; exact hg
  · exact h i hi (by omega)
theorem name_not {s : ByteArray} {j : Nat} (hlt : j < s.size) (hg : nmB j s[j] = false) : nameB s = false := by
  rw [Bool.eq_false_iff]
  intro h
  simp only [nameB, Bool.and_eq_true, decide_eq_true_eq] at h
  rw [h.2 j hlt] at hg
  cases hg
set_option maxRecDepth 100000 in
set_option maxHeartbeats 1000000 in
theorem rName_any (s : ByteArray) (w : World) (hs : s.size ≤ maxLen) :
    Calls Tryz.prog 105 #[.string s] w fun e w' => e = .returned (.bool (nameB s)) ∧ w = w' := by
  unfold maxLen at hs
  by_cases h1 : s.size < 1
  · have hf := Lib.hid (show nameB s = false by unfold nameB; simp; omega)
    go_enter Tryz.func105, Tryz.ntmps105
    go_wp2
    go_ret
    exact ⟨by rw [hf.out]; rfl, rfl⟩
  by_cases h2 : 24 < s.size
  · have hf := Lib.hid (show nameB s = false by unfold nameB; simp; omega)
    go_enter Tryz.func105, Tryz.ntmps105
    go_wp2
    go_ret
    exact ⟨by rw [hf.out]; rfl, rfl⟩
  go_enter Tryz.func105, Tryz.ntmps105
  go_wp2
  go_loop [3] (fun i => ∃ j : Nat, j ≤ s.size ∧ i = .int .i64 j ∧ Hid (∀ i (h : i < s.size), i < j → nmB i s[i] = true)) (fun i => s.size - (intOf i).toNat)
  case atStart => exact ⟨0, Nat.zero_le _, rfl, fun i _ h => absurd h (by omega)⟩
  case round =>
    obtain ⟨j, hj, rfl, hall⟩ := hrel
    by_cases hlt : j < s.size
    · have hx : (97 ≤ (s[j].toNat : Int) ∧ (s[j].toNat : Int) ≤ 122) ∨ (95 ≤ (s[j].toNat : Int) ∧ (s[j].toNat : Int) ≤ 95) ∨ (48 ≤ (s[j].toNat : Int) ∧ (s[j].toNat : Int) ≤ 57) ∨
          (0 ≤ (s[j].toNat : Int) ∧ (s[j].toNat : Int) < 48) ∨ (57 < (s[j].toNat : Int) ∧ (s[j].toNat : Int) < 95) ∨ (95 < (s[j].toNat : Int) ∧ (s[j].toNat : Int) < 97) ∨ (122 < (s[j].toNat : Int) ∧ (s[j].toNat : Int) < 256) := by
        have := s[j].toNat_lt
        omega
      by_cases hj0 : 0 < j
      · rcases hx with ⟨a, b⟩ | ⟨a, b⟩ | ⟨a, b⟩ | ⟨a, b⟩ | ⟨a, b⟩ | ⟨a, b⟩ | ⟨a, b⟩
        · have hg := Lib.hid (show nmB j s[j] = true by simp [nmB]; omega)
          go_wp2
          go_round
          case rel => exact ⟨j + 1, by omega, by go_num, name_step hall hg⟩
          case measure => simp [intOf]; omega
        · have hg := Lib.hid (show nmB j s[j] = true by simp [nmB]; omega)
          go_wp2
          go_round
          case rel => exact ⟨j + 1, by omega, by go_num, name_step hall hg⟩
          case measure => simp [intOf]; omega
        · have hg := Lib.hid (show nmB j s[j] = true by simp [nmB]; omega)
          go_wp2
          go_round
          case rel => exact ⟨j + 1, by omega, by go_num, name_step hall hg⟩
          case measure => simp [intOf]; omega
        all_goals
          have hg := Lib.hid (name_not (by omega) (show nmB j s[j] = false by simp [nmB]; omega))
          have e0 : ((j : Int) == 0) = false := by simp; omega
          have e3 : ((s[j].toNat : Int) == 95) = false := by simp; omega
          try have e5 : decide ((s[j].toNat : Int) ≤ 57) = false := by simp; omega
          try have e6 : decide ((s[j].toNat : Int) ≤ 122) = false := by simp; omega
          go_wp2
          go_ret
          exact ⟨by rw [hg.out]; rfl, rfl⟩
      · obtain rfl : j = 0 := by omega
        rcases hx with ⟨a, b⟩ | ⟨a, b⟩ | ⟨a, b⟩ | ⟨a, b⟩ | ⟨a, b⟩ | ⟨a, b⟩ | ⟨a, b⟩
        · have hg := Lib.hid (show nmB 0 s[0] = true by simp [nmB]; omega)
          go_wp2
          go_round
          case rel => exact ⟨0 + 1, by omega, by go_num, name_step hall hg⟩
          case measure => simp [intOf]; omega
        all_goals
          have hg := Lib.hid (name_not (by omega) (show nmB 0 s[0] = false by simp [nmB]; omega))
          try have e5 : decide ((s[0].toNat : Int) ≤ 57) = false := by simp; omega
          try have e6 : decide ((s[0].toNat : Int) ≤ 122) = false := by simp; omega
          go_wp2
          go_ret
          exact ⟨by rw [hg.out]; rfl, rfl⟩
    · have hg := Lib.hid (show nameB s = true by
        have := hall.out
        simp only [nameB, Bool.and_eq_true, decide_eq_true_eq]
        exact ⟨⟨by omega, by omega⟩, fun i h => this i h (by omega)⟩)
      go_wp2
      go_ret
      exact ⟨by rw [hg.out]; rfl, rfl⟩
end Go.Proofs.YtkadahfknccjfaaGreatDoor
namespace Go.Proofs.YtkadahfknccjfaaGreatDoor
open Go.RowKit
set_option maxRecDepth 100000 in
set_option maxHeartbeats 1000000 in
theorem shape_far (k sc : Int) (A : Option Addr) (len cap : Nat) (w : World) (hk : withinB k 1 7 = false) :
    Calls Tryz.prog 95 #[.agg #[.int .i64 k, .int .i64 sc, .slice A len cap]] w fun e w' => e = .returned (.int .i64 3) ∧ Below w.heap.size w w' := by
  have hw := Lib.hid hk
  clear hk
  go_enter Tryz.func95, Tryz.ntmps95
  go_wp2_with (go_at_call 84; refine (rwithin_any _ _ _ _).mono ?_; rintro e w' ⟨rfl, rfl⟩; rw [hw.out])
  go_ret
  exact ⟨rfl, (by repeat (first | exact Below.refl _ _ | assumption | apply Below.drew | (refine Below.alloc ?_ ?_ _; rotate_left; (first | exact Nat.le_refl _ | (simp; done) | (simp; omega)))))⟩
set_option maxRecDepth 100000 in
set_option maxHeartbeats 1000000 in
theorem shape_scale (k sc : Int) (A : Option Addr) (len cap : Nat) (w : World) (hk : withinB k 1 7 = true) (hs : scaleB k sc = false) :
    Calls Tryz.prog 95 #[.agg #[.int .i64 k, .int .i64 sc, .slice A len cap]] w fun e w' => e = .returned (.int .i64 1) ∧ Below w.heap.size w w' := by
  have hw := Lib.hid hk
  clear hk
  unfold scaleB at hs
  by_cases h3 : k = 3
  · subst h3
    have hw2 := Lib.hid (show withinB sc 0 12 = false by simpa using hs)
    clear hs
    go_enter Tryz.func95, Tryz.ntmps95
    go_wp2_with (go_at_call 84; refine (rwithin_any _ _ _ _).mono ?_; rintro e w' ⟨rfl, rfl⟩; (first | rw [hw.out] | rw [hw2.out]))
    go_ret
    exact ⟨rfl, (by repeat (first | exact Below.refl _ _ | assumption | apply Below.drew | (refine Below.alloc ?_ ?_ _; rotate_left; (first | exact Nat.le_refl _ | (simp; done) | (simp; omega)))))⟩
  · have e3 : (k == 3) = false := by simpa using h3
    have n3 : (k != 3) = true := by simpa using h3
    have n0 : (sc != 0) = true := by simpa [h3] using hs
    clear hs h3
    go_enter Tryz.func95, Tryz.ntmps95
    go_wp2_with (go_at_call 84; refine (rwithin_any _ _ _ _).mono ?_; rintro e w' ⟨rfl, rfl⟩; rw [hw.out])
    go_ret
    exact ⟨rfl, (by repeat (first | exact Below.refl _ _ | assumption | apply Below.drew | (refine Below.alloc ?_ ?_ _; rotate_left; (first | exact Nat.le_refl _ | (simp; done) | (simp; omega)))))⟩
set_option maxRecDepth 100000 in
set_option maxHeartbeats 2000000 in
theorem shape_leaf0 (k sc : Int) (A : Option Addr) (cap : Nat) (w : World) (hk : withinB k 1 7 = true) (hs : scaleB k sc = true) (h6 : k ≠ 6) (h7 : k ≠ 7) :
    Calls Tryz.prog 95 #[.agg #[.int .i64 k, .int .i64 sc, .slice A 0 cap]] w fun e w' => e = .returned (.int .i64 0) ∧ Below w.heap.size w w' := by
  have hw := Lib.hid hk
  have hlf := Lib.hid (show leafB k = true by simp [leafB, h6, h7])
  have e6 : (k == 6) = false := by simpa using h6
  have e7 : (k == 7) = false := by simpa using h7
  have n7 : (k != 7) = true := by simpa using h7
  clear hk h6 h7
  unfold scaleB at hs
  by_cases h3 : k = 3
  · subst h3
    have hw2 := Lib.hid (show withinB sc 0 12 = true by simpa using hs)
    clear hs
    go_enter Tryz.func95, Tryz.ntmps95
    go_wp2_with (first | (go_at_call 84; refine (rwithin_any _ _ _ _).mono ?_; rintro e w' ⟨rfl, rfl⟩; (first | rw [hw.out] | rw [hw2.out])) | (go_at_call 94; refine (rLeaf_any _ _).mono ?_; rintro e w' ⟨rfl, rfl⟩; rw [hlf.out]))
    go_ret
    exact ⟨rfl, (by repeat (first | exact Below.refl _ _ | assumption | apply Below.drew | (refine Below.alloc ?_ ?_ _; rotate_left; (first | exact Nat.le_refl _ | (simp; done) | (simp; omega)))))⟩
  · have e3 : (k == 3) = false := by simpa using h3
    have n3 : (k != 3) = true := by simpa using h3
    have n0 : (sc != 0) = false := by simpa [h3] using hs
    clear hs h3
    go_enter Tryz.func95, Tryz.ntmps95
    go_wp2_with (first | (go_at_call 84; refine (rwithin_any _ _ _ _).mono ?_; rintro e w' ⟨rfl, rfl⟩; rw [hw.out]) | (go_at_call 94; refine (rLeaf_any _ _).mono ?_; rintro e w' ⟨rfl, rfl⟩; rw [hlf.out]))
    go_ret
    exact ⟨rfl, (by repeat (first | exact Below.refl _ _ | assumption | apply Below.drew | (refine Below.alloc ?_ ?_ _; rotate_left; (first | exact Nat.le_refl _ | (simp; done) | (simp; omega)))))⟩
set_option maxRecDepth 100000 in
set_option maxHeartbeats 2000000 in
theorem shape_leaf1 (k sc : Int) (A : Option Addr) (len cap : Nat) (w : World) (_hl : len ≤ maxLen) (h0 : 0 < len) (hk : withinB k 1 7 = true) (hs : scaleB k sc = true) (h6 : k ≠ 6) (h7 : k ≠ 7) :
    Calls Tryz.prog 95 #[.agg #[.int .i64 k, .int .i64 sc, .slice A len cap]] w fun e w' => e = .returned (.int .i64 1) ∧ Below w.heap.size w w' := by
  unfold maxLen at _hl
  have hw := Lib.hid hk
  have hlf := Lib.hid (show leafB k = true by simp [leafB, h6, h7])
  have e6 : (k == 6) = false := by simpa using h6
  have e7 : (k == 7) = false := by simpa using h7
  have n7 : (k != 7) = true := by simpa using h7
  clear hk h6 h7
  unfold scaleB at hs
  by_cases h3 : k = 3
  · subst h3
    have hw2 := Lib.hid (show withinB sc 0 12 = true by simpa using hs)
    clear hs
    go_enter Tryz.func95, Tryz.ntmps95
    go_wp2_with (first | (go_at_call 84; refine (rwithin_any _ _ _ _).mono ?_; rintro e w' ⟨rfl, rfl⟩; (first | rw [hw.out] | rw [hw2.out])) | (go_at_call 94; refine (rLeaf_any _ _).mono ?_; rintro e w' ⟨rfl, rfl⟩; rw [hlf.out]))
    go_ret
    exact ⟨rfl, (by repeat (first | exact Below.refl _ _ | assumption | apply Below.drew | (refine Below.alloc ?_ ?_ _; rotate_left; (first | exact Nat.le_refl _ | (simp; done) | (simp; omega)))))⟩
  · have e3 : (k == 3) = false := by simpa using h3
    have n3 : (k != 3) = true := by simpa using h3
    have n0 : (sc != 0) = false := by simpa [h3] using hs
    clear hs h3
    go_enter Tryz.func95, Tryz.ntmps95
    go_wp2_with (first | (go_at_call 84; refine (rwithin_any _ _ _ _).mono ?_; rintro e w' ⟨rfl, rfl⟩; rw [hw.out]) | (go_at_call 94; refine (rLeaf_any _ _).mono ?_; rintro e w' ⟨rfl, rfl⟩; rw [hlf.out]))
    go_ret
    exact ⟨rfl, (by repeat (first | exact Below.refl _ _ | assumption | apply Below.drew | (refine Below.alloc ?_ ?_ _; rotate_left; (first | exact Nat.le_refl _ | (simp; done) | (simp; omega)))))⟩
set_option maxRecDepth 100000 in
set_option maxHeartbeats 2000000 in
theorem shape_list_many (A : Option Addr) (len cap : Nat) (w : World) (_hl : len ≤ maxLen) (h1 : len ≠ 1) :
    Calls Tryz.prog 95 #[.agg #[.int .i64 6, .int .i64 0, .slice A len cap]] w fun e w' => e = .returned (.int .i64 1) ∧ Below w.heap.size w w' := by
  unfold maxLen at _hl
  have hw := Lib.hid (show withinB 6 1 7 = true by rfl)
  have n1 : ((len : Int) != 1) = true := by simp; omega
  clear h1
  go_enter Tryz.func95, Tryz.ntmps95
  go_wp2_with (first | (go_at_call 84; refine (rwithin_any _ _ _ _).mono ?_; rintro e w' ⟨rfl, rfl⟩; rw [hw.out]))
  go_ret
  exact ⟨rfl, (by repeat (first | exact Below.refl _ _ | assumption | apply Below.drew | (refine Below.alloc ?_ ?_ _; rotate_left; (first | exact Nat.le_refl _ | (simp; done) | (simp; omega)))))⟩
set_option maxRecDepth 100000 in
set_option maxHeartbeats 2000000 in
theorem shape_list_none (ad : Addr) (cap : Nat) (s : ByteArray) (w : World) (hb : ad.block < w.heap.size) (c1 : w.cell? ⟨ad.block, ad.off + 1, none⟩ = some (.string s)) (he : s.toList = []) :
    Calls Tryz.prog 95 #[.agg #[.int .i64 6, .int .i64 0, .slice (some ad) 1 cap]] w fun e w' => e = .returned (.int .i64 0) ∧ Below w.heap.size w w' := by
  have hw := Lib.hid (show withinB 6 1 7 = true by rfl)
  have hlf := Lib.hid (show leafB 6 = false by rfl)
  have ha : ad.add 0 = ad := rfl
  have c1' : ∀ o, (w.alloc o).cell? ⟨ad.block, ad.off + 1, none⟩ = some (.string s) := fun o => (World.cell?_alloc_lt w o ⟨ad.block, ad.off + 1, none⟩ hb).trans c1
  go_enter Tryz.func95, Tryz.ntmps95
  go_wp2_with (first | (go_at_call 84; refine (rwithin_any _ _ _ _).mono ?_; rintro e w' ⟨rfl, rfl⟩; rw [hw.out]) | (go_at_call 94; refine (rLeaf_any _ _).mono ?_; rintro e w' ⟨rfl, rfl⟩; rw [hlf.out]))
  go_ret
  exact ⟨rfl, (by repeat (first | exact Below.refl _ _ | assumption | apply Below.drew | (refine Below.alloc ?_ ?_ _; rotate_left; (first | exact Nat.le_refl _ | (simp; done) | (simp; omega)))))⟩
set_option maxRecDepth 100000 in
set_option maxHeartbeats 2000000 in
theorem shape_list_named (ad : Addr) (cap : Nat) (s : ByteArray) (w : World) (hb : ad.block < w.heap.size) (c1 : w.cell? ⟨ad.block, ad.off + 1, none⟩ = some (.string s)) (he : s.toList ≠ []) :
    Calls Tryz.prog 95 #[.agg #[.int .i64 6, .int .i64 0, .slice (some ad) 1 cap]] w fun e w' => e = .returned (.int .i64 1) ∧ Below w.heap.size w w' := by
  have hw := Lib.hid (show withinB 6 1 7 = true by rfl)
  have hlf := Lib.hid (show leafB 6 = false by rfl)
  have ha : ad.add 0 = ad := rfl
  have hne : (!s.toList.isEmpty) = true := by simpa using he
  clear he
  have c1' : ∀ o, (w.alloc o).cell? ⟨ad.block, ad.off + 1, none⟩ = some (.string s) := fun o => (World.cell?_alloc_lt w o ⟨ad.block, ad.off + 1, none⟩ hb).trans c1
  go_enter Tryz.func95, Tryz.ntmps95
  go_wp2_with (first | (go_at_call 84; refine (rwithin_any _ _ _ _).mono ?_; rintro e w' ⟨rfl, rfl⟩; rw [hw.out]) | (go_at_call 94; refine (rLeaf_any _ _).mono ?_; rintro e w' ⟨rfl, rfl⟩; rw [hlf.out]))
  go_ret
  exact ⟨rfl, (by repeat (first | exact Below.refl _ _ | assumption | apply Below.drew | (refine Below.alloc ?_ ?_ _; rotate_left; (first | exact Nat.le_refl _ | (simp; done) | (simp; omega)))))⟩
end Go.Proofs.YtkadahfknccjfaaGreatDoor
namespace Go.Proofs.YtkadahfknccjfaaGreatDoor
open Go.RowKit
set_option maxRecDepth 100000 in
set_option maxHeartbeats 2000000 in
theorem shape_rec0 (A : Option Addr) (cap : Nat) (w : World) :
    Calls Tryz.prog 95 #[.agg #[.int .i64 7, .int .i64 0, .slice A 0 cap]] w fun e w' => e = .returned (.int .i64 1) ∧ Below w.heap.size w w' := by
  have hw := Lib.hid (show withinB 7 1 7 = true by rfl)
  have hlf := Lib.hid (show leafB 7 = false by rfl)
  go_enter Tryz.func95, Tryz.ntmps95
  go_wp2_with (first | (go_at_call 84; refine (rwithin_any _ _ _ _).mono ?_; rintro e w' ⟨rfl, rfl⟩; rw [hw.out]) | (go_at_call 94; refine (rLeaf_any _ _).mono ?_; rintro e w' ⟨rfl, rfl⟩; rw [hlf.out]))
  go_ret
  exact ⟨rfl, (by repeat (first | exact Below.refl _ _ | assumption | apply Below.drew | (refine Below.alloc ?_ ?_ _; rotate_left; (first | exact Nat.le_refl _ | (simp; done) | (simp; omega)))))⟩
theorem names_step {l : List FT} {j : Nat} (h : Hid (∀ i, i < j → nameB (nmAt l i) = true)) (hg : nameB (nmAt l j) = true) : Hid (∀ i, i < j + 1 → nameB (nmAt l i) = true) := by
  intro i hi
  by_cases e : i = j
  · subst e; exact hg
  · exact h i (by omega)
theorem twice_step {l : List FT} {k j : Nat} (h : Hid (∀ k', k' < k → ((nmAt l k').toList == (nmAt l j).toList) = false)) (hg : ((nmAt l k).toList == (nmAt l j).toList) = false) :
    Hid (∀ k', k' < k + 1 → ((nmAt l k').toList == (nmAt l j).toList) = false) := by
  intro i hi
  by_cases e : i = k
  · subst e; exact hg
  · exact h i (by omega)
theorem twice_step2 {l : List FT} {k j : Nat} (h : Hid (∀ i k, i < j → k < i → ((nmAt l k).toList == (nmAt l i).toList) = false)) (h' : Hid (∀ k', k' < k → ((nmAt l k').toList == (nmAt l j).toList) = false)) (hk : j ≤ k) :
    Hid (∀ i k, i < j + 1 → k < i → ((nmAt l k).toList == (nmAt l i).toList) = false) := by
  intro i q hi hq
  by_cases e : i = j
  · subst e; exact h' q (by omega)
  · exact h i q (by omega) hq
def recS (l : List FT) : Int := if namesB l = false then 4 else if twiceB l = true then 5 else 0
set_option maxRecDepth 100000 in
set_option maxHeartbeats 4000000 in
theorem shape_rec (B : Nat) (A : Option Addr) (cap len : Nat) (l : List FT) (w : World) (hr : FT.Row B w A cap l) (hin : ∀ x, x ∈ l → FT.In B w x) (hB : B ≤ w.heap.size) (h0 : 0 < len) (hlen : Hid (l.length = len)) :
    Calls Tryz.prog 95 #[.agg #[.int .i64 7, .int .i64 0, .slice A len cap]] w fun e w' => e = .returned (.int .i64 (recS l)) ∧ Below w.heap.size w w' := by
  have hl : len ≤ 9223372036854775807 := by rw [← hlen.out]; exact Nat.le_trans hr.1 hr.2.1
  have hw := Lib.hid (show withinB 7 1 7 = true by rfl)
  have hlf := Lib.hid (show leafB 7 = false by rfl)
  have e0 : ((len : Int) == 0) = false := by simp; omega
  have hr1 := fun o => hr.keep ((Same.refl B w).alloc hB o)
  go_enter Tryz.func95, Tryz.ntmps95
  go_wp2_with (first | (go_at_call 84; refine (rwithin_any _ _ _ _).mono ?_; rintro e w' ⟨rfl, rfl⟩; rw [hw.out]) | (go_at_call 94; refine (rLeaf_any _ _).mono ?_; rintro e w' ⟨rfl, rfl⟩; rw [hlf.out]))
  go_loop [72] (fun i => ∃ j : Nat, j ≤ len ∧ i = .int .i64 j ∧ Hid (∀ i, i < j → nameB (nmAt l i) = true)) (fun i => len - (intOf i).toNat)
  case atStart => exact ⟨0, Nat.zero_le _, rfl, fun i h => absurd h (by omega)⟩
  case round =>
    obtain ⟨j, hj, rfl, hall⟩ := hrel
    by_cases hlt : j < len
    · obtain ⟨x, ad, hx, rfl, hb, c0, c1, c2, c3, c4, c5⟩ := (hr1 (.cells #[.int .i64 7, .int .i64 0, .slice A len cap] 50)).get (show j < l.length by rw [hlen.out]; exact hlt)
      have hnm := Lib.hid (nmAt_of hx)
      have hxs : x.a.nm.size ≤ maxLen := by
        have := hin x (mem_of_get? hx)
        cases this; assumption
      clear c0 c2 c3 c4 c5 hx hr1 hr hin
      cases hn : nameB x.a.nm
      · have Hn := Lib.hid hn
        clear hn
        have hf := Lib.hid (show recS l = 4 by unfold recS; rw [if_pos (namesB_false (i := j) (by rw [hlen.out]; exact hlt) (by rw [hnm.out]; exact Hn.out))])
        go_wp2_with (first | (go_at_call 105; refine (rName_any _ _ hxs).mono ?_; rintro e w' ⟨rfl, rfl⟩; rw [Hn.out]))
        go_ret
        exact ⟨by rw [hf.out]; rfl, (by repeat (first | exact Below.refl _ _ | assumption | apply Below.drew | (refine Below.alloc ?_ ?_ _; rotate_left; (first | exact Nat.le_refl _ | (simp; done) | (simp; omega)))))⟩
      · have Hn := Lib.hid hn
        clear hn
        go_wp2_with (first | (go_at_call 105; refine (rName_any _ _ hxs).mono ?_; rintro e w' ⟨rfl, rfl⟩; rw [Hn.out]))
        go_round
        case rel => exact ⟨j + 1, by omega, by go_num, names_step hall (by rw [hnm.out]; exact Hn.out)⟩
        case measure => simp [intOf]; omega
    · have hN := Lib.hid (namesB_true (l := l) fun i hi => hall.out i (by rw [hlen.out] at hi; omega))
      have hcA : (w.alloc (.cells #[.int .i64 7, .int .i64 0, .slice A len cap] 50)).cell? ⟨w.heap.size, 2, none⟩ = some (.slice A len cap) := by simp
      have hRow := hr1 (.cells #[.int .i64 7, .int .i64 0, .slice A len cap] 50)
      have hBw : B < (w.alloc (.cells #[.int .i64 7, .int .i64 0, .slice A len cap] 50)).heap.size := by simp; omega
      have hsz : w.heap.size < (w.alloc (.cells #[.int .i64 7, .int .i64 0, .slice A len cap] 50)).heap.size := by simp
      have hbw : Below w.heap.size w (w.alloc (.cells #[.int .i64 7, .int .i64 0, .slice A len cap] 50)) := (Below.refl _ _).alloc (Nat.le_refl _) _
      go_wp2
      generalize w.alloc (.cells #[.int .i64 7, .int .i64 0, .slice A len cap] 50) = W0 at hcA hRow hBw hsz hbw ⊢
      go_loopw [87] (fun i wr => ∃ j : Nat, j ≤ len ∧ i = .int .i64 j ∧ Below W0.heap.size W0 wr ∧ Hid (∀ i k, i < j → k < i → ((nmAt l k).toList == (nmAt l i).toList) = false)) (fun i _ => len - (intOf i).toNat)
      case atStart => exact ⟨0, Nat.zero_le _, rfl, Below.refl _ _, fun i k h => absurd h (by omega)⟩
      case round =>
        obtain ⟨j, hj, rfl, hbr, hall2⟩ := hrel
        by_cases hlt : j < len
        · go_wp2
          obtain ⟨wo, rfl⟩ : ∃ wo : World, wo = wr := ⟨_, rfl⟩
          go_loopw [5] (fun i wr => ∃ k : Nat, k ≤ j ∧ i = .int .i64 k ∧ Below W0.heap.size W0 wr ∧ Hid (∀ k', k' < k → ((nmAt l k').toList == (nmAt l j).toList) = false)) (fun i _ => j - (intOf i).toNat)
          case atStart => exact ⟨0, Nat.zero_le _, rfl, hbr, fun k' h => absurd h (by omega)⟩
          case round =>
            obtain ⟨k, hk, rfl, hbr2, hall3⟩ := hrel
            by_cases hklt : k < j
            · have hRow2 := hRow.keep (Same.mono (Same.of_below hbr2) (by omega))
              obtain ⟨y, ad, hy, rfl, hby, _, d1, _, _, _, _⟩ := hRow2.get (show j < l.length by rw [hlen.out]; omega)
              obtain ⟨x, ad', hx, hade, hbx, _, e1, _, _, _, _⟩ := hRow2.get (show k < l.length by rw [hlen.out]; omega)
              obtain rfl : ad = ad' := by injection hade
              have hny := Lib.hid (nmAt_of hy)
              have hnx := Lib.hid (nmAt_of hx)
              have hcA2 := (hbr2.cell (p := ⟨w.heap.size, 2, none⟩) hsz).trans hcA
              clear hRow2 hRow hr1 hr hin hx hy hade hcA hall hbr
              cases heq : (x.a.nm.toList == y.a.nm.toList)
              · go_wp2
                go_quiet (fail)
                go_wp2
                go_roundw
                case rel => exact ⟨k + 1, by omega, by go_num, below_drewN hbr2 _, twice_step hall3 (by rw [hny.out, hnx.out]; exact heq)⟩
                case measure => simp [intOf]; omega
              · have hf := Lib.hid (show recS l = 5 by
                  unfold recS
                  rw [hN.out, if_neg (by simp), if_pos (twiceB_true (i := j) (k := k) (by rw [hlen.out]; exact hlt) hklt (by rw [hny.out, hnx.out]; exact heq))])
                go_wp2
                go_quiet (fail)
                go_wp2
                go_ret
                exact ⟨by rw [hf.out]; rfl, hbw.trans ((below_drewN hbr2 _).mono (by omega))⟩
            · go_wp2
              go_roundw
              case rel => exact ⟨j + 1, by omega, by go_num, hbr2, twice_step2 hall2 hall3 (by omega)⟩
              case measure => simp [intOf]; omega
        · have hf := Lib.hid (show recS l = 0 by
            unfold recS
            rw [hN.out, if_neg (by simp), if_neg (by rw [twiceB_false (fun i k hi hk => hall2.out i k (by rw [hlen.out] at hi; omega) hk)]; simp)])
          go_wp2
          go_ret
          exact ⟨by rw [hf.out]; rfl, hbw.trans (hbr.mono (by omega))⟩
end Go.Proofs.YtkadahfknccjfaaGreatDoor
namespace Go.Proofs.YtkadahfknccjfaaGreatDoor
open Go.RowKit
theorem FT.In.inv {B : Nat} {w : World} {a : FP} {l : List FT} (h : FT.In B w (.node a l)) : I64 a.id ∧ a.nm.size ≤ maxLen ∧ I64 a.k ∧ I64 a.sc ∧ FT.Row B w a.A a.cap l ∧ ∀ x, x ∈ l → FT.In B w x := by
  cases h
  exact ⟨by assumption, by assumption, by assumption, by assumption, by assumption, by assumption⟩
theorem shape_any {B : Nat} {w : World} (k sc : Int) (A : Option Addr) (cap len : Nat) (l : List FT) (hr : FT.Row B w A cap l) (hin : ∀ x, x ∈ l → FT.In B w x) (hB : B ≤ w.heap.size) (hlen : Hid (l.length = len)) :
    Calls Tryz.prog 95 #[.agg #[.int .i64 k, .int .i64 sc, .slice A len cap]] w fun e w' => e = .returned (.int .i64 (shapeS k sc l)) ∧ Below w.heap.size w w' := by
  have hl : len ≤ maxLen := by rw [← hlen.out]; exact Nat.le_trans hr.1 hr.2.1
  have hle := hlen.out
  cases h1 : withinB k 1 7
  · have : shapeS k sc l = 3 := by unfold shapeS; rw [if_pos h1]
    rw [this]
    exact shape_far k sc A len cap w h1
  cases h2 : scaleB k sc
  · have : shapeS k sc l = 1 := by unfold shapeS; rw [h1, if_neg (by simp), if_pos h2]
    rw [this]
    exact shape_scale k sc A len cap w h1 h2
  by_cases h6 : k = 6
  · subst h6
    obtain rfl : sc = 0 := by simpa [scaleB] using h2
    have hs : shapeS 6 0 l = if l.length ≠ 1 ∨ (nmAt l 0).toList ≠ [] then 1 else 0 := by unfold shapeS; rw [h1, if_neg (by simp), h2, if_neg (by simp), if_pos rfl]
    rw [hs]
    by_cases hl1 : l.length = 1
    · obtain ⟨x, ad, hx, rfl, hb, c0, c1, c2, c3, c4, c5⟩ := hr.get (show 0 < l.length by omega)
      have hnm := nmAt_of hx
      have ha : ad.add (0 * 6) = ad := rfl
      rw [ha] at c1
      obtain rfl : len = 1 := by omega
      by_cases he : x.a.nm.toList = []
      · rw [if_neg (by rw [hnm]; simp [hl1, he])]
        exact shape_list_none ad cap x.a.nm w (by omega) c1 he
      · rw [if_pos (by rw [hnm]; exact .inr he)]
        exact shape_list_named ad cap x.a.nm w (by omega) c1 he
    · rw [if_pos (.inl hl1)]
      exact shape_list_many A len cap w hl (by omega)
  by_cases h7 : k = 7
  · subst h7
    obtain rfl : sc = 0 := by simpa [scaleB] using h2
    by_cases h0 : len = 0
    · subst h0
      have : shapeS 7 0 l = 1 := by unfold shapeS; rw [h1, if_neg (by simp), h2, if_neg (by simp), if_neg (by simp), if_neg (by simp), if_pos hle]
      rw [this]
      exact shape_rec0 A cap w
    · have : shapeS 7 0 l = recS l := by unfold shapeS recS; rw [h1, if_neg (by simp), h2, if_neg (by simp), if_neg (by simp), if_neg (by simp), if_neg (by omega)]
      rw [this]
      exact shape_rec B A cap len l w hr hin hB (by omega) hlen
  · have hs : shapeS k sc l = if l.length = 0 then 0 else 1 := by unfold shapeS; rw [h1, if_neg (by simp), h2, if_neg (by simp), if_neg h6, if_pos h7]
    rw [hs]
    by_cases h0 : len = 0
    · subst h0
      rw [if_pos hle]
      exact shape_leaf0 k sc A cap w h1 h2 h6 h7
    · rw [if_neg (by omega)]
      exact shape_leaf1 k sc A len cap w hl (by omega) h1 h2 h6 h7
theorem ckT_bd : ∀ (t : FT) (lv c : Int), 0 ≤ c → c ≤ 40 → 0 ≤ (ckT lv c t).2 ∧ (ckT lv c t).2 ≤ 40 := by
  refine FT.ind fun a l ih lv c h0 h1 => ?_
  have hs : ∀ (r : List FT), (∀ x, x ∈ r → x ∈ l) → ∀ c, 0 ≤ c → c ≤ 40 → 0 ≤ (ckTs (lv + 1) c r).2 ∧ (ckTs (lv + 1) c r).2 ≤ 40 := by
    intro r
    induction r with
    | nil => intro _ c h0 h1; simpa [ckTs] using ⟨h0, h1⟩
    | cons x r ihr =>
      intro hm c h0 h1
      have hx := ih x (hm x (by simp)) (lv + 1) c h0 h1
      unfold ckTs
      split
      · exact hx
      · exact ihr (fun y hy => hm y (by simp [hy])) _ hx.1 hx.2
  unfold ckT
  by_cases hlf : leafB a.k = true ∧ c = 40
  · rw [if_pos hlf]; split <;> exact ⟨h0, h1⟩
  · have hb : 0 ≤ (if leafB a.k = true then c + 1 else c) ∧ (if leafB a.k = true then c + 1 else c) ≤ 40 := by
      split
      · rename_i h; exact ⟨by omega, by have : c ≠ 40 := fun e => hlf ⟨h, e⟩; omega⟩
      · exact ⟨h0, h1⟩
    rw [if_neg hlf]
    split
    · exact ⟨h0, h1⟩
    · split
      · exact hb
      · exact hs l (fun _ h => h) _ hb.1 hb.2
end Go.Proofs.YtkadahfknccjfaaGreatDoor
namespace Go.Proofs.YtkadahfknccjfaaGreatDoor
open Go.RowKit
def CkPost (g : Nat) (w : World) (r : Int × Int) (e : Ending) (w' : World) : Prop := e = .returned (.int .i64 r.1) ∧ Ch g w w' ∧ One w' g r.2
set_option maxRecDepth 100000 in
set_option maxHeartbeats 4000000 in
theorem checkType_any : ∀ (t : FT) (lv c : Int) (g B : Nat) (w : World), FT.In B w t → B ≤ w.heap.size → B ≤ g → One w g c → 1 ≤ lv → lv ≤ 5 → 0 ≤ c → c ≤ 40 →
    Calls Tryz.prog 82 #[.agg #[.int .i64 t.a.k, .int .i64 t.a.sc, .slice t.a.A t.l.length t.a.cap], .int .i64 lv, .pointer (some ⟨g, 0, none⟩)] w (CkPost g w (ckT lv c t)) := by
  refine FT.ind fun a l ih lv c g B w hin hB hg hone hlv1 hlv5 hc0 hc40 => ?_
  obtain ⟨id, nm, nd, k, sc, A, cap⟩ := a
  obtain ⟨_, _, _, _, hr, hl⟩ := hin.inv
  simp only [FT.a_node, FT.l_node] at hr ⊢
  have hgl := hone.lt
  have hcell := hone.cell
  have hfr := hone.frozen
  obtain ⟨len, hlen⟩ : ∃ len, l.length = len := ⟨_, rfl⟩
  have hll : len ≤ 9223372036854775807 := by rw [← hlen]; exact Nat.le_trans hr.1 hr.2.1
  rw [hlen]
  have hlen := Lib.hid hlen
  by_cases h4 : 4 < lv
  · have hf := Lib.hid (show ckT lv c (.node ⟨id, nm, nd, k, sc, A, cap⟩ l) = (7, c) by unfold ckT; rw [if_pos h4])
    rw [hf.out]
    clear ih hr hl hin
    go_enter Tryz.func82, Tryz.ntmps82
    go_wp2
    go_ret
    exact ⟨rfl, (Ch.refl g w).alloc _, hone.alloc _⟩
  have hnot4 : ¬ lv > 4 := h4
  clear h4
  have h4 : lv ≤ 4 := by omega
  obtain ⟨r, hr0⟩ : ∃ r, ckT lv c (.node ⟨id, nm, nd, k, sc, A, cap⟩ l) = r := ⟨_, rfl⟩
  rw [hr0]
  unfold ckT at hr0
  rw [if_neg hnot4] at hr0
  clear hnot4
  cases hlf : leafB k
  · rw [hlf] at hr0
    have Hlf := Lib.hid hlf
    obtain ⟨c1, hc1⟩ : ∃ c1, c1 = c := ⟨_, rfl⟩
    have H0 : Hid ((if shapeS k sc l ≠ 0 then (shapeS k sc l, c1) else ckTs (lv + 1) c1 l) = r) := by rw [hc1, ← hr0]; simp [Hid]
    have hc10 : 0 ≤ c1 := by omega
    have hc11 : c1 ≤ 40 := by omega
    obtain ⟨W1, hW1⟩ : ∃ W1, w.alloc (.cells #[.int .i64 k, .int .i64 sc, .slice A len cap] 50) = W1 := ⟨_, rfl⟩
    have hone1 : One W1 g c1 := by rw [← hW1, hc1]; exact hone.alloc _
    have hch1 : Ch g w W1 := by rw [← hW1]; exact (Ch.refl g w).alloc _
    clear hlf hr0 hin hc1
    have hbsz : w.heap.size < W1.heap.size := by rw [← hW1]; simp
    have hbox : W1.cell? ⟨w.heap.size, 2, none⟩ = some (.slice A len cap) := by rw [← hW1]; simp
    have hS1 : Same B w W1 := hch1.same hB hg
    have hrW := hr.keep hS1
    have hlW := fun x (hx : x ∈ l) => (hl x hx).keep hS1
    have HW1 := Lib.hid hW1
    clear hW1 hr hl
    go_enter Tryz.func82, Tryz.ntmps82
    go_wp2_with (go_at_call 94; refine (rLeaf_any _ _).mono ?_; rintro e w' ⟨rfl, rfl⟩; rw [Hlf.out])
    rw [HW1.out]
    clear hcell hfr
    refine (shape_any k sc A cap len l hrW hlW (by omega) hlen).mono ?_
    rintro e w2 ⟨rfl, hb2⟩
    have hone2 := hone1.below hb2
    have hch2 := hch1.then_below hb2
    have hbox2 := (hb2.cell (p := ⟨w.heap.size, 2, none⟩) hbsz).trans hbox
    have hbsz2 : w.heap.size < w2.heap.size := Nat.lt_of_lt_of_le hbsz hb2.size
    have hS2 : Same B w w2 := hch2.same hB hg
    have hrW2 := hrW.keep (Same.mono (Same.of_below hb2) (by omega))
    have hlW2 := fun x (hx : x ∈ l) => (hlW x hx).keep (Same.mono (Same.of_below hb2) (by omega))
    clear hrW hlW hbox hb2 HW1 hone1 hch1 hone hS1 hS2
    by_cases hs0 : shapeS k sc l = 0
    · have hs0' := Lib.hid hs0
      have H1 : Hid (ckTs (lv + 1) c1 l = r) := by have := H0.out; rw [hs0, if_neg (by simp)] at this; exact this
      rw [hs0]
      clear hs0 H0
      go_wp2
      go_loopw [32] (fun i wr => ∃ (j : Nat) (c' : Int), j ≤ len ∧ i = .int .i64 j ∧ Ch g w wr ∧ One wr g c' ∧ 0 ≤ c' ∧ c' ≤ 40 ∧ wr.cell? ⟨w.heap.size, 2, none⟩ = some (.slice A len cap) ∧ w.heap.size < wr.heap.size ∧ Same B w2 wr ∧ Hid (ckTs (lv + 1) c' (l.drop j) = r)) (fun i _ => len - (intOf i).toNat)
      case atStart => exact ⟨0, c1, Nat.zero_le _, rfl, hch2, hone2, hc10, hc11, hbox2, hbsz2, Same.refl _ _, H1⟩
      case round =>
        obtain ⟨j, c', hj, rfl, hch, hon, hc'0, hc'1, hbx, hbs, hsm, HR⟩ := hrel
        by_cases hlt : j < len
        · obtain ⟨x, ad, hx, rfl, hb, _, _, _, d3, d4, d5⟩ := (hrW2.keep hsm).get (show j < l.length by rw [hlen.out]; exact hlt)
          have hxi := (hlW2 x (mem_of_get? hx)).keep hsm
          have hic := ih x (mem_of_get? hx) (lv + 1) c' g B wr hxi (by omega) hg hon (by omega) (by omega) hc'0 hc'1
          obtain ⟨f, c2, hfc⟩ : ∃ f c2, ckT (lv + 1) c' x = (f, c2) := ⟨_, _, rfl⟩
          have hbd := ckT_bd x (lv + 1) c' hc'0 hc'1
          rw [hfc] at hic hbd
          have hdr := drop_of_get? hx
          have HR2 := HR.out
          rw [hdr] at HR2
          unfold ckTs at HR2
          rw [hfc] at HR2
          have Hic := Lib.hid hic
          have HR3 := Lib.hid HR2
          clear HR2 hic hdr hfc HR hxi hrW2 hlW2 ih hx hbox2
          by_cases hf0 : f = 0
          · subst hf0
            have HR4 : Hid (ckTs (lv + 1) c2 (l.drop (j + 1)) = r) := by have := HR3.out; rw [if_neg (by simp)] at this; exact this
            go_wp2_with (go_at_call 82; refine (Hic.out).mono ?_; rintro e w' ⟨rfl, hch3, hon3⟩)
            go_roundw
            case rel => exact ⟨j + 1, c2, by omega, by go_num, hch.trans hch3, hon3, hbd.1, hbd.2, (hch3.cell (p := ⟨w.heap.size, 2, none⟩) hbs (by simp; omega)).trans hbx, Nat.lt_of_lt_of_le hbs hch3.size, hsm.trans (hch3.same (by have := hch.size; omega) hg), HR4⟩
            case measure => simp [intOf]; omega
          · have HR4 : Hid ((f, c2) = r) := by have := HR3.out; rw [if_pos (by simpa using hf0)] at this; exact this
            have nf : (f != 0) = true := by simpa using hf0
            clear hf0
            go_wp2_with (go_at_call 82; refine (Hic.out).mono ?_; rintro e w' ⟨rfl, hch3, hon3⟩)
            go_ret
            exact ⟨by rw [← HR4.out]; rfl, hch.trans hch3, by rw [← HR4.out]; exact hon3⟩
        · have HR2 : Hid ((0, c') = r) := by have := HR.out; rw [List.drop_eq_nil_of_le (by rw [hlen.out]; omega)] at this; unfold ckTs at this; exact this
          go_wp2
          go_ret
          exact ⟨by rw [← HR2.out]; rfl, hch, by rw [← HR2.out]; exact hon⟩
    · have hs0' : (shapeS k sc l != 0) = true := by simpa using hs0
      have H1 : Hid ((shapeS k sc l, c1) = r) := by have := H0.out; rw [if_pos hs0] at this; exact this
      clear hs0
      go_wp2
      go_ret
      exact ⟨by rw [← H1.out]; rfl, hch2, by rw [← H1.out]; exact hone2⟩
  · rw [hlf] at hr0
    have Hlf := Lib.hid hlf
    clear hlf
    by_cases h40 : c = 40
    · subst h40
      have hf := Lib.hid (show r = (7, 40) by rw [← hr0]; simp)
      rw [hf.out]
      clear ih hr hl hin hr0
      go_enter Tryz.func82, Tryz.ntmps82
      go_wp2_with (go_at_call 94; refine (rLeaf_any _ _).mono ?_; rintro e w' ⟨rfl, rfl⟩; rw [Hlf.out])
      go_ret
      exact ⟨rfl, (Ch.refl g w).alloc _, hone.alloc _⟩
    · have n40 : (c == 40) = false := by simpa using h40
      obtain ⟨c1, hc1⟩ : ∃ c1, c1 = c + 1 := ⟨_, rfl⟩
      have H0 : Hid ((if shapeS k sc l ≠ 0 then (shapeS k sc l, c1) else ckTs (lv + 1) c1 l) = r) := by rw [hc1, ← hr0, if_neg (show ¬ (true = true ∧ c = 40) by simpa using h40)]; simp [Hid]
      have hc10 : 0 ≤ c1 := by omega
      have hc11 : c1 ≤ 40 := by omega
      obtain ⟨W1, hW1⟩ : ∃ W1, (w.setCell ⟨g, 0, none⟩ (.int .i64 (c + 1))).alloc (.cells #[.int .i64 k, .int .i64 sc, .slice A len cap] 50) = W1 := ⟨_, rfl⟩
      have hone1 : One W1 g c1 := by rw [← hW1, hc1]; exact (hone.set _).alloc _
      have hch1 : Ch g w W1 := by rw [← hW1]; exact ((Ch.refl g w).setCell _ _).alloc _
      clear h40 hr0 hin hc1
      have hbsz : w.heap.size < W1.heap.size := by rw [← hW1]; simp
      have hbox : W1.cell? ⟨w.heap.size, 2, none⟩ = some (.slice A len cap) := by rw [← hW1]; exact cell_new_set _ _ _ _ _ _
      have hS1 : Same B w W1 := hch1.same hB hg
      have hrW := hr.keep hS1
      have hlW := fun x (hx : x ∈ l) => (hl x hx).keep hS1
      have HW1 := Lib.hid hW1
      clear hW1 hr hl
      go_enter Tryz.func82, Tryz.ntmps82
      go_wp2_with (go_at_call 94; refine (rLeaf_any _ _).mono ?_; rintro e w' ⟨rfl, rfl⟩; rw [Hlf.out])
      rw [HW1.out]
      clear hcell hfr
      refine (shape_any k sc A cap len l hrW hlW (by omega) hlen).mono ?_
      rintro e w2 ⟨rfl, hb2⟩
      have hone2 := hone1.below hb2
      have hch2 := hch1.then_below hb2
      have hbox2 := (hb2.cell (p := ⟨w.heap.size, 2, none⟩) hbsz).trans hbox
      have hbsz2 : w.heap.size < w2.heap.size := Nat.lt_of_lt_of_le hbsz hb2.size
      have hS2 : Same B w w2 := hch2.same hB hg
      have hrW2 := hrW.keep (Same.mono (Same.of_below hb2) (by omega))
      have hlW2 := fun x (hx : x ∈ l) => (hlW x hx).keep (Same.mono (Same.of_below hb2) (by omega))
      clear hrW hlW hbox hb2 HW1 hone1 hch1 hone hS1 hS2
      by_cases hs0 : shapeS k sc l = 0
      · have hs0' := Lib.hid hs0
        have H1 : Hid (ckTs (lv + 1) c1 l = r) := by have := H0.out; rw [hs0, if_neg (by simp)] at this; exact this
        rw [hs0]
        clear hs0 H0
        go_wp2
        go_loopw [32] (fun i wr => ∃ (j : Nat) (c' : Int), j ≤ len ∧ i = .int .i64 j ∧ Ch g w wr ∧ One wr g c' ∧ 0 ≤ c' ∧ c' ≤ 40 ∧ wr.cell? ⟨w.heap.size, 2, none⟩ = some (.slice A len cap) ∧ w.heap.size < wr.heap.size ∧ Same B w2 wr ∧ Hid (ckTs (lv + 1) c' (l.drop j) = r)) (fun i _ => len - (intOf i).toNat)
        case atStart => exact ⟨0, c1, Nat.zero_le _, rfl, hch2, hone2, hc10, hc11, hbox2, hbsz2, Same.refl _ _, H1⟩
        case round =>
          obtain ⟨j, c', hj, rfl, hch, hon, hc'0, hc'1, hbx, hbs, hsm, HR⟩ := hrel
          by_cases hlt : j < len
          · obtain ⟨x, ad, hx, rfl, hb, _, _, _, d3, d4, d5⟩ := (hrW2.keep hsm).get (show j < l.length by rw [hlen.out]; exact hlt)
            have hxi := (hlW2 x (mem_of_get? hx)).keep hsm
            have hic := ih x (mem_of_get? hx) (lv + 1) c' g B wr hxi (by omega) hg hon (by omega) (by omega) hc'0 hc'1
            obtain ⟨f, c2, hfc⟩ : ∃ f c2, ckT (lv + 1) c' x = (f, c2) := ⟨_, _, rfl⟩
            have hbd := ckT_bd x (lv + 1) c' hc'0 hc'1
            rw [hfc] at hic hbd
            have hdr := drop_of_get? hx
            have HR2 := HR.out
            rw [hdr] at HR2
            unfold ckTs at HR2
            rw [hfc] at HR2
            have Hic := Lib.hid hic
            have HR3 := Lib.hid HR2
            clear HR2 hic hdr hfc HR hxi hrW2 hlW2 ih hx hbox2
            by_cases hf0 : f = 0
            · subst hf0
              have HR4 : Hid (ckTs (lv + 1) c2 (l.drop (j + 1)) = r) := by have := HR3.out; rw [if_neg (by simp)] at this; exact this
              go_wp2_with (go_at_call 82; refine (Hic.out).mono ?_; rintro e w' ⟨rfl, hch3, hon3⟩)
              go_roundw
              case rel => exact ⟨j + 1, c2, by omega, by go_num, hch.trans hch3, hon3, hbd.1, hbd.2, (hch3.cell (p := ⟨w.heap.size, 2, none⟩) hbs (by simp; omega)).trans hbx, Nat.lt_of_lt_of_le hbs hch3.size, hsm.trans (hch3.same (by have := hch.size; omega) hg), HR4⟩
              case measure => simp [intOf]; omega
            · have HR4 : Hid ((f, c2) = r) := by have := HR3.out; rw [if_pos (by simpa using hf0)] at this; exact this
              have nf : (f != 0) = true := by simpa using hf0
              clear hf0
              go_wp2_with (go_at_call 82; refine (Hic.out).mono ?_; rintro e w' ⟨rfl, hch3, hon3⟩)
              go_ret
              exact ⟨by rw [← HR4.out]; rfl, hch.trans hch3, by rw [← HR4.out]; exact hon3⟩
          · have HR2 : Hid ((0, c') = r) := by have := HR.out; rw [List.drop_eq_nil_of_le (by rw [hlen.out]; omega)] at this; unfold ckTs at this; exact this
            go_wp2
            go_ret
            exact ⟨by rw [← HR2.out]; rfl, hch, by rw [← HR2.out]; exact hon⟩
      · have hs0' : (shapeS k sc l != 0) = true := by simpa using hs0
        have H1 : Hid ((shapeS k sc l, c1) = r) := by have := H0.out; rw [if_pos hs0] at this; exact this
        clear hs0
        go_wp2
        go_ret
        exact ⟨by rw [← H1.out]; rfl, hch2, by rw [← H1.out]; exact hone2⟩
theorem ckT_nonneg : ∀ (t : FT) (lv c : Int), 0 ≤ (ckT lv c t).1 ∧ (ckT lv c t).1 ≤ 7 := by
  refine FT.ind fun a l ih lv c => ?_
  have hsh : 0 ≤ shapeS a.k a.sc l ∧ shapeS a.k a.sc l ≤ 7 := by unfold shapeS; repeat' split <;> omega
  have hs : ∀ (r : List FT), (∀ x, x ∈ r → x ∈ l) → ∀ c, 0 ≤ (ckTs (lv + 1) c r).1 ∧ (ckTs (lv + 1) c r).1 ≤ 7 := by
    intro r
    induction r with
    | nil => intro _ c; simp [ckTs]
    | cons x r ihr =>
      intro hm c
      unfold ckTs
      split
      · exact ih x (hm x (by simp)) (lv + 1) c
      · exact ihr (fun y hy => hm y (by simp [hy])) _
  unfold ckT
  split
  · simp
  split
  · simp
  split
  · exact hsh
  · exact hs l (fun _ h => h) _
/-- What is wrong with a type. -/
def ctS (t : FT) : Int := (ckT 1 0 t).1
set_option maxRecDepth 100000 in
set_option maxHeartbeats 1000000 in
theorem rCheckType_any (t : FT) (B : Nat) (w : World) (hin : FT.In B w t) (hB : B ≤ w.heap.size) :
    Calls Tryz.prog 58 #[.agg #[.int .i64 t.a.k, .int .i64 t.a.sc, .slice t.a.A t.l.length t.a.cap]] w fun e w' => e = .returned (.int .i64 (ctS t)) ∧ Below w.heap.size w w' := by
  have hS1 := fun (o : Obj) (o2 : Obj) (v : Value) => (((Same.refl B w).alloc hB o).alloc (show B ≤ (w.alloc o).heap.size by simp; omega) o2).setCell (p := ⟨w.heap.size + 1, 0, none⟩) (show B ≤ w.heap.size + 1 by omega) v
  have hc := fun (o : Obj) => checkType_any t 1 0 (w.heap.size + 1) B ((w.alloc o).alloc (.cells #[.int .i64 0] 3)) (hin.keep (((Same.refl B w).alloc hB o).alloc (show B ≤ (w.alloc o).heap.size by simp; omega) _)) (by simp; omega) (by omega) (by have := One.new (w.alloc o) 3 0; simpa using this) (by omega) (by omega) (by omega) (by omega)
  have Hc := Lib.hid hc
  clear hc hS1 hin
  go_enter Tryz.func58, Tryz.ntmps58
  go_wp2_with (go_at_call 82; refine (Hc.out _).mono ?_; rintro e w' ⟨rfl, hch, hon⟩)
  go_ret
  refine ⟨rfl, ?_⟩
  have h1 : Ch (w.heap.size + 1) w ((w.alloc (.cells #[.int .i64 t.a.k, .int .i64 t.a.sc, .slice t.a.A t.l.length t.a.cap] 50)).alloc (.cells #[.int .i64 0] 3)) := ((Ch.refl _ w).alloc _).alloc _
  exact (h1.trans hch).below (by omega)
end Go.Proofs.YtkadahfknccjfaaGreatDoor
