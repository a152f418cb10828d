/-
  Names of tables, of package meaning and of its reference.
-/
import Derived.Test.YtcpbbagppkcilaaDoorMeanH
namespace Go.Proofs.YtcpbbagppkcilaaDoor
open Go.RowKit
/-- What tableName looks for. -/
def wrongT (r : Nat) : Bool := (decide (r < 97) || decide (122 < r)) && (decide (r < 48) || decide (57 < r)) && !signB r
/-- Is it a name of a table? -/
def tableB (s : ByteArray) : Bool := decide (1 ≤ s.size) && decide (s.size ≤ 60) && decide (∀ i (h : i < s.size), wrongT s[i].toNat = false)
set_option maxRecDepth 100000 in
set_option maxHeartbeats 1000000 in
theorem mtable1_any (r : Nat) (w : World) (hu : r ≤ 1114111) :
    Calls Tryd.prog 63 #[.int .i32 (r : Int)] w fun e w' => e = .returned (.bool (wrongT r)) ∧ Below w.heap.size w w' := by
  have hx : (97 ≤ (r : Int) ∧ (r : Int) ≤ 122) ∨ (48 ≤ (r : Int) ∧ (r : Int) ≤ 57) ∨ (0 ≤ (r : Int) ∧ (r : Int) < 48) ∨ (57 < (r : Int) ∧ (r : Int) < 97) ∨ (122 < (r : Int)) := by omega
  rcases hx with ⟨a, b⟩ | ⟨a, b⟩ | ⟨a, b⟩ | ⟨a, b⟩ | a
  · have hf := Lib.hid (show wrongT r = false by simp [wrongT]; omega)
    go_enter Tryd.func63, Tryd.ntmps63
    go_wp2
    go_ret
    exact ⟨by rw [hf.out]; rfl, Below.refl _ _⟩
  · have hf := Lib.hid (show wrongT r = false by simp [wrongT]; omega)
    go_enter Tryd.func63, Tryd.ntmps63
    go_wp2
    go_ret
    exact ⟨by rw [hf.out]; rfl, Below.refl _ _⟩
  all_goals
    have hf : Hid (wrongT r = !signB r) := by
      show wrongT r = !signB r
      unfold wrongT
      rw [show ((decide (r < 97) || decide (122 < r)) && (decide (r < 48) || decide (57 < r))) = true by simp; omega]
      rfl
    have hir := Lib.hid (idxRune_any r w hu)
    try have e5 : decide (57 < (r : Int)) = true := by simp; omega
    try have e4 : decide ((r : Int) < 48) = true := by simp; omega
    try have e3 : decide ((r : Int) < 48) = false := by simp; omega
    go_enter Tryd.func63, Tryd.ntmps63
    go_wp2_with fail
    refine hir.out.mono ?_
    rintro e w' ⟨i, rfl, hd, hb⟩
    have Hd := Lib.hid hd
    clear hd
    go_wp2
    go_ret
    exact ⟨by rw [hf.out, ← Hd.out]; rfl, hb⟩
theorem wrongT_pred (w : World) : PredGrows Tryd.prog 63 #[] wrongT w := fun W r hr _ => mtable1_any r W hr
set_option maxRecDepth 100000 in
set_option maxHeartbeats 1000000 in
theorem mtableName_any (s : ByteArray) (w : World) (hs : s.size ≤ maxLen) :
    Calls Tryd.prog 37 #[.string s] w fun e w' => e = .returned (.bool (tableB s)) ∧ Below w.heap.size w w' := by
  unfold maxLen at hs
  have hc := Lib.hid (Tryd.strings_ContainsFunc_grows 63 #[] (enters_of Tryd.func63 (by kernel_rfl) rfl) wrongT s w (wrongT_pred w))
  by_cases h0 : s.size < 1
  · have hf := Lib.hid (show tableB s = false by unfold tableB; simp; omega)
    go_enter Tryd.func37, Tryd.ntmps37
    go_wp2
    go_ret
    exact ⟨by rw [hf.out]; rfl, Below.refl _ _⟩
  by_cases h2 : 60 < s.size
  · have hf := Lib.hid (show tableB s = false by unfold tableB; simp; omega)
    go_enter Tryd.func37, Tryd.ntmps37
    go_wp2
    go_ret
    exact ⟨by rw [hf.out]; rfl, Below.refl _ _⟩
  have hf : Hid ((!decide (0 ≤ Lib.idxFunc wrongT true s)) = tableB s) := by
    show _ = _
    rw [idx_bad wrongT (fun r hr => by simp [wrongT, signB]; omega), Bool.not_not]
    unfold tableB
    rw [decide_eq_true (show 1 ≤ s.size by omega), decide_eq_true (show s.size ≤ 60 by omega), Bool.true_and, Bool.true_and]
  go_enter Tryd.func37, Tryd.ntmps37
  go_wp2_with fail
  refine hc.out.mono ?_
  rintro e w' ⟨rfl, hb⟩
  go_wp2
  go_ret
  exact ⟨by rw [← hf.out]; rfl, hb⟩
theorem tableB_not {s : ByteArray} {i : Nat} (h : i < s.size) (hw : wrongT s[i].toNat = true) : tableB s = false := by
  unfold tableB
  rw [show decide (∀ i (h : i < s.size), wrongT s[i].toNat = false) = false from decide_eq_false fun hall => by rw [hall i h] at hw; cases hw]
  simp
/-- The first signs are right. -/
def TabTo (s : ByteArray) (j : Nat) : Prop := ∀ i (h : i < s.size), i < j → wrongT s[i].toNat = false
theorem TabTo.step {s : ByteArray} {j : Nat} (h : TabTo s j) (hj : j < s.size) (hw : wrongT s[j].toNat = false) : TabTo s (j + 1) := fun i hi hij => by
  by_cases e : i = j
  · subst e; exact hw
  · exact h i hi (by omega)
set_option maxRecDepth 100000 in
set_option maxHeartbeats 2000000 in
theorem rTableName_any (s : ByteArray) (w : World) (hs : s.size ≤ maxLen) :
    Calls Tryd.prog 40 #[.string s] w fun e w' => e = .returned (.bool (tableB s)) ∧ w = w' := by
  unfold maxLen at hs
  by_cases h0 : s.size < 1
  · have hf := Lib.hid (show tableB s = false by unfold tableB; simp; omega)
    go_enter Tryd.func40, Tryd.ntmps40
    go_wp2
    go_ret
    exact ⟨by rw [hf.out]; rfl, rfl⟩
  by_cases h2 : 60 < s.size
  · have hf := Lib.hid (show tableB s = false by unfold tableB; simp; omega)
    go_enter Tryd.func40, Tryd.ntmps40
    go_wp2
    go_ret
    exact ⟨by rw [hf.out]; rfl, rfl⟩
  go_enter Tryd.func40, Tryd.ntmps40
  go_wp2
  go_loop [16] (fun i => ∃ j : Nat, j ≤ s.size ∧ i = .int .i64 j ∧ TabTo s j) (fun i => s.size - (intOf i).toNat)
  case atStart => exact ⟨0, Nat.zero_le _, rfl, fun i _ h => absurd h (by omega)⟩
  case round =>
    obtain ⟨j, hj, rfl, ht⟩ := hrel
    by_cases hlt : j < s.size
    · obtain ⟨c, hc⟩ : ∃ c : Nat, s[j].toNat = c := ⟨_, rfl⟩
      have hstep : Hid (wrongT c = false → TabTo s (j + 1)) := fun h => ht.step hlt (by rw [hc]; exact h)
      have hnot : Hid (wrongT c = true → tableB s = false) := fun h => tableB_not hlt (by rw [hc]; exact h)
      clear ht
      have hx : (97 ≤ (c : Int) ∧ (c : Int) ≤ 122) ∨ (48 ≤ (c : Int) ∧ (c : Int) ≤ 57) ∨ ((c : Int) = 95) ∨ ((c : Int) = 46) ∨ ((c : Int) = 45) ∨ ((c : Int) = 64) ∨ (((c : Int) < 48 ∨ (57 < (c : Int) ∧ (c : Int) < 97) ∨ 122 < (c : Int)) ∧ (c : Int) ≠ 95 ∧ (c : Int) ≠ 46 ∧ (c : Int) ≠ 45 ∧ (c : Int) ≠ 64) := by omega
      rcases hx with ⟨a, b⟩ | ⟨a, b⟩ | a | a | a | a | ⟨a, b1, b2, b3, b4⟩
      · have H := Lib.hid (hstep.out (by simp [wrongT]; omega))
        clear hstep hnot
        go_wp2
        go_round
        case rel => exact ⟨j + 1, by omega, by go_num, H.out⟩
        case measure => simp [intOf]; omega
      · have H := Lib.hid (hstep.out (by simp [wrongT]; omega))
        clear hstep hnot
        go_wp2
        go_round
        case rel => exact ⟨j + 1, by omega, by go_num, H.out⟩
        case measure => simp [intOf]; omega
      · have H := Lib.hid (hstep.out (by simp [wrongT, signB]; omega))
        clear hstep hnot
        obtain rfl : c = 95 := by omega
        go_wp2
        go_round
        case rel => exact ⟨j + 1, by omega, by go_num, H.out⟩
        case measure => simp [intOf]; omega
      · have H := Lib.hid (hstep.out (by simp [wrongT, signB]; omega))
        clear hstep hnot
        obtain rfl : c = 46 := by omega
        go_wp2
        go_round
        case rel => exact ⟨j + 1, by omega, by go_num, H.out⟩
        case measure => simp [intOf]; omega
      · have H := Lib.hid (hstep.out (by simp [wrongT, signB]; omega))
        clear hstep hnot
        obtain rfl : c = 45 := by omega
        go_wp2
        go_round
        case rel => exact ⟨j + 1, by omega, by go_num, H.out⟩
        case measure => simp [intOf]; omega
      · have H := Lib.hid (hstep.out (by simp [wrongT, signB]; omega))
        clear hstep hnot
        obtain rfl : c = 64 := by omega
        go_wp2
        go_round
        case rel => exact ⟨j + 1, by omega, by go_num, H.out⟩
        case measure => simp [intOf]; omega
      · have hf := Lib.hid (hnot.out (by simp [wrongT, signB]; omega))
        clear hstep hnot
        have n1 : ((c : Int) != 95) = true := by simpa using b1
        have n2 : ((c : Int) != 46) = true := by simpa using b2
        have n3 : ((c : Int) != 45) = true := by simpa using b3
        have n4 : ((c : Int) != 64) = true := by simpa using b4
        clear b1 b2 b3 b4
        rcases a with a | ⟨a, a'⟩ | a
        all_goals
          try have d57 : decide ((c : Int) ≤ 57) = false := by simp; omega
          try have d122 : decide ((c : Int) ≤ 122) = false := by simp; omega
          go_wp2
          go_ret
          exact ⟨by rw [hf.out]; rfl, rfl⟩
    · have hf : Hid (tableB s = true) := by
        show _ = _
        unfold tableB
        rw [decide_eq_true (show 1 ≤ s.size by omega), decide_eq_true (show s.size ≤ 60 by omega), Bool.true_and, Bool.true_and]
        exact decide_eq_true fun i h => ht i h (by omega)
      clear ht
      go_wp2
      go_ret
      exact ⟨by rw [hf.out]; rfl, rfl⟩
theorem rTableName_below (s : ByteArray) (w : World) (hs : s.size ≤ maxLen) :
    Calls Tryd.prog 40 #[.string s] w fun e w' => e = .returned (.bool (tableB s)) ∧ Below w.heap.size w w' := (rTableName_any s w hs).mono fun _ _ ⟨he, hw⟩ => ⟨he, hw ▸ Below.refl _ _⟩
end Go.Proofs.YtcpbbagppkcilaaDoor
