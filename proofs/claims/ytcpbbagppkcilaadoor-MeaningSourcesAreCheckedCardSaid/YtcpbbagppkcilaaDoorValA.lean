/-
  Package value: small functions; names.
-/
import Derived.Test.YtcpbbagppkcilaaDoorRefA
import Derived.Test.YtcpbbagppkcilaaDoorLib
import Derived.Test.YtcpbbagppkcilaaDoorUtf
import Derived.Test.YtcpbbagppkcilaaDoorShelf
import Derived.Deep.Light
namespace Go.Proofs.YtcpbbagppkcilaaDoor
open Go.RowKit
theorem toList_empty {s : ByteArray} (h : s.size = 0) : s.toList = [] := by rw [ByteArray.toList_eq]; exact List.eq_nil_of_length_eq_zero h
theorem toList_isEmpty {s : ByteArray} (h : s.size ≠ 0) : s.toList.isEmpty = false := by
  rw [ByteArray.toList_eq]
  cases e : s.data.toList with
  | nil => exact absurd (show s.data.toList.length = 0 by rw [e]; rfl) h
  | cons _ _ => rfl
theorem vwithin_any (n a b : Int) (w : World) :
    Calls Tryd.prog 108 #[.int .i64 n, .int .i64 a, .int .i64 b] w fun e w' => e = .returned (.bool (withinB n a b)) ∧ w = w' := by
  by_cases h1 : a ≤ n <;> by_cases h2 : n ≤ b
  all_goals
    go_enter Tryd.func108, Tryd.ntmps108
    go_wp2
    go_ret
    exact ⟨by simp [withinB, h1, h2], rfl⟩
theorem vleaf_any (k sc : Int) (A : Option Addr) (len cap : Nat) (w : World) :
    Calls Tryd.prog 91 #[.agg #[.int .i64 k, .int .i64 sc, .slice A len cap]] w fun e w' => e = .returned (.bool (leafB k)) ∧ Below w.heap.size w w' := by
  by_cases h6 : k = 6
  · subst h6
    have hf := Lib.hid (show leafB 6 = false by rfl)
    go_enter Tryd.func91, Tryd.ntmps91
    go_wp2
    go_ret
    exact ⟨by rw [hf.out]; rfl, bel1 _ _⟩
  by_cases h7 : k = 7
  · subst h7
    have hf := Lib.hid (show leafB 7 = false by rfl)
    go_enter Tryd.func91, Tryd.ntmps91
    go_wp2
    go_ret
    exact ⟨by rw [hf.out]; rfl, bel1 _ _⟩
  have hf := Lib.hid (show leafB k = true by simp [leafB, h6, h7])
  have n6 : (k != 6) = true := by simpa using h6
  have n7 : (k != 7) = true := by simpa using h7
  clear h6 h7
  go_enter Tryd.func91, Tryd.ntmps91
  go_wp2
  go_ret
  exact ⟨by rw [hf.out]; rfl, bel1 _ _⟩
set_option maxRecDepth 100000 in
set_option maxHeartbeats 1000000 in
theorem vName1_any (r : Nat) (w : World) :
    Calls Tryd.prog 113 #[.int .i32 (r : Int)] w fun e w' => e = .returned (.bool (wrongB r)) ∧ w' = w := by
  obtain ⟨R, hR⟩ : ∃ R, wrongB r = R := ⟨_, rfl⟩
  rw [hR]
  have HR := Lib.hid hR
  clear hR
  have hx : (97 ≤ (r : Int) ∧ (r : Int) ≤ 122) ∨ (95 ≤ (r : Int) ∧ (r : Int) ≤ 95) ∨ (48 ≤ (r : Int) ∧ (r : Int) ≤ 57) ∨ (0 ≤ (r : Int) ∧ (r : Int) < 48) ∨ (57 < (r : Int) ∧ (r : Int) < 95) ∨ (95 < (r : Int) ∧ (r : Int) < 97) ∨ (122 < (r : Int)) := by omega
  rcases hx with ⟨a, b⟩ | ⟨a, b⟩ | ⟨a, b⟩ | ⟨a, b⟩ | ⟨a, b⟩ | ⟨a, b⟩ | a
  · have hf := Lib.hid (show R = false by rw [← HR.out]; simp [wrongB]; omega)
    go_enter Tryd.func113, Tryd.ntmps113
    go_wp2
    go_ret
    exact ⟨by rw [hf.out]; rfl, rfl⟩
  · have hf := Lib.hid (show R = false by rw [← HR.out]; simp [wrongB]; omega)
    have e0 : ((r : Int) != 95) = false := by simp; omega
    go_enter Tryd.func113, Tryd.ntmps113
    go_wp2
    go_ret
    exact ⟨by rw [hf.out]; rfl, rfl⟩
  · have hf := Lib.hid (show R = false by rw [← HR.out]; simp [wrongB]; omega)
    go_enter Tryd.func113, Tryd.ntmps113
    go_wp2
    go_ret
    exact ⟨by rw [hf.out]; rfl, rfl⟩
  all_goals
    have hf := Lib.hid (show R = true by rw [← HR.out]; simp [wrongB]; omega)
    have e0 : ((r : Int) != 95) = true := by simp; omega
    try have e5 : decide (57 < (r : Int)) = true := by simp; omega
    try have e4 : decide ((r : Int) < 48) = true := by simp; omega
    try have e3 : decide ((r : Int) < 48) = false := by simp; omega
    go_enter Tryd.func113, Tryd.ntmps113
    go_wp2
    go_ret
    exact ⟨by rw [hf.out]; rfl, rfl⟩
theorem wrong_pred (w : World) : PredAt Tryd.prog 113 #[] encR wrongB w := fun W r _ => (vName1_any r W).mono fun e w' ⟨he, hw⟩ => ⟨he, 0, hw⟩
set_option maxRecDepth 100000 in
set_option maxHeartbeats 1000000 in
theorem vName_any (s : ByteArray) (w : World) (hs : s.size ≤ maxLen) :
    Calls Tryd.prog 106 #[.string s] w fun e w' => e = .returned (.bool (nameB s)) ∧ Below w.heap.size w w' := by
  unfold maxLen at hs
  have hc := Lib.hid (Tryd.strings_ContainsFunc 113 #[] (enters_of Tryd.func113 (by kernel_rfl) rfl) wrongB s w (wrong_pred w))
  by_cases h0 : s.size = 0
  · have hf := Lib.hid (show nameB s = false by unfold nameB; simp; omega)
    have he : s.toList = [] := toList_empty h0
    go_enter Tryd.func106, Tryd.ntmps106
    go_wp2
    go_ret
    exact ⟨by rw [hf.out]; rfl, Below.refl _ _⟩
  have hne : s.toList.isEmpty = false := toList_isEmpty h0
  by_cases h2 : 24 < s.size
  · have hf := Lib.hid (show nameB s = false by unfold nameB; simp; omega)
    go_enter Tryd.func106, Tryd.ntmps106
    go_wp2
    go_ret
    exact ⟨by rw [hf.out]; rfl, Below.refl _ _⟩
  have h1 : 0 < s.size := by omega
  clear h0
  by_cases ha : (s[0].toNat : Int) < 97
  · have hf := Lib.hid (name_not h1 (show nmB 0 s[0] = false by simp [nmB]; omega))
    go_enter Tryd.func106, Tryd.ntmps106
    go_wp2
    go_ret
    exact ⟨by rw [hf.out]; rfl, Below.refl _ _⟩
  by_cases hz : 122 < (s[0].toNat : Int)
  · have hf := Lib.hid (name_not h1 (show nmB 0 s[0] = false by simp [nmB]; omega))
    go_enter Tryd.func106, Tryd.ntmps106
    go_wp2
    go_ret
    exact ⟨by rw [hf.out]; rfl, Below.refl _ _⟩
  have hf := Lib.hid (name_by_runes s (by omega) (by omega) (by omega) (by omega))
  go_enter Tryd.func106, Tryd.ntmps106
  go_wp2_with fail
  refine hc.out.mono ?_
  rintro e w' ⟨rfl, hb⟩
  go_wp2
  go_ret
  exact ⟨by rw [← hf.out]; rfl, hb⟩
end Go.Proofs.YtcpbbagppkcilaaDoor
