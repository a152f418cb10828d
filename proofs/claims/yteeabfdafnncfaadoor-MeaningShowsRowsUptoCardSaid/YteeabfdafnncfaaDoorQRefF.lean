/-
  The reference of package value: texts, and values without their items.
-/
import Derived.Test.YteeabfdafnncfaaDoorQData3
import Derived.Test.YteeabfdafnncfaaDoorQRefA0
import Derived.Test.YteeabfdafnncfaaDoorQShelfV
namespace Go.Proofs.YteeabfdafnncfaaDoor
open Go.RowKit
/-- The two tables of unicode/utf8 lie below B as their initialisers lay them. -/
def Tabs (B : Nat) (w : World) : Prop := 1 < B ∧ 2 < B ∧ Lib.Utf8Tabs 1 2 w
theorem Tabs.keep {B : Nat} {w w' : World} (h : Tabs B w) (hs : Same B w w') : Tabs B w' := by
  obtain ⟨h1, h2, h3, h4⟩ := h
  refine ⟨h1, h2, fun c hc => ?_, fun i hi => ⟨?_, ?_⟩⟩
  · rw [hs.cell (p := ⟨1, c, none⟩) h1]; exact h3 c hc
  · rw [hs.cell (p := ⟨2, 2 * i, none⟩) h2]; exact (h4 i hi).1
  · rw [hs.cell (p := ⟨2, 2 * i + 1, none⟩) h2]; exact (h4 i hi).2
theorem chars_not {s : ByteArray} {j : Nat} (hlt : j < s.size) (hg : chB s[j] = false) : charsB s = false := by
  rw [Bool.eq_false_iff]
  intro h
  simp only [charsB, Bool.and_eq_true, decide_eq_true_eq] at h
  rw [h.2 j hlt] at hg
  cases hg
theorem chars_step {s : ByteArray} {j : Nat} {hlt : j < s.size} (h : Hid (∀ i (h : i < s.size), i < j → chB s[i] = true)) (hg : Hid (chB s[j] = true)) : Hid (∀ i (h : i < s.size), i < j + 1 → chB s[i] = true) := by
  intro i hi hj
  by_cases e : i = j
  · subst e; exact hg
  · exact h i hi (by omega)
set_option maxRecDepth 100000 in
set_option maxHeartbeats 1000000 in
theorem rcharacters_any (s : ByteArray) (B : Nat) (w : World) (hs : s.size ≤ maxLen) (hT : Tabs B w) :
    Calls Tryd.prog 54 #[.string s] w fun e w' => e = .returned (.bool (charsB s)) ∧ Below w.heap.size w w' := by
  unfold maxLen at hs
  have hV := Lib.hid (Tryd.utf8_ValidString s w (by omega) hT.2.2)
  cases hv : Lib.validD s.data.toList
  · have Hv := Lib.hid hv
    have hf := Lib.hid (show charsB s = false by simp [charsB, hv])
    clear hv hT
    go_enter Tryd.func54, Tryd.ntmps54
    go_wp2_with (go_at_call 56; refine (hV.out).mono ?_; rintro e w' ⟨rfl, hb⟩; rw [Hv.out])
    go_ret
    exact ⟨by rw [hf.out]; rfl, hb⟩
  · have Hv := Lib.hid hv
    by_cases h2 : 256 < s.size
    · have hf := Lib.hid (show charsB s = false by simp [charsB]; omega)
      clear hv hT
      go_enter Tryd.func54, Tryd.ntmps54
      go_wp2_with (go_at_call 56; refine (hV.out).mono ?_; rintro e w' ⟨rfl, hb⟩; rw [Hv.out])
      go_ret
      exact ⟨by rw [hf.out]; rfl, hb⟩
    · clear hv hT
      go_enter Tryd.func54, Tryd.ntmps54
      go_wp2_with (go_at_call 56; refine (hV.out).mono ?_; rintro e w' ⟨rfl, hb⟩; rw [Hv.out])
      go_loop [3] (fun i => ∃ j : Nat, j ≤ s.size ∧ i = .int .i64 j ∧ Hid (∀ i (h : i < s.size), i < j → chB s[i] = true)) (fun i => s.size - (intOf i).toNat)
      case atStart => exact ⟨0, Nat.zero_le _, rfl, fun i _ h => absurd h (by omega)⟩
      case round =>
        obtain ⟨j, hj, rfl, hall⟩ := hrel
        by_cases hlt : j < s.size
        · have hx : (0 ≤ (s[j].toNat : Int) ∧ (s[j].toNat : Int) < 32) ∨ (32 ≤ (s[j].toNat : Int) ∧ (s[j].toNat : Int) < 127) ∨ (127 < (s[j].toNat : Int) ∧ (s[j].toNat : Int) < 256) ∨ ((s[j].toNat : Int) = 127) := by
            have := s[j].toNat_lt
            omega
          rcases hx with ⟨a, b⟩ | ⟨a, b⟩ | ⟨a, b⟩ | a
          · have hg := Lib.hid (chars_not (by omega) (show chB s[j] = false by simp [chB]; omega))
            go_wp2
            go_ret
            exact ⟨by rw [hg.out]; rfl, hb⟩
          · have hg := Lib.hid (show chB s[j] = true by simp [chB]; omega)
            have e3 : ((s[j].toNat : Int) == 127) = false := by simp; omega
            go_wp2
            go_round
            case rel => exact ⟨j + 1, by omega, by go_num, chars_step hall hg⟩
            case measure => simp [intOf]; omega
          · have hg := Lib.hid (show chB s[j] = true by simp [chB]; omega)
            have e3 : ((s[j].toNat : Int) == 127) = false := by simp; omega
            go_wp2
            go_round
            case rel => exact ⟨j + 1, by omega, by go_num, chars_step hall hg⟩
            case measure => simp [intOf]; omega
          · have hg := Lib.hid (chars_not (by omega) (show chB s[j] = false by simp [chB]; omega))
            have e3 : ((s[j].toNat : Int) == 127) = true := by simp; omega
            have a1 : 126 < (s[j].toNat : Int) := by omega
            clear a
            go_wp2
            go_ret
            exact ⟨by rw [hg.out]; rfl, hb⟩
        · have hg := Lib.hid (show charsB s = true by
            have h1 := hall.out
            have h3 := Hv.out
            simp only [charsB, Bool.and_eq_true, decide_eq_true_eq]
            exact ⟨⟨h3, by omega⟩, fun i h => h1 i h (by omega)⟩)
          go_wp2
          go_ret
          exact ⟨by rw [hg.out]; rfl, hb⟩
end Go.Proofs.YteeabfdafnncfaaDoor
