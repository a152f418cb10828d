/-
  Package value: texts.
-/
import Derived.Test.YteeabfdafnncfaaDoorQValAa
import Derived.Test.YteeabfdafnncfaaDoorQRefF
import Derived.Deep.LoopGhost
import Derived.Lib.OthersKept
import Derived.Lib.TrimU
namespace Go.Proofs.YteeabfdafnncfaaDoor
open Go.RowKit
theorem chars_hi (s : ByteArray) (pos : Nat) (_hps : pos < s.size) (hhi : 128 ≤ (s.get! pos).toNat) (h : Hid (∀ i (h : i < s.size), i < pos → chB s[i] = true)) :
    Hid (∀ i (h : i < s.size), i < pos + (Utf8.decode s pos).2 → chB s[i] = true) := by
  intro i hi hj
  by_cases e : i < pos
  · exact h i hi e
  · obtain ⟨q, rfl⟩ : ∃ q, i = pos + q := ⟨i - pos, by omega⟩
    have hd := (dec_hi s pos hhi).2.2 q (by omega)
    have hb : 128 ≤ (s.get! (pos + q)).toNat := by
      rcases hd with rfl | ⟨_, hd⟩
      · simpa using hhi
      · exact hd
    rw [get!_eq s (pos + q) hi] at hb
    simp [chB]
    omega
set_option maxRecDepth 100000 in
set_option maxHeartbeats 2000000 in
theorem vtext_any (s : ByteArray) (B : Nat) (w : World) (hs : s.size ≤ maxLen) (hT : Tabs B w) :
    Calls Tryd.prog 44 #[.string s] w fun e w' => e = .returned (.bool (charsB s)) ∧ Below w.heap.size w w' := by
  unfold maxLen at hs
  by_cases h2 : 256 < s.size
  · have hf := Lib.hid (show charsB s = false by simp [charsB]; omega)
    clear hT
    go_enter Tryd.func44, Tryd.ntmps44
    go_wp2
    go_ret
    exact ⟨by rw [hf.out]; rfl, Below.refl _ _⟩
  have hV := Lib.hid (Tryd.utf8_ValidString s w (by omega) hT.2.2)
  clear hT
  cases hv : Lib.validD s.data.toList
  · have Hv := Lib.hid hv
    have hf := Lib.hid (show charsB s = false by simp [charsB, hv])
    clear hv
    go_enter Tryd.func44, Tryd.ntmps44
    go_wp2_with (go_at_call 56; refine (hV.out).mono ?_; rintro e w' ⟨rfl, hb⟩; rw [Hv.out])
    go_ret
    exact ⟨by rw [hf.out]; rfl, hb⟩
  have Hv := Lib.hid hv
  clear hv
  go_enter Tryd.func44, Tryd.ntmps44
  go_wp2_with fail
  refine hV.out.mono ?_
  rintro e w1 ⟨rfl, hb⟩
  rw [Hv.out]
  go_wp2
  go_loopg [] s.size (fun gf wx => ∃ pos : Nat, wx.heap[w1.heap.size]? = some (.stringIter s pos) ∧ Below w1.heap.size w1 wx ∧ Hid (∀ i (h : i < s.size), i < pos → chB s[i] = true) ∧ s.size ≤ pos + gf)
  case atStart => exact ⟨0, World.iter_heap w1 s 0, (Below.refl _ w1).alloc (Nat.le_refl _) _, fun i _ h => absurd h (by omega), by omega⟩
  case round =>
    obtain ⟨pos, hit, hbw, hall, hfu⟩ := hrel
    by_cases hps : pos < s.size
    · obtain ⟨g', rfl⟩ : ∃ g', gk = g' + 1 := ⟨gk - 1, by omega⟩
      have hnx : ∀ ty, (Instr.next (.pointer (some ⟨w1.heap.size, 0, none⟩)) true ty).run Tryd.prog wr = _ := fun ty => Lib.run_next_any_at wr w1.heap.size s pos ty hit hps
      have hwd := Lib.width_pos s pos
      have hg := get!_eq s pos hps
      by_cases hlo : (s.get! pos).toNat < 128
      · rw [dec_lo s pos hlo] at hnx
        simp only [] at hnx
        rw [hg] at hnx hlo
        have hit2 := Lib.iterAt_heap wr w1.heap.size s pos (pos + 1) hit
        have hbw2 := Lib.below_iterAt hbw (k := w1.heap.size) (Nat.le_refl _) s (pos + 1)
        obtain ⟨W, hWd⟩ : ∃ W, wr.iterAt w1.heap.size s (pos + 1) = W := ⟨_, rfl⟩
        rw [hWd] at hnx hit2 hbw2
        clear hWd hg
        have hx : (0 ≤ (s[pos].toNat : Int) ∧ (s[pos].toNat : Int) < 32) ∨ (32 ≤ (s[pos].toNat : Int) ∧ (s[pos].toNat : Int) < 127) ∨ ((s[pos].toNat : Int) = 127) := by omega
        rcases hx with ⟨a, b⟩ | ⟨a, b⟩ | a
        · have hg := Lib.hid (chars_not hps (show chB s[pos] = false by simp [chB]; omega))
          go_wp2
          go_ret
          exact ⟨by rw [hg.out]; rfl, hb.trans (hbw2.mono hb.size)⟩
        · have hg := Lib.hid (show chB s[pos] = true by simp [chB]; omega)
          have e3 : ((s[pos].toNat : Int) == 127) = false := by simp; omega
          go_wp2
          go_roundg g'
          case measure => omega
          case rel => exact ⟨pos + 1, hit2, hbw2, chars_step hall hg, by omega⟩
        · have hg := Lib.hid (chars_not hps (show chB s[pos] = false by simp [chB]; omega))
          have e3 : ((s[pos].toNat : Int) == 127) = true := by simp; omega
          have a1 : 126 < (s[pos].toNat : Int) := by omega
          clear a
          go_wp2
          go_ret
          exact ⟨by rw [hg.out]; rfl, hb.trans (hbw2.mono hb.size)⟩
      · have hall2 := chars_hi s pos hps (by omega) hall
        have hd := (dec_hi s pos (by omega)).1
        obtain ⟨R, hR⟩ : ∃ R, (Utf8.decode s pos).1 = R := ⟨_, rfl⟩
        obtain ⟨K, hK⟩ : ∃ K, (Utf8.decode s pos).2 = K := ⟨_, rfl⟩
        rw [hR, hK] at hnx
        rw [hK] at hwd hall2
        rw [hR] at hd
        have hit2 := Lib.iterAt_heap wr w1.heap.size s pos (pos + K) hit
        have hbw2 := Lib.below_iterAt hbw (k := w1.heap.size) (Nat.le_refl _) s (pos + K)
        obtain ⟨W, hWd⟩ : ∃ W, wr.iterAt w1.heap.size s (pos + K) = W := ⟨_, rfl⟩
        rw [hWd] at hnx hit2 hbw2
        have hdz : 128 ≤ (R : Int) := by omega
        have e3 : ((R : Int) == 127) = false := by simp; omega
        clear hWd hg hR hK
        go_wp2
        go_roundg g'
        case measure => omega
        case rel => exact ⟨pos + K, hit2, hbw2, hall2, by omega⟩
    · have hnx : ∀ ty, (Instr.next (.pointer (some ⟨w1.heap.size, 0, none⟩)) true ty).run Tryd.prog wr = _ := fun ty => Lib.run_next_end_at wr w1.heap.size s pos ty hit hps
      have hg := Lib.hid (show charsB s = true by
        have h1 := hall.out
        have h3 := Hv.out
        simp only [charsB, Bool.and_eq_true, decide_eq_true_eq]
        exact ⟨⟨h3, by omega⟩, fun i h => h1 i h (by omega)⟩)
      go_wp2
      go_ret
      exact ⟨by rw [hg.out]; rfl, hb.trans (hbw.mono hb.size)⟩
end Go.Proofs.YteeabfdafnncfaaDoor
