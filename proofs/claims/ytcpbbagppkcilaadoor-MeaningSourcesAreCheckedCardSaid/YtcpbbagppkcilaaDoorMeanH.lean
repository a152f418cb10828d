/-
  Package meaning: names of tables: what strings.IndexRune finds in the four signs that a name may hold besides letters and digits.
-/
import Derived.Test.YtcpbbagppkcilaaDoorValA
import Derived.Deep.QuietTactic
import Derived.BigQuiet
import Derived.Deep.LoopGhost
import Derived.Lib.OthersKept
import Derived.Lib.TrimU
import Derived.Laws.Runes
namespace Go.Proofs.YtcpbbagppkcilaaDoor
open Go.RowKit
/-- The four signs. -/
abbrev signs : ByteArray := { data := #[95, 46, 45, 64] }
def signB (r : Nat) : Bool := (r == 95) || (r == 46) || (r == 45) || (r == 64)
/-- What IndexRune comes to. -/
def SignPost (r : Nat) (w : World) (e : Ending) (w' : World) : Prop := ∃ i : Int, e = .returned (.int .i64 i) ∧ decide (i < 0) = !signB r ∧ Below w.heap.size w w'
theorem signs_lo : ∀ r, r < 128 → decide (Lib.indexByte signs.data.toList r.toUInt8 < 0) = !signB r := by decide
set_option maxRecDepth 100000 in
set_option maxHeartbeats 1000000 in
theorem idxRune_lo (r : Nat) (w : World) (h : r < 128) : Calls Tryd.prog 64 #[.string signs, .int .i32 (r : Int)] w (SignPost r w) := by
  refine (Tryd.strings_IndexRune_ascii signs (r : Int) w (by omega) (by omega)).mono fun e w' ⟨he, hw⟩ => ?_
  exact ⟨_, he, signs_lo r h, hw ▸ Below.refl _ _⟩
set_option maxRecDepth 100000 in
set_option maxHeartbeats 1000000 in
theorem idxRune_bad (r : Nat) (w : World) (h : 128 ≤ r) (hu : r ≤ 1114111) (hn : r ≠ 65533) (hv : Lib.validRune (r : Int) = false) : Calls Tryd.prog 64 #[.string signs, .int .i32 (r : Int)] w (SignPost r w) := by
  have hs : Hid (signB r = false) := by show signB r = false; simp [signB]; omega
  have n1 : ((r : Int) == 65533) = false := by simp; omega
  have d1 : decide ((r : Int) < 128) = false := by simp; omega
  have hvr := Lib.hid (Tryd.utf8_ValidRune (r : Int) w)
  have HV := Lib.hid hv
  clear hv hn
  go_enter Tryd.func64, Tryd.ntmps64
  go_wp2_with fail
  refine hvr.out.mono ?_
  rintro e w' ⟨rfl, rfl⟩
  rw [HV.out]
  go_wp2
  go_ret
  exact ⟨_, rfl, by rw [hs.out]; rfl, Below.refl _ _⟩
set_option maxRecDepth 100000 in
theorem signs_hi2 : ∀ c : Nat, c < 256 → 128 ≤ c → Lib.indexByte [45, 64] c.toUInt8 = -1 := by decide
set_option maxRecDepth 100000 in
theorem signs_hi3 : ∀ c : Nat, c < 256 → 128 ≤ c → Lib.indexByte [64] c.toUInt8 = -1 := by decide
set_option maxRecDepth 100000 in
theorem signs_hi4 : ∀ c : Nat, c < 256 → 128 ≤ c → Lib.indexByte [] c.toUInt8 = -1 := by decide
set_option maxRecDepth 100000 in
set_option maxHeartbeats 1000000 in
theorem idxRune_good (r : Nat) (w : World) (h : 128 ≤ r) (hu : r ≤ 1114111) (hn : r ≠ 65533) (hv : Lib.validRune (r : Int) = true) : Calls Tryd.prog 64 #[.string signs, .int .i32 (r : Int)] w (SignPost r w) := by
  have hs : Hid (signB r = false) := by show signB r = false; simp [signB]; omega
  have n1 : ((r : Int) == 65533) = false := by simp; omega
  have d1 : decide ((r : Int) < 128) = false := by simp; omega
  have hvr := Lib.hid (Tryd.utf8_ValidRune (r : Int) w)
  have HV := Lib.hid hv
  have hf := encode_facts (r : Int) (by rw [validRune_eq]; exact hv) (by omega)
  obtain ⟨E, hE⟩ : ∃ E, Utf8.encode (r : Int) = E := ⟨_, rfl⟩
  rw [hE] at hf
  obtain ⟨f1, f2, f3⟩ := hf
  clear hv hn
  have hx : E.size = 2 ∨ E.size = 3 ∨ E.size = 4 := by omega
  rcases hx with hx | hx | hx
  · simp only [hx] at f3
    obtain ⟨c, hc⟩ : ∃ c : Nat, (E[1]'(by omega)).toNat = c := ⟨_, rfl⟩
    have f4 : 128 ≤ c := by rw [← hc]; exact f3 (by omega)
    have f5 : c < 256 := by rw [← hc]; exact UInt8.toNat_lt _
    have e1 : ((46 : Int) != (c : Int)) = true := by simp; omega
    have g1 : (signs[1]'(by decide)).toNat = 46 := rfl
    have hix := Lib.hid (fun W => Tryd.strings_IndexByte (signs.extract (1 + 1) 4) (c : Int) W)
    have Hib : Hid (Lib.indexByte (signs.extract (1 + 1) 4).data.toList (c : Int).toNat.toUInt8 = -1) := signs_hi2 c f5 f4
    clear f1 f2 f3
    go_enter Tryd.func64, Tryd.ntmps64
    go_wp2_with fail
    refine hvr.out.mono ?_
    rintro e w' ⟨rfl, rfl⟩
    rw [HV.out]
    go_wp2
    go_step3
    go_wp2
    refine wp_loop_rounds 1 ?_
    rw [rounds_succ]
    go_wp2
    go_step3
    go_wp2
    go_quiet (fail)
    generalize hw2 : World.drewN _ _ = w2
    have hb2 : Below w'.heap.size w' w2 := by rw [← hw2]; exact below_drewNg _ _
    clear hw2
    go_wp2
    go_quiet ((go_at_call 84; exact Calls.quiet_of_same (hix.out _)))
    rw [Hib.out]
    generalize hw3 : World.drewN _ _ = w3
    have hb3 : Below w'.heap.size w' w3 := by rw [← hw3]; exact hb2.trans ((below_drewNg _ _).mono hb2.size)
    clear hw3
    go_wp2
    try rw [Exit.noGoto_ret]
    go_ret
    exact ⟨_, rfl, by rw [hs.out]; rfl, hb3⟩
  · simp only [hx] at f3
    obtain ⟨c, hc⟩ : ∃ c : Nat, (E[2]'(by omega)).toNat = c := ⟨_, rfl⟩
    have f4 : 128 ≤ c := by rw [← hc]; exact f3 (by omega)
    have f5 : c < 256 := by rw [← hc]; exact UInt8.toNat_lt _
    have e1 : ((45 : Int) != (c : Int)) = true := by simp; omega
    have g1 : (signs[2]'(by decide)).toNat = 45 := rfl
    have hix := Lib.hid (fun W => Tryd.strings_IndexByte (signs.extract (2 + 1) 4) (c : Int) W)
    have Hib : Hid (Lib.indexByte (signs.extract (2 + 1) 4).data.toList (c : Int).toNat.toUInt8 = -1) := signs_hi3 c f5 f4
    clear f1 f2 f3
    go_enter Tryd.func64, Tryd.ntmps64
    go_wp2_with fail
    refine hvr.out.mono ?_
    rintro e w' ⟨rfl, rfl⟩
    rw [HV.out]
    go_wp2
    go_step3
    go_wp2
    refine wp_loop_rounds 1 ?_
    rw [rounds_succ]
    go_wp2
    go_step3
    go_wp2
    go_quiet (fail)
    generalize hw2 : World.drewN _ _ = w2
    have hb2 : Below w'.heap.size w' w2 := by rw [← hw2]; exact below_drewNg _ _
    clear hw2
    go_wp2
    go_quiet ((go_at_call 84; exact Calls.quiet_of_same (hix.out _)))
    rw [Hib.out]
    generalize hw3 : World.drewN _ _ = w3
    have hb3 : Below w'.heap.size w' w3 := by rw [← hw3]; exact hb2.trans ((below_drewNg _ _).mono hb2.size)
    clear hw3
    go_wp2
    try rw [Exit.noGoto_ret]
    go_ret
    exact ⟨_, rfl, by rw [hs.out]; rfl, hb3⟩
  · simp only [hx] at f3
    obtain ⟨c, hc⟩ : ∃ c : Nat, (E[3]'(by omega)).toNat = c := ⟨_, rfl⟩
    have f4 : 128 ≤ c := by rw [← hc]; exact f3 (by omega)
    have f5 : c < 256 := by rw [← hc]; exact UInt8.toNat_lt _
    have e1 : ((64 : Int) != (c : Int)) = true := by simp; omega
    have g1 : (signs[3]'(by decide)).toNat = 64 := rfl
    have hix := Lib.hid (fun W => Tryd.strings_IndexByte (signs.extract (3 + 1) 4) (c : Int) W)
    have Hib : Hid (Lib.indexByte (signs.extract (3 + 1) 4).data.toList (c : Int).toNat.toUInt8 = -1) := signs_hi4 c f5 f4
    clear f1 f2 f3
    go_enter Tryd.func64, Tryd.ntmps64
    go_wp2_with fail
    refine hvr.out.mono ?_
    rintro e w' ⟨rfl, rfl⟩
    rw [HV.out]
    go_wp2
    go_step3
    go_wp2
    refine wp_loop_rounds 1 ?_
    rw [rounds_succ]
    go_wp2
    go_step3
    go_wp2
    go_quiet (fail)
    generalize hw2 : World.drewN _ _ = w2
    have hb2 : Below w'.heap.size w' w2 := by rw [← hw2]; exact below_drewNg _ _
    clear hw2
    go_wp2
    go_quiet ((go_at_call 84; exact Calls.quiet_of_same (hix.out _)))
    rw [Hib.out]
    generalize hw3 : World.drewN _ _ = w3
    have hb3 : Below w'.heap.size w' w3 := by rw [← hw3]; exact hb2.trans ((below_drewNg _ _).mono hb2.size)
    clear hw3
    go_wp2
    try rw [Exit.noGoto_ret]
    go_ret
    exact ⟨_, rfl, by rw [hs.out]; rfl, hb3⟩
set_option maxRecDepth 100000 in
set_option maxHeartbeats 1000000 in
theorem idxRune_err (w : World) : Calls Tryd.prog 64 #[.string signs, .int .i32 65533] w (SignPost 65533 w) := by
  have hs : Hid (signB 65533 = false) := rfl
  have hsz : signs.size = 4 := rfl
  have hlo : ∀ i, i < 4 → (signs.get! i).toNat < 128 := by decide
  have Hlo := Lib.hid hlo
  obtain ⟨s, hS⟩ : ∃ s, signs = s := ⟨_, rfl⟩
  rw [hS] at Hlo hsz ⊢
  clear hlo hS
  go_enter Tryd.func64, Tryd.ntmps64
  go_wp2
  go_loopg [] s.size (fun gf wx => ∃ pos : Nat, wx.heap[w.heap.size]? = some (.stringIter s pos) ∧ Below w.heap.size w wx ∧ s.size ≤ pos + gf)
  case atStart => exact ⟨0, World.iter_heap w s 0, (Below.refl _ w).alloc (Nat.le_refl _) _, by omega⟩
  case round =>
    obtain ⟨pos, hit, hbw, hfu⟩ := hrel
    by_cases hps : pos < s.size
    · obtain ⟨g', rfl⟩ : ∃ g', gk = g' + 1 := ⟨gk - 1, by omega⟩
      have hnx : ∀ ty, (Instr.next (.pointer (some ⟨w.heap.size, 0, none⟩)) true ty).run Tryd.prog wr = _ := fun ty => Lib.run_next_any_at wr w.heap.size s pos ty hit hps
      have hl := Hlo.out pos (by omega)
      rw [dec_lo s pos hl] at hnx
      simp only [] at hnx
      obtain ⟨c, hc⟩ : ∃ c : Nat, (s.get! pos).toNat = c := ⟨_, rfl⟩
      rw [hc] at hnx hl
      have hit2 := Lib.iterAt_heap wr w.heap.size s pos (pos + 1) hit
      have hbw2 := Lib.below_iterAt hbw (k := w.heap.size) (Nat.le_refl _) s (pos + 1)
      obtain ⟨W, hWd⟩ : ∃ W, wr.iterAt w.heap.size s (pos + 1) = W := ⟨_, rfl⟩
      rw [hWd] at hnx hit2 hbw2
      have e3 : ((c : Int) == 65533) = false := by simp; omega
      clear hWd hc
      go_wp2
      go_roundg g'
      case measure => omega
      case rel => exact ⟨pos + 1, hit2, hbw2, by omega⟩
    · have hnx : ∀ ty, (Instr.next (.pointer (some ⟨w.heap.size, 0, none⟩)) true ty).run Tryd.prog wr = _ := fun ty => Lib.run_next_end_at wr w.heap.size s pos ty hit hps
      go_wp2
      try rw [Exit.noGoto_ret]
      go_ret
      exact ⟨_, rfl, by rw [hs.out]; rfl, hbw⟩
theorem idxRune_any (r : Nat) (w : World) (hu : r ≤ 1114111) : Calls Tryd.prog 64 #[.string signs, .int .i32 (r : Int)] w (SignPost r w) := by
  by_cases h : r < 128
  · exact idxRune_lo r w h
  by_cases hn : r = 65533
  · subst hn; exact idxRune_err w
  cases hv : Lib.validRune (r : Int)
  · exact idxRune_bad r w (by omega) hu hn hv
  · exact idxRune_good r w (by omega) hu hn hv
end Go.Proofs.YtcpbbagppkcilaaDoor
