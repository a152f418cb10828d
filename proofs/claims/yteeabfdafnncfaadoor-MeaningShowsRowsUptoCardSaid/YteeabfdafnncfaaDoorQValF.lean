/-
  Package value: a value without its items.
-/
import Derived.Test.YteeabfdafnncfaaDoorQValE
namespace Go.Proofs.YteeabfdafnncfaaDoor
open Go.RowKit
theorem cast_beq (len : Nat) : ((len : Int) == 0) = (len == 0) := by
  rw [Bool.eq_iff_iff]
  simp
theorem text_box {w w' : World} {a b c d e : Value} {t : TypeId} (hb : Below (w.alloc (.cells #[a, b, c, d, e] t)).heap.size (w.alloc (.cells #[a, b, c, d, e] t)) w') : w'.cell? ⟨w.heap.size, 4, none⟩ = some e := by
  rw [hb.cell (p := ⟨w.heap.size, 4, none⟩) (by simp), cell_new]
  rfl
set_option maxRecDepth 100000 in
set_option maxHeartbeats 8000000 in
theorem vplain_any (k n sc : Int) (s : ByteArray) (A : Option Addr) (len cap B : Nat) (w : World) (hl : len ≤ maxLen) (hs : s.size ≤ maxLen) (hB : B ≤ w.heap.size) (hT : Tabs B w) :
    Calls Tryd.prog 29 #[.agg #[.int .i64 k, .int .i64 n, .int .i64 sc, .string s, .slice A len cap]] w fun e w' => e = .returned (.bool (aloneS k n sc s len)) ∧ Below w.heap.size w w' := by
  have hC := Lib.hid fun o => vtext_any s B (w.alloc o) hs (hT.keep ((Same.refl B w).alloc hB o))
  unfold maxLen at hl
  clear hs hT
  have hbw : ∀ o, Below w.heap.size w (w.alloc o) := fun o => (Below.refl _ _).alloc (Nat.le_refl _) _
  obtain ⟨R, hR⟩ : ∃ R, aloneS k n sc s len = R := ⟨_, rfl⟩
  rw [hR]
  have HR := Lib.hid hR
  clear hR
  go_enter Tryd.func29, Tryd.ntmps29
  go_wp2_with (first | (go_at_call 43; refine (vwithin_any _ _ _ _).mono ?_; rintro e w' ⟨rfl, rfl⟩) | (go_at_call 44; refine (hC.out _).mono ?_; rintro e w' ⟨rfl, hb⟩; have hq := text_box hb))
  all_goals
    go_ret
    refine ⟨?_, by first | exact hbw _ | exact (hbw _).trans (hb.mono (by simp))⟩
    rw [← HR.out]
    go_light
    simp_all [aloneS] <;> first | omega | exact cast_beq _
end Go.Proofs.YteeabfdafnncfaaDoor
