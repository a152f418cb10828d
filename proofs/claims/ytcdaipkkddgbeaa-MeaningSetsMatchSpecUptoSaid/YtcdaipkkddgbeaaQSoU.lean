/-
  Package value: two values compared, kind by kind.
-/
import Derived.Test.YtcdaipkkddgbeaaQSoT
import Derived.Deep.DeepCutAuto
namespace Go.Proofs.Ytcdaipkkddgbeaa
open Go.RowKit
theorem below_drewNk (w : World) (q : Nat) : Below w.heap.size w (w.drewN q) := ⟨rfl, rfl, rfl, Nat.le_refl _, fun _ _ => rfl⟩
theorem within_sc (sc : Int) (w : World) : Calls Try.prog 44 #[.int .i64 sc, .int .i64 0, .int .i64 12] w fun e w' => e = .returned (.bool (inSc sc)) ∧ w' = w := within_any sc 0 12 w
set_option maxRecDepth 100000 in
set_option maxHeartbeats 2000000 in
theorem vcmp_diff (k n sc k2 n2 sc2 : Int) (s t : ByteArray) (A A2 : Option Addr) (len len2 cap cap2 : Nat) (w : World) (hne : ¬ k = k2) :
    Calls Try.prog 37 #[.agg #[.int .i64 k, .int .i64 n, .int .i64 sc, .string s, .slice A len cap], .agg #[.int .i64 k2, .int .i64 n2, .int .i64 sc2, .string t, .slice A2 len2 cap2]] w fun e w' => e = .returned (.int .i64 (kC k k2)) ∧ Below w.heap.size w w' := by
  obtain ⟨W0, hW0⟩ : ∃ W0, (w.alloc (.cells #[.int .i64 k, .int .i64 n, .int .i64 sc, .string s, .slice A len cap] 33)).alloc (.cells #[.int .i64 k2, .int .i64 n2, .int .i64 sc2, .string t, .slice A2 len2 cap2] 33) = W0 := ⟨_, rfl⟩
  have hbw : Below w.heap.size w W0 := by rw [← hW0]; exact ((Below.refl _ _).alloc (Nat.le_refl _) _).alloc (by simp) _
  have hz0 : W0.heap.size = w.heap.size + 2 := by rw [← hW0]; simp
  have p0 : W0.cell? ⟨w.heap.size, 0, none⟩ = some (.int .i64 k) := by rw [← hW0]; simp
  have p1 : W0.cell? ⟨w.heap.size, 1, none⟩ = some (.int .i64 n) := by rw [← hW0]; simp
  have p2 : W0.cell? ⟨w.heap.size, 2, none⟩ = some (.int .i64 sc) := by rw [← hW0]; simp
  have p3 : W0.cell? ⟨w.heap.size, 3, none⟩ = some (.string s) := by rw [← hW0]; simp
  have p4 : W0.cell? ⟨w.heap.size, 4, none⟩ = some (.slice A len cap) := by rw [← hW0]; simp
  have q0 : W0.cell? ⟨w.heap.size + 1, 0, none⟩ = some (.int .i64 k2) := by rw [← hW0]; simp
  have q1 : W0.cell? ⟨w.heap.size + 1, 1, none⟩ = some (.int .i64 n2) := by rw [← hW0]; simp
  have q2 : W0.cell? ⟨w.heap.size + 1, 2, none⟩ = some (.int .i64 sc2) := by rw [← hW0]; simp
  have q3 : W0.cell? ⟨w.heap.size + 1, 3, none⟩ = some (.string t) := by rw [← hW0]; simp
  have q4 : W0.cell? ⟨w.heap.size + 1, 4, none⟩ = some (.slice A2 len2 cap2) := by rw [← hW0]; simp
  have hk : Hid (∀ W, Below W0.heap.size W0 W → Below W0.heap.size W0 W ∧ W.cell? ⟨w.heap.size, 0, none⟩ = some (.int .i64 k) ∧ W.cell? ⟨w.heap.size, 1, none⟩ = some (.int .i64 n) ∧ W.cell? ⟨w.heap.size, 2, none⟩ = some (.int .i64 sc) ∧ W.cell? ⟨w.heap.size, 3, none⟩ = some (.string s) ∧ W.cell? ⟨w.heap.size, 4, none⟩ = some (.slice A len cap) ∧ W.cell? ⟨w.heap.size + 1, 0, none⟩ = some (.int .i64 k2) ∧ W.cell? ⟨w.heap.size + 1, 1, none⟩ = some (.int .i64 n2) ∧ W.cell? ⟨w.heap.size + 1, 2, none⟩ = some (.int .i64 sc2) ∧ W.cell? ⟨w.heap.size + 1, 3, none⟩ = some (.string t) ∧ W.cell? ⟨w.heap.size + 1, 4, none⟩ = some (.slice A2 len2 cap2)) := fun W h => ⟨h, (h.cell (p := ⟨w.heap.size, 0, none⟩) (by show w.heap.size < _; omega)).trans p0, (h.cell (p := ⟨w.heap.size, 1, none⟩) (by show w.heap.size < _; omega)).trans p1, (h.cell (p := ⟨w.heap.size, 2, none⟩) (by show w.heap.size < _; omega)).trans p2, (h.cell (p := ⟨w.heap.size, 3, none⟩) (by show w.heap.size < _; omega)).trans p3, (h.cell (p := ⟨w.heap.size, 4, none⟩) (by show w.heap.size < _; omega)).trans p4, (h.cell (p := ⟨w.heap.size + 1, 0, none⟩) (by show w.heap.size + 1 < _; omega)).trans q0, (h.cell (p := ⟨w.heap.size + 1, 1, none⟩) (by show w.heap.size + 1 < _; omega)).trans q1, (h.cell (p := ⟨w.heap.size + 1, 2, none⟩) (by show w.heap.size + 1 < _; omega)).trans q2, (h.cell (p := ⟨w.heap.size + 1, 3, none⟩) (by show w.heap.size + 1 < _; omega)).trans q3, (h.cell (p := ⟨w.heap.size + 1, 4, none⟩) (by show w.heap.size + 1 < _; omega)).trans q4⟩
  have Hbw := Lib.hid hbw
  have HW0 := Lib.hid hW0
  have hb : (k != k2) = true := by simpa using hne
  clear hW0 hz0 hbw hk
  by_cases h0 : k = 0
  · have hR : Hid (kC k k2 = 1) := by show kC k k2 = 1; unfold kC; rw [if_neg hne, if_pos h0]
    subst h0
    go_enter Try.func37, Try.ntmps37
    go_wp2_with fail
    go_ret
    exact ⟨by rw [hR.out]; rfl, by rw [HW0.out]; exact Hbw.out⟩
  · have hb0 : (k == 0) = false := by simpa using h0
    by_cases h1 : k2 = 0
    · have hR : Hid (kC k k2 = -1) := by show kC k k2 = -1; unfold kC; rw [if_neg hne, if_neg h0, if_pos h1]
      subst h1
      go_enter Try.func37, Try.ntmps37
      go_wp2_with fail
      go_ret
      exact ⟨by rw [hR.out]; rfl, by rw [HW0.out]; exact Hbw.out⟩
    · have hb1 : (k2 == 0) = false := by simpa using h1
      have hR : Hid (kC k k2 = ordI k k2) := by show kC k k2 = ordI k k2; unfold kC; rw [if_neg hne, if_neg h0, if_neg h1]
      go_enter Try.func37, Try.ntmps37
      go_wp2_with (go_at_call 43; refine (cmpInt_any k k2 _).mono ?_; rintro e w' ⟨rfl, rfl⟩)
      go_ret
      exact ⟨by rw [hR.out]; rfl, by rw [HW0.out]; exact Hbw.out⟩
set_option maxRecDepth 100000 in
set_option maxHeartbeats 2000000 in
theorem vcmp_null (k n sc k2 n2 sc2 : Int) (s t : ByteArray) (A A2 : Option Addr) (len len2 cap cap2 : Nat) (w : World) (hkk : k = k2) (h0 : k = 0) :
    Calls Try.prog 37 #[.agg #[.int .i64 k, .int .i64 n, .int .i64 sc, .string s, .slice A len cap], .agg #[.int .i64 k2, .int .i64 n2, .int .i64 sc2, .string t, .slice A2 len2 cap2]] w fun e w' => e = .returned (.int .i64 0) ∧ Below w.heap.size w w' := by
  obtain ⟨W0, hW0⟩ : ∃ W0, (w.alloc (.cells #[.int .i64 k, .int .i64 n, .int .i64 sc, .string s, .slice A len cap] 33)).alloc (.cells #[.int .i64 k2, .int .i64 n2, .int .i64 sc2, .string t, .slice A2 len2 cap2] 33) = W0 := ⟨_, rfl⟩
  have hbw : Below w.heap.size w W0 := by rw [← hW0]; exact ((Below.refl _ _).alloc (Nat.le_refl _) _).alloc (by simp) _
  have hz0 : W0.heap.size = w.heap.size + 2 := by rw [← hW0]; simp
  have p0 : W0.cell? ⟨w.heap.size, 0, none⟩ = some (.int .i64 k) := by rw [← hW0]; simp
  have p1 : W0.cell? ⟨w.heap.size, 1, none⟩ = some (.int .i64 n) := by rw [← hW0]; simp
  have p2 : W0.cell? ⟨w.heap.size, 2, none⟩ = some (.int .i64 sc) := by rw [← hW0]; simp
  have p3 : W0.cell? ⟨w.heap.size, 3, none⟩ = some (.string s) := by rw [← hW0]; simp
  have p4 : W0.cell? ⟨w.heap.size, 4, none⟩ = some (.slice A len cap) := by rw [← hW0]; simp
  have q0 : W0.cell? ⟨w.heap.size + 1, 0, none⟩ = some (.int .i64 k2) := by rw [← hW0]; simp
  have q1 : W0.cell? ⟨w.heap.size + 1, 1, none⟩ = some (.int .i64 n2) := by rw [← hW0]; simp
  have q2 : W0.cell? ⟨w.heap.size + 1, 2, none⟩ = some (.int .i64 sc2) := by rw [← hW0]; simp
  have q3 : W0.cell? ⟨w.heap.size + 1, 3, none⟩ = some (.string t) := by rw [← hW0]; simp
  have q4 : W0.cell? ⟨w.heap.size + 1, 4, none⟩ = some (.slice A2 len2 cap2) := by rw [← hW0]; simp
  have hk : Hid (∀ W, Below W0.heap.size W0 W → Below W0.heap.size W0 W ∧ W.cell? ⟨w.heap.size, 0, none⟩ = some (.int .i64 k) ∧ W.cell? ⟨w.heap.size, 1, none⟩ = some (.int .i64 n) ∧ W.cell? ⟨w.heap.size, 2, none⟩ = some (.int .i64 sc) ∧ W.cell? ⟨w.heap.size, 3, none⟩ = some (.string s) ∧ W.cell? ⟨w.heap.size, 4, none⟩ = some (.slice A len cap) ∧ W.cell? ⟨w.heap.size + 1, 0, none⟩ = some (.int .i64 k2) ∧ W.cell? ⟨w.heap.size + 1, 1, none⟩ = some (.int .i64 n2) ∧ W.cell? ⟨w.heap.size + 1, 2, none⟩ = some (.int .i64 sc2) ∧ W.cell? ⟨w.heap.size + 1, 3, none⟩ = some (.string t) ∧ W.cell? ⟨w.heap.size + 1, 4, none⟩ = some (.slice A2 len2 cap2)) := fun W h => ⟨h, (h.cell (p := ⟨w.heap.size, 0, none⟩) (by show w.heap.size < _; omega)).trans p0, (h.cell (p := ⟨w.heap.size, 1, none⟩) (by show w.heap.size < _; omega)).trans p1, (h.cell (p := ⟨w.heap.size, 2, none⟩) (by show w.heap.size < _; omega)).trans p2, (h.cell (p := ⟨w.heap.size, 3, none⟩) (by show w.heap.size < _; omega)).trans p3, (h.cell (p := ⟨w.heap.size, 4, none⟩) (by show w.heap.size < _; omega)).trans p4, (h.cell (p := ⟨w.heap.size + 1, 0, none⟩) (by show w.heap.size + 1 < _; omega)).trans q0, (h.cell (p := ⟨w.heap.size + 1, 1, none⟩) (by show w.heap.size + 1 < _; omega)).trans q1, (h.cell (p := ⟨w.heap.size + 1, 2, none⟩) (by show w.heap.size + 1 < _; omega)).trans q2, (h.cell (p := ⟨w.heap.size + 1, 3, none⟩) (by show w.heap.size + 1 < _; omega)).trans q3, (h.cell (p := ⟨w.heap.size + 1, 4, none⟩) (by show w.heap.size + 1 < _; omega)).trans q4⟩
  have Hbw := Lib.hid hbw
  have HW0 := Lib.hid hW0
  have hb : (k != k2) = false := by simpa using hkk
  have hb0 : (k == 0) = true := by simpa using h0
  clear hW0 hz0 hbw hk hkk h0
  go_enter Try.func37, Try.ntmps37
  go_wp2_with fail
  go_ret
  exact ⟨rfl, by rw [HW0.out]; exact Hbw.out⟩
set_option maxRecDepth 100000 in
set_option maxHeartbeats 4000000 in
theorem vcmp_none (n sc n2 sc2 : Int) (s t : ByteArray) (A A2 : Option Addr) (len len2 cap cap2 : Nat) (R : Int) (w : World) (h1 : inSc sc = false) (h2 : inSc sc2 = false)
    (hre : ∀ W, Below w.heap.size w W → Calls Try.prog 48 #[.agg #[.int .i64 3, .int .i64 n, .int .i64 sc, .string s, .slice A len cap], .agg #[.int .i64 3, .int .i64 n2, .int .i64 sc2, .string t, .slice A2 len2 cap2]] W fun e w' => e = .returned (.int .i64 R) ∧ Below W.heap.size W w') :
    Calls Try.prog 37 #[.agg #[.int .i64 3, .int .i64 n, .int .i64 sc, .string s, .slice A len cap], .agg #[.int .i64 3, .int .i64 n2, .int .i64 sc2, .string t, .slice A2 len2 cap2]] w fun e w' => e = .returned (.int .i64 (orC (ordI n n2) R)) ∧ Below w.heap.size w w' := by
  obtain ⟨k, hk3⟩ : ∃ k : Int, k = 3 := ⟨_, rfl⟩
  obtain ⟨k2, hk23⟩ : ∃ k : Int, k = 3 := ⟨_, rfl⟩
  have ek : (Value.agg #[.int .i64 3, .int .i64 n, .int .i64 sc, .string s, .slice A len cap]) = .agg #[.int .i64 k, .int .i64 n, .int .i64 sc, .string s, .slice A len cap] := by rw [hk3]
  have ek2 : (Value.agg #[.int .i64 3, .int .i64 n2, .int .i64 sc2, .string t, .slice A2 len2 cap2]) = .agg #[.int .i64 k2, .int .i64 n2, .int .i64 sc2, .string t, .slice A2 len2 cap2] := by rw [hk23]
  rw [ek, ek2] at hre ⊢
  clear ek ek2
  obtain ⟨W0, hW0⟩ : ∃ W0, (w.alloc (.cells #[.int .i64 k, .int .i64 n, .int .i64 sc, .string s, .slice A len cap] 33)).alloc (.cells #[.int .i64 k2, .int .i64 n2, .int .i64 sc2, .string t, .slice A2 len2 cap2] 33) = W0 := ⟨_, rfl⟩
  have hbw : Below w.heap.size w W0 := by rw [← hW0]; exact ((Below.refl _ _).alloc (Nat.le_refl _) _).alloc (by simp) _
  have hz0 : W0.heap.size = w.heap.size + 2 := by rw [← hW0]; simp
  have p0 : W0.cell? ⟨w.heap.size, 0, none⟩ = some (.int .i64 k) := by rw [← hW0]; simp
  have p1 : W0.cell? ⟨w.heap.size, 1, none⟩ = some (.int .i64 n) := by rw [← hW0]; simp
  have p2 : W0.cell? ⟨w.heap.size, 2, none⟩ = some (.int .i64 sc) := by rw [← hW0]; simp
  have p3 : W0.cell? ⟨w.heap.size, 3, none⟩ = some (.string s) := by rw [← hW0]; simp
  have p4 : W0.cell? ⟨w.heap.size, 4, none⟩ = some (.slice A len cap) := by rw [← hW0]; simp
  have q0 : W0.cell? ⟨w.heap.size + 1, 0, none⟩ = some (.int .i64 k2) := by rw [← hW0]; simp
  have q1 : W0.cell? ⟨w.heap.size + 1, 1, none⟩ = some (.int .i64 n2) := by rw [← hW0]; simp
  have q2 : W0.cell? ⟨w.heap.size + 1, 2, none⟩ = some (.int .i64 sc2) := by rw [← hW0]; simp
  have q3 : W0.cell? ⟨w.heap.size + 1, 3, none⟩ = some (.string t) := by rw [← hW0]; simp
  have q4 : W0.cell? ⟨w.heap.size + 1, 4, none⟩ = some (.slice A2 len2 cap2) := by rw [← hW0]; simp
  have hk : Hid (∀ W, Below W0.heap.size W0 W → Below W0.heap.size W0 W ∧ W.cell? ⟨w.heap.size, 0, none⟩ = some (.int .i64 k) ∧ W.cell? ⟨w.heap.size, 1, none⟩ = some (.int .i64 n) ∧ W.cell? ⟨w.heap.size, 2, none⟩ = some (.int .i64 sc) ∧ W.cell? ⟨w.heap.size, 3, none⟩ = some (.string s) ∧ W.cell? ⟨w.heap.size, 4, none⟩ = some (.slice A len cap) ∧ W.cell? ⟨w.heap.size + 1, 0, none⟩ = some (.int .i64 k2) ∧ W.cell? ⟨w.heap.size + 1, 1, none⟩ = some (.int .i64 n2) ∧ W.cell? ⟨w.heap.size + 1, 2, none⟩ = some (.int .i64 sc2) ∧ W.cell? ⟨w.heap.size + 1, 3, none⟩ = some (.string t) ∧ W.cell? ⟨w.heap.size + 1, 4, none⟩ = some (.slice A2 len2 cap2)) := fun W h => ⟨h, (h.cell (p := ⟨w.heap.size, 0, none⟩) (by show w.heap.size < _; omega)).trans p0, (h.cell (p := ⟨w.heap.size, 1, none⟩) (by show w.heap.size < _; omega)).trans p1, (h.cell (p := ⟨w.heap.size, 2, none⟩) (by show w.heap.size < _; omega)).trans p2, (h.cell (p := ⟨w.heap.size, 3, none⟩) (by show w.heap.size < _; omega)).trans p3, (h.cell (p := ⟨w.heap.size, 4, none⟩) (by show w.heap.size < _; omega)).trans p4, (h.cell (p := ⟨w.heap.size + 1, 0, none⟩) (by show w.heap.size + 1 < _; omega)).trans q0, (h.cell (p := ⟨w.heap.size + 1, 1, none⟩) (by show w.heap.size + 1 < _; omega)).trans q1, (h.cell (p := ⟨w.heap.size + 1, 2, none⟩) (by show w.heap.size + 1 < _; omega)).trans q2, (h.cell (p := ⟨w.heap.size + 1, 3, none⟩) (by show w.heap.size + 1 < _; omega)).trans q3, (h.cell (p := ⟨w.heap.size + 1, 4, none⟩) (by show w.heap.size + 1 < _; omega)).trans q4⟩
  have hb0 : (k == 0) = false := by rw [hk3]; decide
  have hb3 : (k == 3) = true := by rw [hk3]; decide
  have hbk : (k != k2) = false := by rw [hk3, hk23]; decide
  have Hre := Lib.hid (fun (W : World) (h : Below W0.heap.size W0 W) => (hre W (hbw.trans (h.mono (by omega)))).mono fun e w' (hh : _ ∧ _) => (⟨hh.1, h.trans (hh.2.mono h.size)⟩ : e = .returned (.int .i64 R) ∧ Below W0.heap.size W0 w'))
  have hci := Lib.hid (fun (W : World) (h : Below W0.heap.size W0 W) => (cmpInt_any n n2 W).mono fun e w' (hh : _ ∧ _) => (⟨hh.1, by rw [hh.2]; exact h⟩ : e = .returned (.int .i64 (ordI n n2)) ∧ Below W0.heap.size W0 w'))
  generalize ordI n n2 = a1 at *
  have HW0 := Lib.hid hW0
  have Hz0 := Lib.hid hz0
  have Hh1 := Lib.hid h1
  have Hh2 := Lib.hid h2
  clear hre hW0 hz0 hk3 hk23 h1 h2
  go_enter Try.func37, Try.ntmps37
  go_upto_region 11 with (fail)
  rw [HW0.out]
  go_quiet ((go_at_call 44; exact Calls.quiet_of_same (within_sc _ _)))
  have h1 := Hh1.out
  have h2 := Hh2.out
  go_upto_region 18 with (fail)
  have hb1 : Below W0.heap.size W0 (W0.drewN nq) := below_drewNk _ _
  generalize W0.drewN nq = W1 at *
  go_region_held3 (fun W => Below W0.heap.size W0 W ∧ W.cell? ⟨w.heap.size, 0, none⟩ = some (.int .i64 k) ∧ W.cell? ⟨w.heap.size, 1, none⟩ = some (.int .i64 n) ∧ W.cell? ⟨w.heap.size, 2, none⟩ = some (.int .i64 sc) ∧ W.cell? ⟨w.heap.size, 3, none⟩ = some (.string s) ∧ W.cell? ⟨w.heap.size, 4, none⟩ = some (.slice A len cap) ∧ W.cell? ⟨w.heap.size + 1, 0, none⟩ = some (.int .i64 k2) ∧ W.cell? ⟨w.heap.size + 1, 1, none⟩ = some (.int .i64 n2) ∧ W.cell? ⟨w.heap.size + 1, 2, none⟩ = some (.int .i64 sc2) ∧ W.cell? ⟨w.heap.size + 1, 3, none⟩ = some (.string t) ∧ W.cell? ⟨w.heap.size + 1, 4, none⟩ = some (.slice A2 len2 cap2))
    (first | exact hk.out _ (Below.drew (Below.refl _ _)) | exact hk.out _ (Below.refl _ _) | exact hk.out _ (by assumption) | exact hk.out _ (Below.drew (by assumption)) | exact hk.out _ (Below.alloc (by assumption) (Below.size (by assumption)) _))
    (first
      | (go_at_call 43; (with_reducible refine (hci.out _ ?_).mono ?_); (first | assumption | (apply And.left; assumption)); rintro e wx ⟨rfl, hbx⟩)
      | (go_at_call 48; (with_reducible refine (Hre.out _ ?_).mono ?_); (first | assumption | (apply And.left; assumption)); rintro e wz ⟨rfl, hbz⟩)
      | (go_at_call 45; (with_reducible refine (or2 _ _ _).mono ?_); rintro e wv ⟨rfl, rfl⟩)
    )
  all_goals
    go_wp2
    go_ret
    refine ⟨rfl, hbw.trans (Below.mono ?_ hbw.size)⟩
    first | assumption | (apply And.left; assumption)
set_option maxRecDepth 100000 in
set_option maxHeartbeats 4000000 in
theorem vcmp_plain (k n sc k2 n2 sc2 : Int) (s t : ByteArray) (A A2 : Option Addr) (len len2 cap cap2 : Nat) (R : Int) (w : World) (hkk : k = k2) (h0 : ¬ k = 0) (h3 : ¬ k = 3)
    (hre : ∀ W, Below w.heap.size w W → Calls Try.prog 48 #[.agg #[.int .i64 k, .int .i64 n, .int .i64 sc, .string s, .slice A len cap], .agg #[.int .i64 k2, .int .i64 n2, .int .i64 sc2, .string t, .slice A2 len2 cap2]] W fun e w' => e = .returned (.int .i64 R) ∧ Below W.heap.size W w') :
    Calls Try.prog 37 #[.agg #[.int .i64 k, .int .i64 n, .int .i64 sc, .string s, .slice A len cap], .agg #[.int .i64 k2, .int .i64 n2, .int .i64 sc2, .string t, .slice A2 len2 cap2]] w fun e w' => e = .returned (.int .i64 (orC (ordI n n2) R)) ∧ Below w.heap.size w w' := by
  obtain ⟨W0, hW0⟩ : ∃ W0, (w.alloc (.cells #[.int .i64 k, .int .i64 n, .int .i64 sc, .string s, .slice A len cap] 33)).alloc (.cells #[.int .i64 k2, .int .i64 n2, .int .i64 sc2, .string t, .slice A2 len2 cap2] 33) = W0 := ⟨_, rfl⟩
  have hbw : Below w.heap.size w W0 := by rw [← hW0]; exact ((Below.refl _ _).alloc (Nat.le_refl _) _).alloc (by simp) _
  have hz0 : W0.heap.size = w.heap.size + 2 := by rw [← hW0]; simp
  have p0 : W0.cell? ⟨w.heap.size, 0, none⟩ = some (.int .i64 k) := by rw [← hW0]; simp
  have p1 : W0.cell? ⟨w.heap.size, 1, none⟩ = some (.int .i64 n) := by rw [← hW0]; simp
  have p2 : W0.cell? ⟨w.heap.size, 2, none⟩ = some (.int .i64 sc) := by rw [← hW0]; simp
  have p3 : W0.cell? ⟨w.heap.size, 3, none⟩ = some (.string s) := by rw [← hW0]; simp
  have p4 : W0.cell? ⟨w.heap.size, 4, none⟩ = some (.slice A len cap) := by rw [← hW0]; simp
  have q0 : W0.cell? ⟨w.heap.size + 1, 0, none⟩ = some (.int .i64 k2) := by rw [← hW0]; simp
  have q1 : W0.cell? ⟨w.heap.size + 1, 1, none⟩ = some (.int .i64 n2) := by rw [← hW0]; simp
  have q2 : W0.cell? ⟨w.heap.size + 1, 2, none⟩ = some (.int .i64 sc2) := by rw [← hW0]; simp
  have q3 : W0.cell? ⟨w.heap.size + 1, 3, none⟩ = some (.string t) := by rw [← hW0]; simp
  have q4 : W0.cell? ⟨w.heap.size + 1, 4, none⟩ = some (.slice A2 len2 cap2) := by rw [← hW0]; simp
  have hk : Hid (∀ W, Below W0.heap.size W0 W → Below W0.heap.size W0 W ∧ W.cell? ⟨w.heap.size, 0, none⟩ = some (.int .i64 k) ∧ W.cell? ⟨w.heap.size, 1, none⟩ = some (.int .i64 n) ∧ W.cell? ⟨w.heap.size, 2, none⟩ = some (.int .i64 sc) ∧ W.cell? ⟨w.heap.size, 3, none⟩ = some (.string s) ∧ W.cell? ⟨w.heap.size, 4, none⟩ = some (.slice A len cap) ∧ W.cell? ⟨w.heap.size + 1, 0, none⟩ = some (.int .i64 k2) ∧ W.cell? ⟨w.heap.size + 1, 1, none⟩ = some (.int .i64 n2) ∧ W.cell? ⟨w.heap.size + 1, 2, none⟩ = some (.int .i64 sc2) ∧ W.cell? ⟨w.heap.size + 1, 3, none⟩ = some (.string t) ∧ W.cell? ⟨w.heap.size + 1, 4, none⟩ = some (.slice A2 len2 cap2)) := fun W h => ⟨h, (h.cell (p := ⟨w.heap.size, 0, none⟩) (by show w.heap.size < _; omega)).trans p0, (h.cell (p := ⟨w.heap.size, 1, none⟩) (by show w.heap.size < _; omega)).trans p1, (h.cell (p := ⟨w.heap.size, 2, none⟩) (by show w.heap.size < _; omega)).trans p2, (h.cell (p := ⟨w.heap.size, 3, none⟩) (by show w.heap.size < _; omega)).trans p3, (h.cell (p := ⟨w.heap.size, 4, none⟩) (by show w.heap.size < _; omega)).trans p4, (h.cell (p := ⟨w.heap.size + 1, 0, none⟩) (by show w.heap.size + 1 < _; omega)).trans q0, (h.cell (p := ⟨w.heap.size + 1, 1, none⟩) (by show w.heap.size + 1 < _; omega)).trans q1, (h.cell (p := ⟨w.heap.size + 1, 2, none⟩) (by show w.heap.size + 1 < _; omega)).trans q2, (h.cell (p := ⟨w.heap.size + 1, 3, none⟩) (by show w.heap.size + 1 < _; omega)).trans q3, (h.cell (p := ⟨w.heap.size + 1, 4, none⟩) (by show w.heap.size + 1 < _; omega)).trans q4⟩
  have Hre := Lib.hid (fun (W : World) (h : Below W0.heap.size W0 W) => (hre W (hbw.trans (h.mono (by omega)))).mono fun e w' (hh : _ ∧ _) => (⟨hh.1, h.trans (hh.2.mono h.size)⟩ : e = .returned (.int .i64 R) ∧ Below W0.heap.size W0 w'))
  have hci := Lib.hid (fun (W : World) (h : Below W0.heap.size W0 W) => (cmpInt_any n n2 W).mono fun e w' (hh : _ ∧ _) => (⟨hh.1, by rw [hh.2]; exact h⟩ : e = .returned (.int .i64 (ordI n n2)) ∧ Below W0.heap.size W0 w'))
  have hb0 : (k == 0) = false := by simpa using h0
  have hb3 : (k == 3) = false := by simpa using h3
  have HW0 := Lib.hid hW0
  have Hz0 := Lib.hid hz0
  have hbk : (k != k2) = false := by simpa using hkk
  clear hre hW0 hz0 h0 h3 hkk
  generalize ordI n n2 = a1 at *
  go_enter Try.func37, Try.ntmps37
  go_upto_region 18 with (fail)
  rw [HW0.out]
  go_region_held3 (fun W => Below W0.heap.size W0 W ∧ W.cell? ⟨w.heap.size, 0, none⟩ = some (.int .i64 k) ∧ W.cell? ⟨w.heap.size, 1, none⟩ = some (.int .i64 n) ∧ W.cell? ⟨w.heap.size, 2, none⟩ = some (.int .i64 sc) ∧ W.cell? ⟨w.heap.size, 3, none⟩ = some (.string s) ∧ W.cell? ⟨w.heap.size, 4, none⟩ = some (.slice A len cap) ∧ W.cell? ⟨w.heap.size + 1, 0, none⟩ = some (.int .i64 k2) ∧ W.cell? ⟨w.heap.size + 1, 1, none⟩ = some (.int .i64 n2) ∧ W.cell? ⟨w.heap.size + 1, 2, none⟩ = some (.int .i64 sc2) ∧ W.cell? ⟨w.heap.size + 1, 3, none⟩ = some (.string t) ∧ W.cell? ⟨w.heap.size + 1, 4, none⟩ = some (.slice A2 len2 cap2))
    (first | exact hk.out _ (Below.drew (Below.refl _ _)) | exact hk.out _ (Below.refl _ _) | exact hk.out _ (by assumption) | exact hk.out _ (Below.drew (by assumption)) | exact hk.out _ (Below.alloc (by assumption) (Below.size (by assumption)) _))
    (first
      | (go_at_call 43; (with_reducible refine (hci.out _ ?_).mono ?_); (first | assumption | (apply And.left; assumption)); rintro e wx ⟨rfl, hbx⟩)
      | (go_at_call 48; (with_reducible refine (Hre.out _ ?_).mono ?_); (first | assumption | (apply And.left; assumption)); rintro e wz ⟨rfl, hbz⟩)
      | (go_at_call 45; (with_reducible refine (or2 _ _ _).mono ?_); rintro e wv ⟨rfl, rfl⟩)
    )
  all_goals
    go_wp2
    go_ret
    refine ⟨rfl, hbw.trans (Below.mono ?_ hbw.size)⟩
    first | assumption | (apply And.left; assumption)

set_option maxRecDepth 100000 in
set_option maxHeartbeats 4000000 in
theorem vcmp_one (n sc n2 sc2 : Int) (s t : ByteArray) (A A2 : Option Addr) (len len2 cap cap2 : Nat) (w : World) (hne : inSc sc ≠ inSc sc2) :
    Calls Try.prog 37 #[.agg #[.int .i64 3, .int .i64 n, .int .i64 sc, .string s, .slice A len cap], .agg #[.int .i64 3, .int .i64 n2, .int .i64 sc2, .string t, .slice A2 len2 cap2]] w fun e w' => e = .returned (.int .i64 (if inSc sc = true then -1 else 1)) ∧ Below w.heap.size w w' := by
  obtain ⟨k, hk3⟩ : ∃ k : Int, k = 3 := ⟨_, rfl⟩
  obtain ⟨k2, hk23⟩ : ∃ k : Int, k = 3 := ⟨_, rfl⟩
  rw [show (Value.agg #[.int .i64 3, .int .i64 n, .int .i64 sc, .string s, .slice A len cap]) = .agg #[.int .i64 k, .int .i64 n, .int .i64 sc, .string s, .slice A len cap] by rw [hk3], show (Value.agg #[.int .i64 3, .int .i64 n2, .int .i64 sc2, .string t, .slice A2 len2 cap2]) = .agg #[.int .i64 k2, .int .i64 n2, .int .i64 sc2, .string t, .slice A2 len2 cap2] by rw [hk23]]
  obtain ⟨W0, hW0⟩ : ∃ W0, (w.alloc (.cells #[.int .i64 k, .int .i64 n, .int .i64 sc, .string s, .slice A len cap] 33)).alloc (.cells #[.int .i64 k2, .int .i64 n2, .int .i64 sc2, .string t, .slice A2 len2 cap2] 33) = W0 := ⟨_, rfl⟩
  have hbw : Below w.heap.size w W0 := by rw [← hW0]; exact ((Below.refl _ _).alloc (Nat.le_refl _) _).alloc (by simp) _
  have hz0 : W0.heap.size = w.heap.size + 2 := by rw [← hW0]; simp
  have p0 : W0.cell? ⟨w.heap.size, 0, none⟩ = some (.int .i64 k) := by rw [← hW0]; simp
  have p1 : W0.cell? ⟨w.heap.size, 1, none⟩ = some (.int .i64 n) := by rw [← hW0]; simp
  have p2 : W0.cell? ⟨w.heap.size, 2, none⟩ = some (.int .i64 sc) := by rw [← hW0]; simp
  have p3 : W0.cell? ⟨w.heap.size, 3, none⟩ = some (.string s) := by rw [← hW0]; simp
  have p4 : W0.cell? ⟨w.heap.size, 4, none⟩ = some (.slice A len cap) := by rw [← hW0]; simp
  have q0 : W0.cell? ⟨w.heap.size + 1, 0, none⟩ = some (.int .i64 k2) := by rw [← hW0]; simp
  have q1 : W0.cell? ⟨w.heap.size + 1, 1, none⟩ = some (.int .i64 n2) := by rw [← hW0]; simp
  have q2 : W0.cell? ⟨w.heap.size + 1, 2, none⟩ = some (.int .i64 sc2) := by rw [← hW0]; simp
  have q3 : W0.cell? ⟨w.heap.size + 1, 3, none⟩ = some (.string t) := by rw [← hW0]; simp
  have q4 : W0.cell? ⟨w.heap.size + 1, 4, none⟩ = some (.slice A2 len2 cap2) := by rw [← hW0]; simp
  have hk : Hid (∀ W, Below W0.heap.size W0 W → Below W0.heap.size W0 W ∧ W.cell? ⟨w.heap.size, 0, none⟩ = some (.int .i64 k) ∧ W.cell? ⟨w.heap.size, 1, none⟩ = some (.int .i64 n) ∧ W.cell? ⟨w.heap.size, 2, none⟩ = some (.int .i64 sc) ∧ W.cell? ⟨w.heap.size, 3, none⟩ = some (.string s) ∧ W.cell? ⟨w.heap.size, 4, none⟩ = some (.slice A len cap) ∧ W.cell? ⟨w.heap.size + 1, 0, none⟩ = some (.int .i64 k2) ∧ W.cell? ⟨w.heap.size + 1, 1, none⟩ = some (.int .i64 n2) ∧ W.cell? ⟨w.heap.size + 1, 2, none⟩ = some (.int .i64 sc2) ∧ W.cell? ⟨w.heap.size + 1, 3, none⟩ = some (.string t) ∧ W.cell? ⟨w.heap.size + 1, 4, none⟩ = some (.slice A2 len2 cap2)) := fun W h => ⟨h, (h.cell (p := ⟨w.heap.size, 0, none⟩) (by show w.heap.size < _; omega)).trans p0, (h.cell (p := ⟨w.heap.size, 1, none⟩) (by show w.heap.size < _; omega)).trans p1, (h.cell (p := ⟨w.heap.size, 2, none⟩) (by show w.heap.size < _; omega)).trans p2, (h.cell (p := ⟨w.heap.size, 3, none⟩) (by show w.heap.size < _; omega)).trans p3, (h.cell (p := ⟨w.heap.size, 4, none⟩) (by show w.heap.size < _; omega)).trans p4, (h.cell (p := ⟨w.heap.size + 1, 0, none⟩) (by show w.heap.size + 1 < _; omega)).trans q0, (h.cell (p := ⟨w.heap.size + 1, 1, none⟩) (by show w.heap.size + 1 < _; omega)).trans q1, (h.cell (p := ⟨w.heap.size + 1, 2, none⟩) (by show w.heap.size + 1 < _; omega)).trans q2, (h.cell (p := ⟨w.heap.size + 1, 3, none⟩) (by show w.heap.size + 1 < _; omega)).trans q3, (h.cell (p := ⟨w.heap.size + 1, 4, none⟩) (by show w.heap.size + 1 < _; omega)).trans q4⟩
  subst hk3 hk23
  have Hbw := Lib.hid hbw
  have HW0 := Lib.hid hW0
  clear hW0 hz0 hbw hk
  have HL := Lib.hid (rfl : inSc sc = inSc sc)
  obtain ⟨L, hL⟩ : ∃ L, inSc sc = L := ⟨_, rfl⟩
  obtain ⟨M, hM⟩ : ∃ M, inSc sc2 = M := ⟨_, rfl⟩
  obtain ⟨R, hR⟩ : ∃ R : Int, (if inSc sc = true then -1 else 1) = R := ⟨_, rfl⟩
  rw [hR]
  rw [hL, hM] at hne
  rw [hL] at hR
  have HR := Lib.hid hR
  have HL := Lib.hid hL
  have HM := Lib.hid hM
  clear hL hM hR
  go_enter Try.func37, Try.ntmps37
  go_upto_region 11 with (fail)
  rw [HW0.out]
  go_quiet ((go_at_call 44; exact Calls.quiet_of_same (within_sc _ _)))
  have hL := HL.out
  have hM := HM.out
  cases L with
  | true =>
    cases M with
    | true => exact absurd rfl hne
    | false =>
      go_wp2
      go_ret
      exact ⟨by rw [← HR.out]; rfl, Hbw.out.trans ((below_drewNk W0 _).mono Hbw.out.size)⟩
  | false =>
    cases M with
    | false => exact absurd rfl hne
    | true =>
      go_wp2
      go_ret
      exact ⟨by rw [← HR.out]; rfl, Hbw.out.trans ((below_drewNk W0 _).mono Hbw.out.size)⟩
set_option maxRecDepth 100000 in
set_option maxHeartbeats 8000000 in
theorem vcmp_dec (n sc n2 sc2 : Int) (s t : ByteArray) (A A2 : Option Addr) (len len2 cap cap2 : Nat) (R : Int) (w : World) (hn : I64 n) (hn2 : I64 n2) (h1 : inSc sc = true) (h2 : inSc sc2 = true)
    (hre : ∀ W, Below w.heap.size w W → Calls Try.prog 48 #[.agg #[.int .i64 3, .int .i64 n, .int .i64 sc, .string s, .slice A len cap], .agg #[.int .i64 3, .int .i64 n2, .int .i64 sc2, .string t, .slice A2 len2 cap2]] W fun e w' => e = .returned (.int .i64 R) ∧ Below W.heap.size W w') :
    Calls Try.prog 37 #[.agg #[.int .i64 3, .int .i64 n, .int .i64 sc, .string s, .slice A len cap], .agg #[.int .i64 3, .int .i64 n2, .int .i64 sc2, .string t, .slice A2 len2 cap2]] w fun e w' => e = .returned (.int .i64 (orC (ordI (mag n sc) (mag n2 sc2)) R)) ∧ Below w.heap.size w w' := by
  obtain ⟨k, hk3⟩ : ∃ k : Int, k = 3 := ⟨_, rfl⟩
  obtain ⟨k2, hk23⟩ : ∃ k : Int, k = 3 := ⟨_, rfl⟩
  have ek : (Value.agg #[.int .i64 3, .int .i64 n, .int .i64 sc, .string s, .slice A len cap]) = .agg #[.int .i64 k, .int .i64 n, .int .i64 sc, .string s, .slice A len cap] := by rw [hk3]
  have ek2 : (Value.agg #[.int .i64 3, .int .i64 n2, .int .i64 sc2, .string t, .slice A2 len2 cap2]) = .agg #[.int .i64 k2, .int .i64 n2, .int .i64 sc2, .string t, .slice A2 len2 cap2] := by rw [hk23]
  rw [ek, ek2] at hre ⊢
  clear ek ek2
  obtain ⟨W0, hW0⟩ : ∃ W0, (w.alloc (.cells #[.int .i64 k, .int .i64 n, .int .i64 sc, .string s, .slice A len cap] 33)).alloc (.cells #[.int .i64 k2, .int .i64 n2, .int .i64 sc2, .string t, .slice A2 len2 cap2] 33) = W0 := ⟨_, rfl⟩
  have hbw : Below w.heap.size w W0 := by rw [← hW0]; exact ((Below.refl _ _).alloc (Nat.le_refl _) _).alloc (by simp) _
  have hz0 : W0.heap.size = w.heap.size + 2 := by rw [← hW0]; simp
  have p0 : W0.cell? ⟨w.heap.size, 0, none⟩ = some (.int .i64 k) := by rw [← hW0]; simp
  have p1 : W0.cell? ⟨w.heap.size, 1, none⟩ = some (.int .i64 n) := by rw [← hW0]; simp
  have p2 : W0.cell? ⟨w.heap.size, 2, none⟩ = some (.int .i64 sc) := by rw [← hW0]; simp
  have p3 : W0.cell? ⟨w.heap.size, 3, none⟩ = some (.string s) := by rw [← hW0]; simp
  have p4 : W0.cell? ⟨w.heap.size, 4, none⟩ = some (.slice A len cap) := by rw [← hW0]; simp
  have q0 : W0.cell? ⟨w.heap.size + 1, 0, none⟩ = some (.int .i64 k2) := by rw [← hW0]; simp
  have q1 : W0.cell? ⟨w.heap.size + 1, 1, none⟩ = some (.int .i64 n2) := by rw [← hW0]; simp
  have q2 : W0.cell? ⟨w.heap.size + 1, 2, none⟩ = some (.int .i64 sc2) := by rw [← hW0]; simp
  have q3 : W0.cell? ⟨w.heap.size + 1, 3, none⟩ = some (.string t) := by rw [← hW0]; simp
  have q4 : W0.cell? ⟨w.heap.size + 1, 4, none⟩ = some (.slice A2 len2 cap2) := by rw [← hW0]; simp
  have hk : Hid (∀ W, Below W0.heap.size W0 W → Below W0.heap.size W0 W ∧ W.cell? ⟨w.heap.size, 0, none⟩ = some (.int .i64 k) ∧ W.cell? ⟨w.heap.size, 1, none⟩ = some (.int .i64 n) ∧ W.cell? ⟨w.heap.size, 2, none⟩ = some (.int .i64 sc) ∧ W.cell? ⟨w.heap.size, 3, none⟩ = some (.string s) ∧ W.cell? ⟨w.heap.size, 4, none⟩ = some (.slice A len cap) ∧ W.cell? ⟨w.heap.size + 1, 0, none⟩ = some (.int .i64 k2) ∧ W.cell? ⟨w.heap.size + 1, 1, none⟩ = some (.int .i64 n2) ∧ W.cell? ⟨w.heap.size + 1, 2, none⟩ = some (.int .i64 sc2) ∧ W.cell? ⟨w.heap.size + 1, 3, none⟩ = some (.string t) ∧ W.cell? ⟨w.heap.size + 1, 4, none⟩ = some (.slice A2 len2 cap2)) := fun W h => ⟨h, (h.cell (p := ⟨w.heap.size, 0, none⟩) (by show w.heap.size < _; omega)).trans p0, (h.cell (p := ⟨w.heap.size, 1, none⟩) (by show w.heap.size < _; omega)).trans p1, (h.cell (p := ⟨w.heap.size, 2, none⟩) (by show w.heap.size < _; omega)).trans p2, (h.cell (p := ⟨w.heap.size, 3, none⟩) (by show w.heap.size < _; omega)).trans p3, (h.cell (p := ⟨w.heap.size, 4, none⟩) (by show w.heap.size < _; omega)).trans p4, (h.cell (p := ⟨w.heap.size + 1, 0, none⟩) (by show w.heap.size + 1 < _; omega)).trans q0, (h.cell (p := ⟨w.heap.size + 1, 1, none⟩) (by show w.heap.size + 1 < _; omega)).trans q1, (h.cell (p := ⟨w.heap.size + 1, 2, none⟩) (by show w.heap.size + 1 < _; omega)).trans q2, (h.cell (p := ⟨w.heap.size + 1, 3, none⟩) (by show w.heap.size + 1 < _; omega)).trans q3, (h.cell (p := ⟨w.heap.size + 1, 4, none⟩) (by show w.heap.size + 1 < _; omega)).trans q4⟩
  have hb0 : (k == 0) = false := by rw [hk3]; decide
  have hb3 : (k == 3) = true := by rw [hk3]; decide
  have hbk : (k != k2) = false := by rw [hk3, hk23]; decide
  have hs1 : 0 ≤ sc ∧ sc ≤ 12 := by simpa [inSc] using h1
  have hs2 : 0 ≤ sc2 ∧ sc2 ≤ 12 := by simpa [inSc] using h2
  obtain ⟨s10, s11⟩ := hs1
  obtain ⟨s20, s21⟩ := hs2
  have em : ∀ {z y : Int}, inSc y = true → I64 z → sI (decide (z < 0)) (z.natAbs * 10 ^ (12 - y).toNat) = mag z y := fun {z y} h hz => by
    unfold sI mag
    rw [if_pos h]
    by_cases hneg : z < 0
    · rw [if_pos (by simpa using hneg)]
      have : (z.natAbs : Int) = -z := by omega
      rw [Int.natCast_mul, this, Int.natCast_pow]
      have : ((10 : Nat) : Int) = 10 := rfl
      rw [this, Int.neg_mul, Int.neg_neg]
    · rw [if_neg (by simpa using hneg)]
      have : (z.natAbs : Int) = z := by omega
      rw [Int.natCast_mul, this, Int.natCast_pow]
      rfl
  have hbd : ∀ {z y : Int}, 0 ≤ y → I64 z → z.natAbs * 10 ^ (12 - y).toNat < 18446744073709551616 ^ 3 := fun {z y} hy hz => by
    have a1 : z.natAbs ≤ 9223372036854775808 := by obtain ⟨z0, z1⟩ := hz; omega
    have a2 : (10 : Nat) ^ (12 - y).toNat ≤ 10 ^ 12 := Nat.pow_le_pow_right (by decide) (by omega)
    refine Nat.lt_of_le_of_lt (Nat.mul_le_mul a1 a2) (by decide)
  have Hre := Lib.hid (fun (W : World) (h : Below W0.heap.size W0 W) => (hre W (hbw.trans (h.mono (by omega)))).mono fun e w' (hh : _ ∧ _) => (⟨hh.1, h.trans (hh.2.mono h.size)⟩ : e = .returned (.int .i64 R) ∧ Below W0.heap.size W0 w'))
  obtain ⟨X, hX⟩ : ∃ X, n.natAbs * 10 ^ (12 - sc).toNat = X := ⟨_, rfl⟩
  obtain ⟨Y, hY⟩ : ∃ Y, n2.natAbs * 10 ^ (12 - sc2).toNat = Y := ⟨_, rfl⟩
  have c1 : (((12 - sc).toNat : Nat) : Int) = 12 - sc := by omega
  have c2 : (((12 - sc2).toNat : Nat) : Int) = 12 - sc2 := by omega
  have hsA : ∀ W, Below W0.heap.size W0 W → Calls Try.prog 46 #[.int .i64 n, .int .i64 (12 - sc)] W fun e w' => e = .returned (wideV (decide (n < 0)) X) ∧ Below W0.heap.size W0 w' := fun W h => by
    have := scaled_any n (12 - sc).toNat W hn (by omega)
    rw [hX, c1] at this
    exact this.mono fun e w' hh => ⟨hh.1, h.trans (hh.2.mono h.size)⟩
  have hsB : ∀ W, Below W0.heap.size W0 W → Calls Try.prog 46 #[.int .i64 n2, .int .i64 (12 - sc2)] W fun e w' => e = .returned (wideV (decide (n2 < 0)) Y) ∧ Below W0.heap.size W0 w' := fun W h => by
    have := scaled_any n2 (12 - sc2).toNat W hn2 (by omega)
    rw [hY, c2] at this
    exact this.mono fun e w' hh => ⟨hh.1, h.trans (hh.2.mono h.size)⟩
  have e1 := em h1 hn
  have e2 := em h2 hn2
  have b1 := hbd s10 hn
  have b2 := hbd s20 hn2
  rw [hX] at e1 b1
  rw [hY] at e2 b2
  clear em hbd c1 c2 hX hY hn hn2
  have hcw : ∀ W, Below W0.heap.size W0 W → Calls Try.prog 47 #[wideV (decide (n < 0)) X, wideV (decide (n2 < 0)) Y] W fun e w' => e = .returned (.int .i64 (ordI (mag n sc) (mag n2 sc2))) ∧ Below W0.heap.size W0 w' := fun W h => by
    have := compare_any (decide (n < 0)) (decide (n2 < 0)) X Y W b1 b2
    rw [e1, e2] at this
    exact this.mono fun e w' hh => ⟨hh.1, h.trans (hh.2.mono h.size)⟩
  clear e1 e2 b1 b2 hk3 hk23
  generalize ordI (mag n sc) (mag n2 sc2) = M at *
  obtain ⟨V1, hV1⟩ : ∃ V, wideV (decide (n < 0)) X = V := ⟨_, rfl⟩
  obtain ⟨V2, hV2⟩ : ∃ V, wideV (decide (n2 < 0)) Y = V := ⟨_, rfl⟩
  rw [hV1] at hsA hcw
  rw [hV2] at hsB hcw
  have HsA := Lib.hid hsA
  have HsB := Lib.hid hsB
  have Hcw := Lib.hid hcw
  have HW0 := Lib.hid hW0
  have Hz0 := Lib.hid hz0
  have Hh1 := Lib.hid h1
  have Hh2 := Lib.hid h2
  clear hre hW0 hz0 hsA hsB hcw hV1 hV2 h1 h2
  go_enter Try.func37, Try.ntmps37
  go_upto_region 11 with (fail)
  rw [HW0.out]
  go_quiet ((go_at_call 44; exact Calls.quiet_of_same (within_sc _ _)))
  have h1 := Hh1.out
  have h2 := Hh2.out
  go_upto_region 13 with (fail)
  have hb1 : Below W0.heap.size W0 (W0.drewN nq) := below_drewNk _ _
  generalize W0.drewN nq = W1 at *
  have i1 : IntKind.i64.wrap (12 - sc) = 12 - sc := IntWalk.i64_in _ (by omega)
  have i2 : IntKind.i64.wrap (12 - sc2) = 12 - sc2 := IntWalk.i64_in _ (by omega)
  go_region_held3 (fun W => Below W0.heap.size W0 W ∧ W.cell? ⟨w.heap.size, 0, none⟩ = some (.int .i64 k) ∧ W.cell? ⟨w.heap.size, 1, none⟩ = some (.int .i64 n) ∧ W.cell? ⟨w.heap.size, 2, none⟩ = some (.int .i64 sc) ∧ W.cell? ⟨w.heap.size, 3, none⟩ = some (.string s) ∧ W.cell? ⟨w.heap.size, 4, none⟩ = some (.slice A len cap) ∧ W.cell? ⟨w.heap.size + 1, 0, none⟩ = some (.int .i64 k2) ∧ W.cell? ⟨w.heap.size + 1, 1, none⟩ = some (.int .i64 n2) ∧ W.cell? ⟨w.heap.size + 1, 2, none⟩ = some (.int .i64 sc2) ∧ W.cell? ⟨w.heap.size + 1, 3, none⟩ = some (.string t) ∧ W.cell? ⟨w.heap.size + 1, 4, none⟩ = some (.slice A2 len2 cap2))
    (first | exact hk.out _ (Below.drew (Below.refl _ _)) | exact hk.out _ (Below.refl _ _) | exact hk.out _ (by assumption) | exact hk.out _ (Below.drew (by assumption)) | exact hk.out _ (Below.alloc (by assumption) (Below.size (by assumption)) _))
    (first
      | (go_at_call 46; (with_reducible refine (HsA.out _ ?_).mono ?_); (first | assumption | (apply And.left; assumption)); rintro e wx ⟨rfl, hbx⟩)
      | (go_at_call 46; (with_reducible refine (HsB.out _ ?_).mono ?_); (first | assumption | (apply And.left; assumption)); rintro e wy ⟨rfl, hby⟩)
      | (go_at_call 47; (with_reducible refine (Hcw.out _ ?_).mono ?_); (first | assumption | (apply And.left; assumption)); rintro e wu ⟨rfl, hbu⟩)
      | (go_at_call 48; (with_reducible refine (Hre.out _ ?_).mono ?_); (first | assumption | (apply And.left; assumption)); rintro e wz ⟨rfl, hbz⟩)
      | (go_at_call 45; (with_reducible refine (or2 _ _ _).mono ?_); rintro e wv ⟨rfl, rfl⟩))
  all_goals
    clear i1 i2
    go_wp2
    go_ret
    refine ⟨rfl, hbw.trans (Below.mono ?_ hbw.size)⟩
    first | assumption | (apply And.left; assumption)
end Go.Proofs.Ytcdaipkkddgbeaa
