/-
  Package value: the rest of a comparison.
-/
import Derived.Test.YtcdaipkkddgbeaaQSoS
import Derived.Test.YtcdaipkkddgbeaaQSoL
import Derived.Deep.RegionHeld3
namespace Go.Proofs.Ytcdaipkkddgbeaa
open Go.RowKit
set_option maxRecDepth 100000 in
set_option maxHeartbeats 1000000 in
theorem within_any (a b c : Int) (w : World) : Calls Try.prog 44 #[.int .i64 a, .int .i64 b, .int .i64 c] w fun e w' => e = .returned (.bool (decide (b ≤ a) && decide (a ≤ c))) ∧ w' = w := by
  by_cases h : b ≤ a
  · by_cases h2 : a ≤ c
    · have e : (decide (b ≤ a) && decide (a ≤ c)) = true := by simp [h, h2]
      rw [e]
      go_enter Try.func44, Try.ntmps44
      go_wp2
      go_ret
      exact ⟨rfl, rfl⟩
    · have e : (decide (b ≤ a) && decide (a ≤ c)) = false := by simp [h2]
      rw [e]
      go_enter Try.func44, Try.ntmps44
      go_wp2
      go_ret
      exact ⟨rfl, rfl⟩
  · have e : (decide (b ≤ a) && decide (a ≤ c)) = false := by simp [h]
    rw [e]
    go_enter Try.func44, Try.ntmps44
    go_wp2
    go_ret
    exact ⟨rfl, rfl⟩
theorem orC_zero (x : Int) : orC x 0 = x := by unfold orC; split <;> omega
theorem or3 (x y z : Int) (w : World) : Calls Try.prog 45 #[.slice (some ⟨w.heap.size, 0, none⟩) 3 3] (w.alloc (.cells #[.int .i64 x, .int .i64 y, .int .i64 z] 3)) fun e w' => e = .returned (.int .i64 (orC x (orC y z))) ∧ w' = w.alloc (.cells #[.int .i64 x, .int .i64 y, .int .i64 z] 3) := by
  have h := cmpOr_any w.heap.size 3 3 [x, y, z] (w.alloc (.cells #[.int .i64 x, .int .i64 y, .int .i64 z] 3)) rfl (by decide) (fun j u hu => by
    match j, hu with
    | 0, hu => cases hu; simp
    | 1, hu => cases hu; simp
    | 2, hu => cases hu; simp
    | _ + 3, hu => simp at hu)
  have e : orL [x, y, z] = orC x (orC y z) := by simp only [orL]; rw [orC_zero]
  rw [e] at h
  exact h
theorem or2 (x y : Int) (w : World) : Calls Try.prog 45 #[.slice (some ⟨w.heap.size, 0, none⟩) 2 2] (w.alloc (.cells #[.int .i64 x, .int .i64 y] 3)) fun e w' => e = .returned (.int .i64 (orC x y)) ∧ w' = w.alloc (.cells #[.int .i64 x, .int .i64 y] 3) := by
  have h := cmpOr_any w.heap.size 2 2 [x, y] (w.alloc (.cells #[.int .i64 x, .int .i64 y] 3)) rfl (by decide) (fun j u hu => by
    match j, hu with
    | 0, hu => cases hu; simp
    | 1, hu => cases hu; simp
    | _ + 2, hu => simp at hu)
  have e : orL [x, y] = orC x y := by simp only [orL]; rw [orC_zero]
  rw [e] at h
  exact h
set_option maxRecDepth 100000 in
set_option maxHeartbeats 4000000 in
theorem rest_any (k n sc k2 n2 sc2 : Int) (s t : ByteArray) (A A2 : Option Addr) (len len2 cap cap2 : Nat) (C : Int) (w : World)
    (hcf : ∀ W, Below w.heap.size w W → Calls Try.prog 36 #[.slice A len cap, .slice A2 len2 cap2, cmpVF] W fun e w' => e = .returned (.int .i64 C) ∧ Below W.heap.size W w') :
    Calls Try.prog 48 #[.agg #[.int .i64 k, .int .i64 n, .int .i64 sc, .string s, .slice A len cap], .agg #[.int .i64 k2, .int .i64 n2, .int .i64 sc2, .string t, .slice A2 len2 cap2]] w fun e w' => e = .returned (.int .i64 (orC (ordI sc sc2) (orC (cmpL s.data.toList t.data.toList) C))) ∧ Below w.heap.size w w' := by
  obtain ⟨W0, hW0⟩ : ∃ W0, (w.alloc (.cells #[.int .i64 k, .int .i64 n, .int .i64 sc, .string s, .slice A len cap] 33)).alloc (.cells #[.int .i64 k2, .int .i64 n2, .int .i64 sc2, .string t, .slice A2 len2 cap2] 33) = W0 := ⟨_, rfl⟩
  have hbw : Below w.heap.size w W0 := by rw [← hW0]; exact ((Below.refl _ _).alloc (Nat.le_refl _) _).alloc (by simp) _
  have hz0 : W0.heap.size = w.heap.size + 2 := by rw [← hW0]; simp
  have p0 : W0.cell? ⟨w.heap.size, 0, none⟩ = some (.int .i64 k) := by rw [← hW0]; simp
  have p1 : W0.cell? ⟨w.heap.size, 1, none⟩ = some (.int .i64 n) := by rw [← hW0]; simp
  have p2 : W0.cell? ⟨w.heap.size, 2, none⟩ = some (.int .i64 sc) := by rw [← hW0]; simp
  have p3 : W0.cell? ⟨w.heap.size, 3, none⟩ = some (.string s) := by rw [← hW0]; simp
  have p4 : W0.cell? ⟨w.heap.size, 4, none⟩ = some (.slice A len cap) := by rw [← hW0]; simp
  have q0 : W0.cell? ⟨w.heap.size + 1, 0, none⟩ = some (.int .i64 k2) := by rw [← hW0]; simp
  have q1 : W0.cell? ⟨w.heap.size + 1, 1, none⟩ = some (.int .i64 n2) := by rw [← hW0]; simp
  have q2 : W0.cell? ⟨w.heap.size + 1, 2, none⟩ = some (.int .i64 sc2) := by rw [← hW0]; simp
  have q3 : W0.cell? ⟨w.heap.size + 1, 3, none⟩ = some (.string t) := by rw [← hW0]; simp
  have q4 : W0.cell? ⟨w.heap.size + 1, 4, none⟩ = some (.slice A2 len2 cap2) := by rw [← hW0]; simp
  have hk : Hid (∀ W, Below W0.heap.size W0 W → Below W0.heap.size W0 W ∧ W.cell? ⟨w.heap.size, 0, none⟩ = some (.int .i64 k) ∧ W.cell? ⟨w.heap.size, 1, none⟩ = some (.int .i64 n) ∧ W.cell? ⟨w.heap.size, 2, none⟩ = some (.int .i64 sc) ∧ W.cell? ⟨w.heap.size, 3, none⟩ = some (.string s) ∧ W.cell? ⟨w.heap.size, 4, none⟩ = some (.slice A len cap) ∧ W.cell? ⟨w.heap.size + 1, 0, none⟩ = some (.int .i64 k2) ∧ W.cell? ⟨w.heap.size + 1, 1, none⟩ = some (.int .i64 n2) ∧ W.cell? ⟨w.heap.size + 1, 2, none⟩ = some (.int .i64 sc2) ∧ W.cell? ⟨w.heap.size + 1, 3, none⟩ = some (.string t) ∧ W.cell? ⟨w.heap.size + 1, 4, none⟩ = some (.slice A2 len2 cap2)) := fun W h => ⟨h, (h.cell (p := ⟨w.heap.size, 0, none⟩) (by show w.heap.size < _; omega)).trans p0, (h.cell (p := ⟨w.heap.size, 1, none⟩) (by show w.heap.size < _; omega)).trans p1, (h.cell (p := ⟨w.heap.size, 2, none⟩) (by show w.heap.size < _; omega)).trans p2, (h.cell (p := ⟨w.heap.size, 3, none⟩) (by show w.heap.size < _; omega)).trans p3, (h.cell (p := ⟨w.heap.size, 4, none⟩) (by show w.heap.size < _; omega)).trans p4, (h.cell (p := ⟨w.heap.size + 1, 0, none⟩) (by show w.heap.size + 1 < _; omega)).trans q0, (h.cell (p := ⟨w.heap.size + 1, 1, none⟩) (by show w.heap.size + 1 < _; omega)).trans q1, (h.cell (p := ⟨w.heap.size + 1, 2, none⟩) (by show w.heap.size + 1 < _; omega)).trans q2, (h.cell (p := ⟨w.heap.size + 1, 3, none⟩) (by show w.heap.size + 1 < _; omega)).trans q3, (h.cell (p := ⟨w.heap.size + 1, 4, none⟩) (by show w.heap.size + 1 < _; omega)).trans q4⟩
  have Hcf := Lib.hid (fun (W : World) (h : Below W0.heap.size W0 W) => (hcf W (hbw.trans (h.mono (by omega)))).mono fun e w' (hh : _ ∧ _) => (⟨hh.1, h.trans (hh.2.mono h.size)⟩ : e = .returned (.int .i64 C) ∧ Below W0.heap.size W0 w'))
  have hci := Lib.hid (fun (W : World) (h : Below W0.heap.size W0 W) => (cmpInt_any sc sc2 W).mono fun e w' (hh : _ ∧ _) => (⟨hh.1, by rw [hh.2]; exact h⟩ : e = .returned (.int .i64 (ordI sc sc2)) ∧ Below W0.heap.size W0 w'))
  have hcs := Lib.hid (fun (W : World) (h : Below W0.heap.size W0 W) => (cmpStr_any s t W).mono fun e w' (hh : _ ∧ _) => (⟨hh.1, by rw [hh.2]; exact h⟩ : e = .returned (.int .i64 (cmpL s.data.toList t.data.toList)) ∧ Below W0.heap.size W0 w'))
  have HW0 := Lib.hid hW0
  have Hz0 := Lib.hid hz0
  clear hcf hW0 hz0
  generalize ordI sc sc2 = a1 at *
  generalize cmpL s.data.toList t.data.toList = a2 at *
  go_enter Try.func48, Try.ntmps48
  go_wp2_with fail
  rw [HW0.out]
  go_region_held3 (fun W => Below W0.heap.size W0 W ∧ W.cell? ⟨w.heap.size, 0, none⟩ = some (.int .i64 k) ∧ W.cell? ⟨w.heap.size, 1, none⟩ = some (.int .i64 n) ∧ W.cell? ⟨w.heap.size, 2, none⟩ = some (.int .i64 sc) ∧ W.cell? ⟨w.heap.size, 3, none⟩ = some (.string s) ∧ W.cell? ⟨w.heap.size, 4, none⟩ = some (.slice A len cap) ∧ W.cell? ⟨w.heap.size + 1, 0, none⟩ = some (.int .i64 k2) ∧ W.cell? ⟨w.heap.size + 1, 1, none⟩ = some (.int .i64 n2) ∧ W.cell? ⟨w.heap.size + 1, 2, none⟩ = some (.int .i64 sc2) ∧ W.cell? ⟨w.heap.size + 1, 3, none⟩ = some (.string t) ∧ W.cell? ⟨w.heap.size + 1, 4, none⟩ = some (.slice A2 len2 cap2))
    (first | exact hk.out _ (Below.drew (Below.refl _ _)) | exact hk.out _ (Below.refl _ _) | exact hk.out _ (by assumption) | exact hk.out _ (Below.drew (by assumption)) | exact hk.out _ (Below.alloc (by assumption) (Below.size (by assumption)) _))
    (first
      | (go_at_call 43; (with_reducible refine (hci.out _ ?_).mono ?_); (first | assumption | (apply And.left; assumption)); rintro e wx ⟨rfl, hbx⟩)
      | (go_at_call 57; (with_reducible refine (hcs.out _ ?_).mono ?_); (first | assumption | (apply And.left; assumption)); rintro e wy ⟨rfl, hby⟩)
      | (go_at_call 36; (with_reducible refine (Hcf.out _ ?_).mono ?_); (first | assumption | (apply And.left; assumption)); rintro e wz ⟨rfl, hbz⟩)
      | (go_at_call 45; (with_reducible refine (or3 _ _ _ _).mono ?_); rintro e wv ⟨rfl, rfl⟩))
  all_goals
    go_wp2
    go_ret
    refine ⟨rfl, hbw.trans (Below.mono ?_ hbw.size)⟩
    first | assumption | (apply And.left; assumption)
end Go.Proofs.Ytcdaipkkddgbeaa
