/-
  Comparisons of the library: cmp.Compare, cmp.Or.
-/
import Derived.Test.YtcdaipkkddgbeaaQSoC
namespace Go.Proofs.Ytcdaipkkddgbeaa
open Go.RowKit
set_option maxRecDepth 100000 in
set_option maxHeartbeats 1000000 in
theorem cmpInt_any (x y : Int) (w : World) : Calls Try.prog 43 #[.int .i64 x, .int .i64 y] w fun e w' => e = .returned (.int .i64 (ordI x y)) ∧ w' = w := by
  have hN : Hid (∀ (z : Int) (W : World), Calls Try.prog 52 #[.int .i64 z] W fun e w' => e = .returned (.bool false) ∧ w' = W) := fun z W => by
    go_enter Try.func52, Try.ntmps52
    go_wp2
    go_ret
    exact ⟨rfl, rfl⟩
  obtain ⟨R, hR⟩ : ∃ R, ordI x y = R := ⟨_, rfl⟩
  have HR := Lib.hid hR
  rw [hR]
  clear hR
  rcases Int.lt_trichotomy x y with h | h | h
  · have hr := Lib.hid (show (-1 : Int) = R by rw [← HR.out]; unfold ordI; rw [if_pos h])
    clear HR
    go_enter Try.func43, Try.ntmps43
    go_wp2_with (go_at_call 52; refine (hN.out _ _).mono ?_; rintro e w' ⟨rfl, rfl⟩)
    go_ret
    exact ⟨by rw [← hr.out]; rfl, rfl⟩
  · subst h
    have hr := Lib.hid (show (0 : Int) = R by rw [← HR.out]; unfold ordI; rw [if_neg (by omega), if_neg (by omega)])
    clear HR
    go_enter Try.func43, Try.ntmps43
    go_wp2_with (go_at_call 52; refine (hN.out _ _).mono ?_; rintro e w' ⟨rfl, rfl⟩)
    go_ret
    exact ⟨by rw [← hr.out]; rfl, rfl⟩
  · have hr := Lib.hid (show (1 : Int) = R by rw [← HR.out]; unfold ordI; rw [if_neg (by omega), if_pos h])
    have hn : ¬ x < y := by omega
    clear HR
    go_enter Try.func43, Try.ntmps43
    go_wp2_with (go_at_call 52; refine (hN.out _ _).mono ?_; rintro e w' ⟨rfl, rfl⟩)
    go_ret
    exact ⟨by rw [← hr.out]; rfl, rfl⟩
end Go.Proofs.Ytcdaipkkddgbeaa
