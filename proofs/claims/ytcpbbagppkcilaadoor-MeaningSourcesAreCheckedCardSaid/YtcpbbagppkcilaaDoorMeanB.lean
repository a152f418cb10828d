/-
  Package meaning: lists of types that must be plain.
-/
import Derived.Test.YtcpbbagppkcilaaDoorMeanA
import Derived.Test.YtcpbbagppkcilaaDoorData3
namespace Go.Proofs.YtcpbbagppkcilaaDoor
open Go.RowKit
/-- The first error of types that must be plain. -/
def plainsS : List FT → Int
  | [] => 0
  | x :: r => if plainS x ≠ 0 then plainS x else plainsS r
set_option maxRecDepth 100000 in
set_option maxHeartbeats 1000000 in
theorem mplainTypes_any (A : Option Addr) (cap len : Nat) (l : List FT) (B : Nat) (w : World) (hr : FT.TRow B w A cap l) (hB : B ≤ w.heap.size) (hlen : Hid (l.length = len)) :
    Calls Tryd.prog 38 #[.slice A len cap] w fun e w' => e = .returned (.int .i64 (plainsS l)) ∧ Below w.heap.size w w' := by
  have hll : len ≤ 9223372036854775807 := by rw [← hlen.out]; exact Nat.le_trans hr.1 hr.2.1
  obtain ⟨R, hR⟩ : ∃ R, plainsS l = R := ⟨_, rfl⟩
  rw [hR]
  have HR := Lib.hid hR
  clear hR
  go_enter Tryd.func38, Tryd.ntmps38
  go_wp2
  go_loopw [8] (fun i wr => ∃ j : Nat, j ≤ len ∧ i = .int .i64 j ∧ Below w.heap.size w wr ∧ Hid (plainsS (l.drop j) = R)) (fun i _ => len - (intOf i).toNat)
  case atStart => exact ⟨0, Nat.zero_le _, rfl, Below.refl _ _, HR⟩
  case round =>
    obtain ⟨j, hj, rfl, hbr, HRj⟩ := hrel
    by_cases hlt : j < len
    · have hSr := Same.mono (Same.of_below hbr) hB
      obtain ⟨x, ad, hx, rfl, hb, d0, d1, d2⟩ := (hr.keep hSr).get (show j < l.length by rw [hlen.out]; exact hlt)
      have hzr := hbr.size
      have hic := Lib.hid (fun o => mplainType_any x B (wr.alloc o) ((hr.2.2.1 x (mem_of_get? hx)).keep (hSr.alloc (by omega) o)) (by simp; omega))
      have HR2 := HRj.out
      rw [drop_of_get? hx] at HR2
      unfold plainsS at HR2
      have hal : ∀ o, Below w.heap.size w (wr.alloc o) := fun o => hbr.alloc hzr o
      have hal := Lib.hid hal
      by_cases h0 : plainS x = 0
      · have H0 := Lib.hid h0
        have HR3 := Lib.hid (show plainsS (l.drop (j + 1)) = R by rw [← HR2, if_neg (by simp [h0])])
        clear h0 HR2 HRj hr hx
        go_wp2_with fail
        refine (hic.out _).mono ?_
        rintro e w' ⟨rfl, hb2⟩
        rw [H0.out]
        go_wp2
        go_roundw
        case rel => exact ⟨j + 1, by omega, by go_num, (hal.out _).trans (hb2.mono (by simp; omega)), HR3⟩
        case measure => simp [intOf]; omega
      · have n0 : (plainS x != 0) = true := by simpa using h0
        have HR3 := Lib.hid (show plainS x = R by rw [← HR2, if_pos h0])
        clear h0 HR2 HRj hr hx
        go_wp2_with fail
        refine (hic.out _).mono ?_
        rintro e w' ⟨rfl, hb2⟩
        go_wp2
        go_ret
        exact ⟨by rw [← HR3.out]; rfl, (hal.out _).trans (hb2.mono (by simp; omega))⟩
    · have HR3 : Hid (0 = R) := by have := HRj.out; rw [List.drop_eq_nil_of_le (by rw [hlen.out]; omega)] at this; exact this
      go_wp2
      go_ret
      exact ⟨by rw [← HR3.out]; rfl, hbr⟩
end Go.Proofs.YtcpbbagppkcilaaDoor
