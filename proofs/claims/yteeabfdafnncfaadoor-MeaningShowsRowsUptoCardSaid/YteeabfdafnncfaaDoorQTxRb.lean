/-
  The reference of package value: a number's digits.
-/
import Derived.Test.YteeabfdafnncfaaDoorQTxB
namespace Go.Proofs.YteeabfdafnncfaaDoor
open Go.RowKit
/-- A text's bytes. -/
def strV : Value → ByteArray
  | .string s => s
  | _ => ByteArray.empty
theorem pad_zero (k : Nat) (l : List UInt8) : bs [48] ++ bs (List.replicate k 48 ++ l) = bs (List.replicate (k + 1) 48 ++ l) := by
  rw [bs_cat, List.replicate_succ]; rfl
set_option maxRecDepth 100000 in
set_option maxHeartbeats 1000000 in
theorem rdigits_any (n : Int) (k : Int) (B : Nat) (w : World) (hn : I64 n) (hk0 : 0 ≤ k) (hk : k ≤ 20) (hT : PowTab B w) (_hB : B ≤ w.heap.size) :
    Calls Tryd.prog 27 #[.int .i64 n, .int .i64 k] w fun e w' => e = .returned (.string (bs (padL n k))) ∧ Below w.heap.size w w' := by
  have hI := Lib.hid (itoa_any n B w hn hT)
  have hl := itoa_len n hn
  have hfin : ∀ j : Nat, j = k.toNat - (Lib.itoa n).length → bs (List.replicate j 48 ++ Lib.itoa n) = bs (padL n k) := fun j h => by subst h; rfl
  obtain ⟨L, hL⟩ : ∃ L, Lib.itoa n = L := ⟨_, rfl⟩
  rw [hL] at hl hI hfin
  have HF := Lib.hid hfin
  have hsz : ∀ j : Nat, (bs (List.replicate j 48 ++ L)).size = j + L.length := fun j => by rw [bs_size]; simp
  have HS := Lib.hid hsz
  have e0 : bs L = bs (List.replicate 0 48 ++ L) := rfl
  rw [e0] at hI
  clear hT hfin hsz e0 hL
  go_enter Tryd.func27, Tryd.ntmps27
  go_wp2_with (go_at_call 20; refine (hI.out).mono ?_; rintro e w' ⟨rfl, hb⟩)
  go_loop [5] (fun s => ∃ j : Nat, s = .string (bs (List.replicate j 48 ++ L)) ∧ j ≤ k.toNat - L.length) (fun s => 1000 - (strV s).size)
  case atStart => exact ⟨0, rfl, Nat.zero_le _⟩
  case round =>
    obtain ⟨j, rfl, hj⟩ := hrel
    have h1 := HS.out j
    have h2 := HS.out (j + 1)
    by_cases hlt : j < k.toNat - L.length
    · have hp := pad_zero j L
      have hp2 : ({ data := #[48] } : ByteArray) ++ bs (List.replicate j 48 ++ L) = bs (List.replicate (j + 1) 48 ++ L) := hp
      generalize bs (List.replicate j 48 ++ L) = S at *
      have hlt2 : (S.size : Int) < k := by omega
      go_wp2
      go_round
      case rel => exact ⟨j + 1, rfl, by omega⟩
      case measure => simp only [strV]; omega
    · have hf := HF.out j (by omega)
      have hnlt : ¬ ((bs (List.replicate j 48 ++ L)).size : Int) < k := by omega
      rw [hf] at hnlt h1 ⊢
      go_wp2
      go_ret
      exact ⟨rfl, hb⟩
end Go.Proofs.YteeabfdafnncfaaDoor
