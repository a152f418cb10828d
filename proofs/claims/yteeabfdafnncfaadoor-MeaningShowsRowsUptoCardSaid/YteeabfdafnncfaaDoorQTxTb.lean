/-
  The reference of package value: the text of a text.
-/
import Derived.Test.YteeabfdafnncfaaDoorQTxS
import Derived.Test.YteeabfdafnncfaaDoorQTxBx
namespace Go.Proofs.YteeabfdafnncfaaDoor
open Go.RowKit
/-- What the loop over a text has put together: the quote, and the bytes up to a place. -/
def qT (s : ByteArray) (j : Nat) : ByteArray := bs ([39] ++ quoL (s.data.toList.take j))
theorem qT_zero (s : ByteArray) : qT s 0 = ⟨#[39]⟩ := rfl
theorem qT_size (s : ByteArray) (j : Nat) (h : s.size ≤ 256) : (qT s j).size ≤ 513 := by
  unfold qT
  rw [bs_size]
  have h1 := quoL_take s.data.toList j
  have h2 := quoL_len s.data.toList
  have h3 := bytes_len s
  simp only [List.length_append, List.length_singleton]
  omega
theorem qT_step (s : ByteArray) (j : Nat) (h : j < s.size) : (s[j] ≠ 39 → qT s j ++ s.extract j (j + 1) = qT s (j + 1)) ∧ (s[j] = 39 → qT s j ++ s.extract j (j + 1) ++ ⟨#[39]⟩ = qT s (j + 1)) := by
  have hl : j < s.data.toList.length := by rw [bytes_len]; exact h
  have e1 : s.data.toList[j] = s[j] := by simp [ByteArray.getElem_eq_getElem_data]
  have e2 : s.extract j (j + 1) = bs [s[j]] := by
    conv => lhs; rw [← bs_of s]
    rw [bs_extract, List.drop_eq_getElem_cons hl, e1]
    simp
  have e3 : s.data.toList.take (j + 1) = s.data.toList.take j ++ [s[j]] := by rw [List.take_add_one, List.getElem?_eq_getElem hl, e1]; rfl
  unfold qT
  rw [e2, e3, quoL_snoc, bs_cat]
  refine ⟨fun hn => ?_, fun hy => ?_⟩
  · rw [if_neg hn, List.append_assoc]
  · rw [if_pos hy, show (⟨#[39]⟩ : ByteArray) = bs [39] from rfl, bs_cat, hy]
    simp
set_option maxRecDepth 100000 in
set_option maxHeartbeats 4000000 in
theorem rtext_text (n sc : Int) (s : ByteArray) (A : Option Addr) (len cap _B : Nat) (w : World) (hs : s.size ≤ 256) :
    Calls Tryd.prog 17 #[.agg #[.int .i64 4, .int .i64 n, .int .i64 sc, .string s, .slice A len cap]] w fun e w' => e = .returned (.string (bs (leafL 4 n sc s))) ∧ Below w.heap.size w w' := by
  have hf : Hid (qT s s.size ++ ⟨#[39]⟩ = bs (leafL 4 n sc s)) := by
    show _ = _
    unfold qT
    rw [List.take_of_length_le (by rw [bytes_len]; exact Nat.le_refl _), show (⟨#[39]⟩ : ByteArray) = bs [39] from rfl, bs_cat]
    rfl
  have HQ := Lib.hid fun j h => qT_step s j h
  have HZ := Lib.hid fun j => qT_size s j hs
  go_enter Tryd.func17, Tryd.ntmps17
  go_wp2_with fail
  generalize hW1 : World.alloc _ _ = W1
  have hb1 := Lib.hid (show Below w.heap.size w W1 by rw [← hW1]; exact (Below.refl _ _).alloc (Nat.le_refl _) _)
  have hk3 : W1.cell? ⟨w.heap.size, 3, none⟩ = some (.string s) := by rw [← hW1]; simp
  clear hW1
  go_loop [6, 7] (fun o i => ∃ j : Nat, j ≤ s.size ∧ o = .string (qT s j) ∧ i = .int .i64 j) (fun _ i => s.size - (intOf i).toNat)
  case atStart => exact ⟨0, Nat.zero_le _, by rw [qT_zero], rfl⟩
  case round =>
    obtain ⟨j, hj, rfl, rfl⟩ := hrel
    have hz := HZ.out j
    by_cases hlt : j < s.size
    · obtain ⟨hq1, hq2⟩ := HQ.out j hlt
      have a0 : (0 : Int) ≤ (j : Int) := by omega
      have a1 : (j : Int) ≤ (j : Int) + 1 := by omega
      have a2 : (j : Int) + 1 ≤ (s.size : Int) := by omega
      have a3 : ((j : Int) + 1).toNat = j + 1 := by omega
      have hzx : (s.extract j (j + 1)).size = 1 := by rw [ByteArray.size_extract]; omega
      by_cases h39 : s[j] = 39
      · have q2 := hq2 h39
        have e3 : ((s[j].toNat : Int) == 39) = true := by rw [h39]; rfl
        have Hh := Lib.hid q2
        clear hq1 hq2 q2 h39
        go_wp2
        go_round
        case rel => exact ⟨j + 1, by omega, by rw [← Hh.out], by go_num⟩
        case measure => simp [intOf]; omega
      · have q1 := hq1 h39
        have e3 : ((s[j].toNat : Int) == 39) = false := by
          rw [beq_eq_false_iff_ne]
          intro h
          exact h39 (UInt8.toNat_inj.1 (by show s[j].toNat = 39; omega))
        have Hh := Lib.hid q1
        clear hq1 hq2 q1 h39
        go_wp2
        go_round
        case rel => exact ⟨j + 1, by omega, by rw [← Hh.out], by go_num⟩
        case measure => simp [intOf]; omega
    · obtain rfl : j = s.size := by omega
      go_wp2
      go_ret
      exact ⟨by rw [← hf.out]; rfl, hb1.out⟩
end Go.Proofs.YteeabfdafnncfaaDoor
