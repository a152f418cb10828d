/-
  Package value: the text of a sound value that has no items.
-/
import Derived.Test.YteeabfdafnncfaaDoorQTxS0
namespace Go.Proofs.YteeabfdafnncfaaDoor
open Go.RowKit

theorem fmt_bool (b : Bool) (w : World) : Calls Tryd.prog 19 #[.bool b] w fun e w' => e = .returned (.string (bs (if b = true then [116, 114, 117, 101] else [102, 97, 108, 115, 101]))) ∧ Below w.heap.size w w' :=
  (Tryd.strconv_FormatBool b w).mono fun e w' ⟨he, hw⟩ => ⟨by rw [he]; cases b <;> rfl, by rw [hw]; exact Below.refl _ _⟩
theorem quote_all (s : ByteArray) (B : Nat) (w : World) (hs : s.size ≤ 256) (hT : PowTab B w) : Calls Tryd.prog 22 #[.string s, .string ⟨#[39]⟩, .string ⟨#[39, 39]⟩] w fun e w' => e = .returned (.string (bs (quoL s.data.toList))) ∧ Below w.heap.size w w' := by
  obtain ⟨_, _, _, m, hm⟩ := hT
  have hc := Lib.countB_mul_le ⟨#[39]⟩ (by decide) s.size s (Nat.le_refl _)
  have h1 : (ByteArray.mk #[39]).size = 1 := rfl
  have h2 : (ByteArray.mk #[39, 39]).size = 2 := rfl
  rw [h1] at hc
  exact (Tryd.strings_ReplaceAll s ⟨#[39]⟩ ⟨#[39, 39]⟩ m w (by omega) hm (by decide) (by rw [h2]; omega)).mono fun e w' ⟨he, hb⟩ => ⟨by rw [he]; show _ = Ending.returned (.string (bs _)); rw [← replaceAll_quo]; rfl, hb⟩
theorem bytes_len (s : ByteArray) : s.data.toList.length = s.size := Array.length_toList
theorem alone_kind {k n sc : Int} {s : ByteArray} {len : Nat} (h : aloneS k n sc s len = true) : k = 0 ∨ (k = 1 ∧ (n = 0 ∨ n = 1)) ∨ (k = 2 ∧ -999999999999999999 ≤ n ∧ n ≤ 999999999999999999) ∨ (k = 3 ∧ -999999999999999999 ≤ n ∧ n ≤ 999999999999999999 ∧ 0 ≤ sc ∧ sc ≤ 12) ∨ (k = 4 ∧ s.size ≤ 256) ∨ (k = 5 ∧ -62135596800 ≤ n ∧ n ≤ 253402300799) ∨ k = 6 ∨ k = 7 := by
  unfold aloneS at h
  by_cases h0 : k = 0
  · exact .inl h0
  by_cases h1 : k = 1
  · subst h1; simp [withinB] at h; omega
  by_cases h2 : k = 2
  · subst h2; simp [withinB] at h; omega
  by_cases h3 : k = 3
  · subst h3; simp [withinB] at h; omega
  by_cases h4 : k = 4
  · subst h4; simp [charsB] at h; omega
  by_cases h5 : k = 5
  · subst h5; simp [withinB] at h; omega
  by_cases h6 : k = 6
  · omega
  by_cases h7 : k = 7
  · omega
  · simp [h0, h1, h2, h3, h4, h5, h6, h7] at h
set_option maxRecDepth 100000 in
set_option maxHeartbeats 4000000 in
theorem vshow_leaf (k n sc : Int) (s : ByteArray) (A : Option Addr) (len cap B : Nat) (w : World) (hal : aloneS k n sc s len = true) (h6 : k ≠ 6) (h7 : k ≠ 7) (hT : PowTab B w) (hB : B ≤ w.heap.size) :
    Calls Tryd.prog 12 #[.agg #[.int .i64 k, .int .i64 n, .int .i64 sc, .string s, .slice A len cap]] w fun e w' => e = .returned (.string (bs (leafL k n sc s))) ∧ Below w.heap.size w w' := by
  have hS : ∀ o, PowTab B (w.alloc o) := fun o => hT.keep ((Same.refl B w).alloc hB o)
  have hbw : ∀ o, Below w.heap.size w (w.alloc o) := fun o => (Below.refl _ _).alloc (Nat.le_refl _) _
  have hz : ∀ o, B ≤ (w.alloc o).heap.size := fun o => by simp; omega
  rcases alone_kind hal with rfl | ⟨rfl, rfl | rfl⟩ | ⟨rfl, n0, n1⟩ | ⟨rfl, n0, n1, c0, c1⟩ | ⟨rfl, hs⟩ | ⟨rfl, n0, n1⟩ | rfl | rfl
  · clear hal hT hS
    go_enter Tryd.func12, Tryd.ntmps12
    go_wp2
    go_ret
    exact ⟨rfl, hbw _⟩
  · have hF := Lib.hid fun W => fmt_bool false W
    clear hal hT hS
    go_enter Tryd.func12, Tryd.ntmps12
    go_wp2_with (go_at_call 19; refine (hF.out _).mono ?_; rintro e w' ⟨rfl, hb⟩)
    go_ret
    exact ⟨rfl, (hbw _).trans (hb.mono (by simp))⟩
  · have hF := Lib.hid fun W => fmt_bool true W
    clear hal hT hS
    go_enter Tryd.func12, Tryd.ntmps12
    go_wp2_with (go_at_call 19; refine (hF.out _).mono ?_; rintro e w' ⟨rfl, hb⟩)
    go_ret
    exact ⟨rfl, (hbw _).trans (hb.mono (by simp))⟩
  · have hF := Lib.hid fun o => itoa_any n B (w.alloc o) ⟨by omega, by omega⟩ (hS o)
    clear hal hT hS
    go_enter Tryd.func12, Tryd.ntmps12
    go_wp2_with (go_at_call 20; refine (hF.out _).mono ?_; rintro e w' ⟨rfl, hb⟩)
    go_ret
    exact ⟨rfl, (hbw _).trans (hb.mono (by simp))⟩
  · have hF := Lib.hid fun o => vdecimal_any n sc B (w.alloc o) n0 n1 c0 c1 (hS o) (hz o)
    clear hal hT hS
    go_enter Tryd.func12, Tryd.ntmps12
    go_wp2_with (go_at_call 21; refine (hF.out _).mono ?_; rintro e w' ⟨rfl, hb⟩)
    go_ret
    exact ⟨rfl, (hbw _).trans (hb.mono (by simp))⟩
  · have hF := Lib.hid fun o => quote_all s B (w.alloc o) hs (hS o)
    have hl := quoL_len s.data.toList
    have hl2 := bytes_len s
    have hq : leafL 4 n sc s = [39] ++ quoL s.data.toList ++ [39] := rfl
    have hf : bs [39] ++ bs (quoL s.data.toList) ++ bs [39] = bs (leafL 4 n sc s) := by rw [hq, bs_cat, bs_cat]
    have hsz := bs_size (quoL s.data.toList)
    generalize quoL s.data.toList = Q at *
    have HF := Lib.hid hf
    clear hal hT hS hf hq
    go_enter Tryd.func12, Tryd.ntmps12
    go_wp2_with (go_at_call 22; refine (hF.out _).mono ?_; rintro e w' ⟨rfl, hb⟩)
    go_ret
    exact ⟨by rw [← HF.out]; rfl, (hbw _).trans (hb.mono (by simp))⟩
  · have hF := Lib.hid fun o => vmoment_any n B (w.alloc o) n0 n1 (hS o) (hz o)
    clear hal hT hS
    go_enter Tryd.func12, Tryd.ntmps12
    go_wp2_with (go_at_call 23; refine (hF.out _).mono ?_; rintro e w' ⟨rfl, hb⟩)
    go_ret
    exact ⟨rfl, (hbw _).trans (hb.mono (by simp))⟩
  · exact absurd rfl h6
  · exact absurd rfl h7
end Go.Proofs.YteeabfdafnncfaaDoor
