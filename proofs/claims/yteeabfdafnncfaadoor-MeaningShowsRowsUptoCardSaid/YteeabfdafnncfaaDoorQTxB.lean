/-
  Package value: a number with zeros ahead of it, and a decimal.
-/
import Derived.Test.YteeabfdafnncfaaDoorQTxA
import Derived.Test.YteeabfdafnncfaaDoorQShelf
import Derived.Test.YteeabfdafnncfaaDoorProg
import Derived.Deep.QuietTactic
import Derived.BigQuiet
namespace Go.Proofs.YteeabfdafnncfaaDoor
open Go.RowKit

/-- The tables that the texts of values read. -/
def PowTab (B : Nat) (w : World) : Prop := 3 < B ∧ 0 < B ∧ Lib.TabIs Tryd.prog w "internal/strconv.uint64pow10" .u64 Lib.pow10Tab ∧ ∃ m, w.cell? ⟨0, 0, none⟩ = some (.int .i64 m)
theorem PowTab.keep {B : Nat} {w w' : World} (h : PowTab B w) (hs : Same B w w') : PowTab B w' := by
  obtain ⟨h1, h2, h3, m, h4⟩ := h
  refine ⟨h1, h2, ?_, m, (hs.cell (p := ⟨0, 0, none⟩) h2).trans h4⟩
  unfold Lib.TabIs World.var? at *
  have hg : (Tryd.prog).globalNamed "internal/strconv.uint64pow10" = some 3 := by kernel_rfl
  rw [hg] at h3 ⊢
  simp only [Option.bind_some] at h3 ⊢
  rw [hs _ h1]
  exact h3
theorem below_grew (w : World) (k : Nat) (os : Array Obj) : Below w.heap.size w (Sort.grow (w.drewN k) os) :=
  ⟨rfl, rfl, rfl, by simp [Sort.grow], fun j hj => by simp [Sort.grow, Array.getElem?_append, hj]⟩
theorem below_drewNb (w : World) (n : Nat) : Below w.heap.size w (w.drewN n) := ⟨rfl, rfl, rfl, Nat.le_refl _, fun _ _ => rfl⟩
/-- strconv.Itoa. -/
theorem itoa_any (n : Int) (B : Nat) (w : World) (hn : I64 n) (hT : PowTab B w) : Calls Tryd.prog 20 #[.int .i64 n] w fun e w' => e = .returned (.string (bs (Lib.itoa n))) ∧ Below w.heap.size w w' :=
  (Tryd.strconv_Itoa n hn.1 hn.2 w hT.2.2.1).mono fun e w' ⟨he, k, os, hw⟩ => ⟨he, by rw [hw]; exact below_grew w k os⟩
theorem rep_zero (c : Nat) : Lib.repeatL [48] c = List.replicate c 48 := by
  induction c with
  | zero => rfl
  | succ c ih => rw [Lib.repeatL, ih]; rfl
theorem repeat_any (c : Nat) (w : World) (hc : c ≤ 1000) : Calls Tryd.prog 47 #[.string ⟨#[48]⟩, .int .i64 (c : Int)] w fun e w' => e = .returned (.string (bs (List.replicate c 48))) ∧ Below w.heap.size w w' :=
  (Tryd.strings_Repeat ⟨#[48]⟩ c w (by omega) (by simp [ByteArray.size]; omega)).mono fun e w' ⟨he, hb⟩ => ⟨by rw [he, ← rep_zero]; rfl, hb⟩
set_option maxRecDepth 100000 in
set_option maxHeartbeats 1000000 in
theorem vpadded_any (n : Int) (k : Int) (B : Nat) (w : World) (hn : I64 n) (hk0 : 0 ≤ k) (hk : k ≤ 20) (hT : PowTab B w) (_hB : B ≤ w.heap.size) :
    Calls Tryd.prog 34 #[.int .i64 n, .int .i64 k] w fun e w' => e = .returned (.string (bs (padL n k))) ∧ Below w.heap.size w w' := by
  have hI := Lib.hid (itoa_any n B w hn hT)
  have hl := itoa_len n hn
  obtain ⟨L, hL⟩ : ∃ L, Lib.itoa n = L := ⟨_, rfl⟩
  rw [hL] at hl hI
  have hR := Lib.hid fun W => repeat_any (k.toNat - L.length) W (by omega)
  have hfin : bs (List.replicate (k.toNat - L.length) 48) ++ bs L = bs (padL n k) := by rw [bs_cat]; unfold padL; rw [hL]
  have hfin := Lib.hid hfin
  have hsz := bs_size L
  have hsz2 := bs_size (List.replicate (k.toNat - L.length) 48)
  simp only [List.length_replicate] at hsz2
  have e0 : max (k - (L.length : Int)) 0 = ((k.toNat - L.length : Nat) : Int) := by omega
  clear hT
  go_enter Tryd.func34, Tryd.ntmps34
  go_wp2_with (first | (go_at_call 20; refine (hI.out).mono ?_; rintro e w' ⟨rfl, hb⟩) | (go_at_call 47; refine (hR.out _).mono ?_; rintro e w' ⟨rfl, hb2⟩))
  go_ret
  exact ⟨rfl, hb.trans (hb2.mono hb.size)⟩
theorem dec_eq {n sc : Int} {sg : List UInt8} {D : List UInt8} (hs : sg = if n < 0 then [45] else []) (hD : D = padL (if n < 0 then -n else n) (sc + 1)) (h0 : 0 ≤ sc) (N : Nat) (hN : D.length = N) (h1 : sc ≤ N) :
    bs sg ++ (bs D).extract 0 ((N : Int) - sc).toNat ++ ⟨#[46]⟩ ++ (bs D).extract ((N : Int) - sc).toNat N = bs (decL n sc) := by
  have e1 : ((N : Int) - sc).toNat = N - sc.toNat := by omega
  rw [e1, bs_extract, bs_extract, show (⟨#[46]⟩ : ByteArray) = bs [46] from rfl, bs_cat, bs_cat, bs_cat]
  unfold decL
  rw [← hs, ← hD, hN, List.drop_zero, Nat.sub_zero]
  congr 2
  rw [List.take_of_length_le]
  rw [List.length_drop, hN]
  exact Nat.le_refl _
set_option maxRecDepth 100000 in
set_option maxHeartbeats 2000000 in
theorem vdecimal_any (n sc : Int) (B : Nat) (w : World) (hn0 : -999999999999999999 ≤ n) (hn1 : n ≤ 999999999999999999) (hk0 : 0 ≤ sc) (hk : sc ≤ 12) (hT : PowTab B w) (hB : B ≤ w.heap.size) :
    Calls Tryd.prog 21 #[.int .i64 n, .int .i64 sc] w fun e w' => e = .returned (.string (bs (decL n sc))) ∧ Below w.heap.size w w' := by
  have hP := Lib.hid (vpadded_any (if n < 0 then -n else n) (sc + 1) B w (by constructor <;> split <;> omega) (by omega) (by omega) hT hB)
  have hge := padL_ge (if n < 0 then -n else n) (sc + 1)
  have hle := padL_len (if n < 0 then -n else n) (sc + 1) (by constructor <;> split <;> omega)
  obtain ⟨D, hD⟩ : ∃ D, D = padL (if n < 0 then -n else n) (sc + 1) := ⟨_, rfl⟩
  rw [← hD] at hP hge hle
  obtain ⟨N, hN⟩ : ∃ N, D.length = N := ⟨_, rfl⟩
  rw [hN] at hge hle
  have hfin := fun sg hs => dec_eq (n := n) (sc := sc) (sg := sg) hs hD hk0 N hN (by omega)
  have hsz : (bs D).size = N := by rw [bs_size, hN]
  obtain ⟨S, hS⟩ : ∃ S, bs D = S := ⟨_, rfl⟩
  rw [hS] at hP hfin hsz
  clear hS hN hD hT
  have HN := Lib.hid hfin
  clear hfin
  by_cases h : n < 0
  · rw [if_pos h] at hP
    have hf := Lib.hid (HN.out [45] (by rw [if_pos h]))
    clear HN
    go_enter Tryd.func21, Tryd.ntmps21
    go_wp2_with (go_at_call 34; refine (hP.out).mono ?_; rintro e w' ⟨rfl, hb⟩)
    go_quiet (fail)
    go_wp2
    go_ret
    exact ⟨by rw [← hf.out]; rfl, hb.trans ((below_drewNb _ _).mono hb.size)⟩
  · rw [if_neg h] at hP
    have hf := Lib.hid (HN.out [] (by rw [if_neg h]))
    clear HN
    go_enter Tryd.func21, Tryd.ntmps21
    go_wp2_with (go_at_call 34; refine (hP.out).mono ?_; rintro e w' ⟨rfl, hb⟩)
    go_quiet (fail)
    go_wp2
    go_ret
    exact ⟨by rw [← hf.out]; rfl, hb.trans ((below_drewNb _ _).mono hb.size)⟩
end Go.Proofs.YteeabfdafnncfaaDoor
