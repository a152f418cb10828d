/-
  The reference of package value: the text of a decimal.
-/
import Derived.Test.YteeabfdafnncfaaDoorQTxS
import Derived.Test.YteeabfdafnncfaaDoorQTxBx
import Derived.Test.YteeabfdafnncfaaDoorQTxRb
namespace Go.Proofs.YteeabfdafnncfaaDoor
open Go.RowKit
set_option maxRecDepth 100000 in
set_option maxHeartbeats 4000000 in
theorem rtext_dec (n sc : Int) (s : ByteArray) (A : Option Addr) (len cap B : Nat) (w : World) (hn0 : -999999999999999999 ≤ n) (hn1 : n ≤ 999999999999999999) (hk0 : 0 ≤ sc) (hk : sc ≤ 12) (hT : PowTab B w) (hB : B ≤ w.heap.size) :
    Calls Tryd.prog 17 #[.agg #[.int .i64 3, .int .i64 n, .int .i64 sc, .string s, .slice A len cap]] w fun e w' => e = .returned (.string (bs (leafL 3 n sc s))) ∧ Below w.heap.size w w' := by
  have hS : ∀ o, PowTab B (w.alloc o) := fun o => hT.keep ((Same.refl B w).alloc hB o)
  have hz : ∀ o, B ≤ (w.alloc o).heap.size := fun o => by simp; omega
  have hP := Lib.hid fun o => rdigits_any (if n < 0 then -n else n) (sc + 1) B (w.alloc o) (by constructor <;> split <;> omega) (by omega) (by omega) (hS o) (hz o)
  have hge := padL_ge (if n < 0 then -n else n) (sc + 1)
  have hle := padL_len (if n < 0 then -n else n) (sc + 1) (by constructor <;> split <;> omega)
  have hleaf : leafL 3 n sc s = decL n sc := rfl
  rw [hleaf]
  clear hleaf
  obtain ⟨D, hD⟩ : ∃ D, D = padL (if n < 0 then -n else n) (sc + 1) := ⟨_, rfl⟩
  rw [← hD] at hP hge hle
  obtain ⟨N, hN⟩ : ∃ N, D.length = N := ⟨_, rfl⟩
  rw [hN] at hge hle
  have hfin := fun sg hs => dec_eq (n := n) (sc := sc) (sg := sg) hs hD hk0 N hN (by omega)
  have hsz : (bs D).size = N := by rw [bs_size, hN]
  obtain ⟨S, hSS⟩ : ∃ S, bs D = S := ⟨_, rfl⟩
  rw [hSS] at hP hfin hsz
  clear hSS hN hD hT hS hz
  have HN := Lib.hid hfin
  clear hfin
  by_cases h : n < 0
  · rw [if_pos h] at hP
    have hf := Lib.hid (HN.out [45] (by rw [if_pos h]))
    clear HN
    go_enter Tryd.func17, Tryd.ntmps17
    go_wp2_with fail
    refine (hP.out _).mono ?_
    rintro e w2 ⟨rfl, hb⟩
    obtain ⟨k0, k1, k2, k3, k4, hb2⟩ := box5 hb
    have Hb := Lib.hid hb2
    clear hb hb2 hP
    go_wp2_with fail
    go_quiet (fail)
    go_wp2
    go_ret
    exact ⟨by rw [← hf.out]; rfl, Hb.out.trans ((below_drewNb _ _).mono Hb.out.size)⟩
  · rw [if_neg h] at hP
    have hf := Lib.hid (HN.out [] (by rw [if_neg h]))
    clear HN
    go_enter Tryd.func17, Tryd.ntmps17
    go_wp2_with fail
    refine (hP.out _).mono ?_
    rintro e w2 ⟨rfl, hb⟩
    obtain ⟨k0, k1, k2, k3, k4, hb2⟩ := box5 hb
    have Hb := Lib.hid hb2
    clear hb hb2 hP
    go_wp2_with fail
    go_quiet (fail)
    go_wp2
    go_ret
    exact ⟨by rw [← hf.out]; rfl, Hb.out.trans ((below_drewNb _ _).mono Hb.out.size)⟩
end Go.Proofs.YteeabfdafnncfaaDoor
