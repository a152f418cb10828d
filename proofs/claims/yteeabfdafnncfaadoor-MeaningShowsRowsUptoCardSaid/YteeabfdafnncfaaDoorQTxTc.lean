/-
  The reference of package value: the text of a moment.
-/
import Derived.Test.YteeabfdafnncfaaDoorQTxRa
import Derived.Test.YteeabfdafnncfaaDoorQTxRb
import Derived.Lib.QuietBelow
namespace Go.Proofs.YteeabfdafnncfaaDoor
open Go.RowKit
set_option maxRecDepth 100000 in
set_option maxHeartbeats 2000000 in
theorem rtext_moment (m sc : Int) (s : ByteArray) (A : Option Addr) (len cap B : Nat) (w : World) (h0 : -62135596800 ≤ m) (h1 : m ≤ 253402300799) (hT : PowTab B w) (hB : B ≤ w.heap.size) :
    Calls Tryd.prog 17 #[.agg #[.int .i64 5, .int .i64 m, .int .i64 sc, .string s, .slice A len cap]] w fun e w' => e = .returned (.string (bs (leafL 5 m sc s))) ∧ Below w.heap.size w w' := by
  have hleaf : leafL 5 m sc s = momL m := rfl
  rw [hleaf]
  clear hleaf
  have hC := Lib.hid fun o => rcivil_any m (w.alloc o) h0 h1
  have hf := Lib.hid (show bs (padL (yI (m / 86400)) 4 ++ [45] ++ padL (moI (m / 86400)) 2 ++ [45] ++ padL (dI (m / 86400)) 2 ++ [84] ++ padL (m % 86400 / 3600) 2 ++ [58] ++ padL (m % 86400 % 3600 / 60) 2 ++ [58] ++ padL (m % 86400 % 60) 2 ++ [90]) = bs (momL m) from rfl)
  obtain ⟨_, m1, m2, d1, d2, y0, y1⟩ := ymd_ok (m / 86400) (by omega)
  have y1 := y1 (by omega)
  have d3 := md_bd (yI (m / 86400)) (moI (m / 86400))
  have b0 : 0 ≤ m % 86400 := by omega
  have b1 : m % 86400 < 86400 := by omega
  generalize m % 86400 = sx at *
  generalize m / 86400 = d at *
  generalize yI d = Y at *
  generalize moI d = M at *
  generalize dI d = G at *
  have q0 : 0 ≤ sx / 3600 ∧ sx / 3600 ≤ 100 := by omega
  have q1 : 0 ≤ sx % 3600 / 60 ∧ sx % 3600 / 60 ≤ 100 := by omega
  have q2 : 0 ≤ sx % 60 ∧ sx % 60 ≤ 100 := by omega
  generalize sx / 3600 = H at *
  generalize sx % 3600 / 60 = I at *
  generalize sx % 60 = J at *
  have y9 : Y ≤ 10000 := y1
  have M9 : 0 ≤ M ∧ M ≤ 12 := by omega
  have G9 : 0 ≤ G ∧ G ≤ 31 := by omega
  clear h0 h1 d1 d2 d3 m1 m2 b0 b1 y1
  go_enter Tryd.func17, Tryd.ntmps17
  go_wp2_with (go_at_call 28; refine (hC.out _).mono ?_; rintro e w' ⟨rfl, hb0⟩)
  have hb : Below w.heap.size w w' := ((Below.refl _ w).alloc (Nat.le_refl _) _).trans (hb0.mono (by simp))
  clear hb0
  obtain ⟨b, hbb⟩ : ∃ b, w'.heap.size = b := ⟨_, rfl⟩
  generalize hW : World.alloc _ _ = W0
  rw [hbb]
  have hbW : Below w.heap.size w W0 := by rw [← hW]; exact hb.alloc hb.size _
  have hk : Hid (∀ W, Below W0.heap.size W0 W → ∀ i v, W0.cell? ⟨b, i, none⟩ = some v → ∀ d os, (Sort.grow (redrawn W d) os).cell? ⟨b, i, none⟩ = some v) := fun W h i v hv => cell_regrown ((h.cell (block_lt_of_cell hv)).trans hv)
  have c0 : W0.cell? ⟨b, 0, none⟩ = some (.int .i64 Y) := by rw [← hW, ← hbb]; simp
  have c1 : W0.cell? ⟨b, 1, none⟩ = some (.int .i64 M) := by rw [← hW, ← hbb]; simp
  have c2 : W0.cell? ⟨b, 2, none⟩ = some (.int .i64 G) := by rw [← hW, ← hbb]; simp
  have c3 : W0.cell? ⟨b, 3, none⟩ = some (.int .i64 H) := by rw [← hW, ← hbb]; simp
  have c4 : W0.cell? ⟨b, 4, none⟩ = some (.int .i64 I) := by rw [← hW, ← hbb]; simp
  have c5 : W0.cell? ⟨b, 5, none⟩ = some (.int .i64 J) := by rw [← hW, ← hbb]; simp
  have hP : Hid (∀ (W : World) (n k : Int) (d : Nat) (os : Array Obj), Below W0.heap.size W0 W → I64 n → 0 ≤ k → k ≤ 20 → Calls Tryd.prog 27 #[.int .i64 n, .int .i64 k] (Sort.grow (redrawn W d) os) fun e w'' => e = .returned (.string (bs (padL n k))) ∧ ∃ p : Regrown, w'' = Sort.grow (redrawn W p.d) p.os) := fun W n k d os h hn k0 k1 =>
    have hbW2 := hbW.trans (h.mono hbW.size)
    Calls.regrown_of (rdigits_any n k B _ hn k0 k1 (hT.keep (Same.mono (Same.of_below (hbW2.trans ((below_regrown W d os).mono hbW2.size))) hB)) (Nat.le_trans hB (Nat.le_trans hbW2.size (below_regrown W d os).size)))
  have hHbw := Lib.hid hbW
  clear hW hbb hb hbW hT
  have lY : (bs (padL Y 4)).size ≤ 30 := by rw [bs_size]; exact Nat.le_trans (padL_len _ _ ⟨by omega, by omega⟩) (by omega)
  have lM : (bs (padL M 2)).size ≤ 30 := by rw [bs_size]; exact Nat.le_trans (padL_len _ _ ⟨by omega, by omega⟩) (by omega)
  have lG : (bs (padL G 2)).size ≤ 30 := by rw [bs_size]; exact Nat.le_trans (padL_len _ _ ⟨by omega, by omega⟩) (by omega)
  have lH : (bs (padL H 2)).size ≤ 30 := by rw [bs_size]; exact Nat.le_trans (padL_len _ _ ⟨by omega, by omega⟩) (by omega)
  have lI : (bs (padL I 2)).size ≤ 30 := by rw [bs_size]; exact Nat.le_trans (padL_len _ _ ⟨by omega, by omega⟩) (by omega)
  have lJ : (bs (padL J 2)).size ≤ 30 := by rw [bs_size]; exact Nat.le_trans (padL_len _ _ ⟨by omega, by omega⟩) (by omega)
  have hPY := Lib.hid fun d os => hP.out W0 Y 4 d os (Below.refl _ _) ⟨by omega, by omega⟩ (by omega) (by omega)
  have hPM := Lib.hid fun d os => hP.out W0 M 2 d os (Below.refl _ _) ⟨by omega, by omega⟩ (by omega) (by omega)
  have hPG := Lib.hid fun d os => hP.out W0 G 2 d os (Below.refl _ _) ⟨by omega, by omega⟩ (by omega) (by omega)
  have hPH := Lib.hid fun d os => hP.out W0 H 2 d os (Below.refl _ _) ⟨by omega, by omega⟩ (by omega) (by omega)
  have hPI := Lib.hid fun d os => hP.out W0 I 2 d os (Below.refl _ _) ⟨by omega, by omega⟩ (by omega) (by omega)
  have hPJ := Lib.hid fun d os => hP.out W0 J 2 d os (Below.refl _ _) ⟨by omega, by omega⟩ (by omega) (by omega)
  have k0 := hk.out W0 (Below.refl _ _) 0 _ c0
  have k1 := hk.out W0 (Below.refl _ _) 1 _ c1
  have k2 := hk.out W0 (Below.refl _ _) 2 _ c2
  have k3 := hk.out W0 (Below.refl _ _) 3 _ c3
  have k4 := hk.out W0 (Below.refl _ _) 4 _ c4
  have k5 := hk.out W0 (Below.refl _ _) 5 _ c5
  clear hP hC hk c0 c1 c2 c3 c4 c5
  generalize padL Y 4 = LY at *
  generalize padL M 2 = LM at *
  generalize padL G 2 = LG at *
  generalize padL H 2 = LH at *
  generalize padL I 2 = LI at *
  generalize padL J 2 = LJ at *
  have hf : Hid (bs LY ++ bs [45] ++ bs LM ++ bs [45] ++ bs LG ++ bs [84] ++ bs LH ++ bs [58] ++ bs LI ++ bs [58] ++ bs LJ ++ bs [90] = bs (momL m)) := by
    rw [← hf.out, bs_cat, bs_cat, bs_cat, bs_cat, bs_cat, bs_cat, bs_cat, bs_cat, bs_cat, bs_cat, bs_cat]
    exact rfl
  have n1 : ¬ 9223372036854775807 < (bs LY).size + 1 := by omega
  have n2 : ¬ 9223372036854775807 < (bs LY).size + 1 + (bs LM).size := by omega
  have n3 : ¬ 9223372036854775807 < (bs LY).size + 1 + (bs LM).size + 1 := by omega
  have n4 : ¬ 9223372036854775807 < (bs LY).size + 1 + (bs LM).size + 1 + (bs LG).size := by omega
  have n5 : ¬ 9223372036854775807 < (bs LY).size + 1 + (bs LM).size + 1 + (bs LG).size + 1 := by omega
  have n6 : ¬ 9223372036854775807 < (bs LY).size + 1 + (bs LM).size + 1 + (bs LG).size + 1 + (bs LH).size := by omega
  have n7 : ¬ 9223372036854775807 < (bs LY).size + 1 + (bs LM).size + 1 + (bs LG).size + 1 + (bs LH).size + 1 := by omega
  have n8 : ¬ 9223372036854775807 < (bs LY).size + 1 + (bs LM).size + 1 + (bs LG).size + 1 + (bs LH).size + 1 + (bs LI).size := by omega
  have n9 : ¬ 9223372036854775807 < (bs LY).size + 1 + (bs LM).size + 1 + (bs LG).size + 1 + (bs LH).size + 1 + (bs LI).size + 1 := by omega
  have n10 : ¬ 9223372036854775807 < (bs LY).size + 1 + (bs LM).size + 1 + (bs LG).size + 1 + (bs LH).size + 1 + (bs LI).size + 1 + (bs LJ).size := by omega
  have n11 : ¬ 9223372036854775807 < (bs LY).size + 1 + (bs LM).size + 1 + (bs LG).size + 1 + (bs LH).size + 1 + (bs LI).size + 1 + (bs LJ).size + 1 := by omega
  clear lY lM lG lH lI lJ q0 q1 q2
  (refine wp_region_quiet_below (by kernel_rfl) (by kernel_rfl) ?_; (repeat (quiet_step (with_reducible first | exact hPY.out _ _ | exact hPM.out _ _ | exact hPG.out _ _ | exact hPH.out _ _ | exact hPI.out _ _ | exact hPJ.out _ _))); refine wpQuiet_nil ?_; intro _ hw'; obtain ⟨⟨dq, osq⟩, hw''⟩ := hw'; subst hw'')
  go_wp2
  go_ret
  refine ⟨?_, hHbw.out.trans ((below_regrown W0 dq osq).mono hHbw.out.size)⟩
  rw [← hf.out]
  rfl
end Go.Proofs.YteeabfdafnncfaaDoor
