/-
  Package value: the text of any value.
-/
import Derived.Test.YteeabfdafnncfaaDoorQTxSa
import Derived.Test.YteeabfdafnncfaaDoorQTxBx
import Derived.Test.YteeabfdafnncfaaDoorQValJa
namespace Go.Proofs.YteeabfdafnncfaaDoor
open Go.RowKit
set_option maxRecDepth 100000 in
set_option maxHeartbeats 1000000 in
theorem vText_any (v : VT) (B : Nat) (w : World) (hin : VT.In B w v) (hT : Tabs B w) (hP : PowTab B w) (hB : B ≤ w.heap.size) (hlen : (txtA v).length ≤ 4398046511104) :
    Calls Tryd.prog 7 #[.agg #[.int .i64 v.a.k, .int .i64 v.a.n, .int .i64 v.a.sc, .string v.a.s, .slice v.a.A v.l.length v.a.cap]] w fun e w' => e = .returned (.string (bs (txtA v))) ∧ Below w.heap.size w w' := by
  have hsm : ∀ o, Same B w (w.alloc o) := fun o => (Same.refl B w).alloc hB o
  have hz : ∀ o, B ≤ (w.alloc o).heap.size := fun o => by simp; omega
  have hS := Lib.hid fun o => vSound_any v B (w.alloc o) (hin.keep (hsm o)) (hT.keep (hsm o)) (hz o)
  have hbw : ∀ o, Below w.heap.size w (w.alloc o) := fun o => (Below.refl _ _).alloc (Nat.le_refl _) _
  cases hsd : (sdV 1 0 v).1
  · rw [hsd] at hS
    have hf := Lib.hid (show ([] : List UInt8) = txtA v by unfold txtA; rw [if_neg (by simp [hsd])])
    clear hsd hin hT hP hlen hsm
    go_enter Tryd.func7, Tryd.ntmps7
    go_wp2_with (go_at_call 11; refine (hS.out _).mono ?_; rintro e w' ⟨rfl, hb⟩)
    go_ret
    exact ⟨by rw [← hf.out]; rfl, (hbw _).trans (hb.mono (by simp))⟩
  · rw [hsd] at hS
    have hf := Lib.hid (show txtV v = txtA v by unfold txtA; rw [if_pos hsd])
    have hw := Lib.hid fun o w2 (hb : Below (w.alloc o).heap.size (w.alloc o) w2) =>
      have hS2 : Same B w w2 := (hsm o).trans (Same.mono (Same.of_below hb) (hz o))
      vshow_any v B w2 (hin.keep hS2) (hP.keep hS2) (Nat.le_trans (hz o) hb.size) (ok_of_sd v 1 0 hsd) (by rw [hf.out]; exact hlen)
    clear hsd hin hT hP hlen hsm
    go_enter Tryd.func7, Tryd.ntmps7
    go_wp2_with fail
    refine (hS.out _).mono ?_
    rintro e w2 ⟨rfl, hb⟩
    obtain ⟨k0, k1, k2, k3, k4, hb2⟩ := box5 hb
    have hc := Lib.hid (hw.out _ w2 hb)
    have Hb := Lib.hid hb2
    clear hb hb2 hS hw
    go_wp2_with (go_at_call 12; refine (hc.out).mono ?_; rintro e w' ⟨rfl, hb3⟩)
    go_ret
    exact ⟨by rw [← hf.out]; rfl, Hb.out.trans (hb3.mono Hb.out.size)⟩
end Go.Proofs.YteeabfdafnncfaaDoor
