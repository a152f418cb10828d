/-
  The law on rows that are shown, walked.
-/
import Derived.Test.YteeabfdafnncfaaDoorQTxUa
import Derived.Test.YteeabfdafnncfaaDoorQTxV
namespace Go.Proofs.YteeabfdafnncfaaDoor
open Go.RowKit
/-- Two lists of the same texts are equal. -/
theorem eq_strs (A1 A2 : Option Addr) (c1 c2 : Nat) (L : List (List UInt8)) (w : World) (h1 : StrAt w A1 L) (h2 : StrAt w A2 L) (hn : L.length ≤ 1048576) :
    Calls Tryd.prog 4 #[.slice A1 L.length c1, .slice A2 L.length c2] w fun e w' => e = .returned (.bool true) ∧ Below w.heap.size w w' := by
  cases L with
  | nil =>
    exact (Tryd.slices_Equal_string_empty A1 A2 c1 0 c2 w (by omega)).mono fun e w' ⟨he, hw⟩ => ⟨by rw [he]; simp, by rw [hw]; exact Below.refl _ _⟩
  | cons x r =>
    obtain ⟨b1, e1, _, _⟩ := h1 0 x rfl
    obtain ⟨b2, e2, _, _⟩ := h2 0 x rfl
    subst e1 e2
    have hl : ((x :: r).map bs).length = (x :: r).length := by rw [List.length_map]
    have hcell : ∀ (b : Nat), StrAt w (some ⟨b, 0, none⟩) (x :: r) → ∀ j, j < ((x :: r).map bs).length → w.cell? ⟨b, 0 + j, none⟩ = some (.string (((x :: r).map bs).getD j ByteArray.empty)) := fun b h j hj => by
      rw [hl] at hj
      obtain ⟨g, e, _, hc⟩ := h j (x :: r)[j] (List.getElem?_eq_getElem hj)
      cases e
      rw [hc, List.getD_eq_getElem?_getD, List.getElem?_map, List.getElem?_eq_getElem hj]
      rfl
    have := Tryd.slices_Equal_string b1 0 (x :: r).length c1 b2 0 (x :: r).length c2 ((x :: r).map bs) ((x :: r).map bs) w (by rw [hl]; exact Nat.le_refl _) (by rw [hl]; exact Nat.le_refl _) (by omega) (by omega) (hcell b1 h1) (hcell b2 h2)
    exact this.mono fun e w' ⟨he, q, hw⟩ => ⟨by rw [he]; simp, by rw [hw]; exact below_drewNb _ _⟩
set_option maxRecDepth 100000 in
set_option maxHeartbeats 1000000 in
theorem lawS_any (RA : Option Addr) (rcap n : Nat) (rows : List VT) (B : Nat) (w : World) (hr : VT.RRow B w RA rcap rows) (hT : Tabs B w) (hP : PowTab B w) (hB : B ≤ w.heap.size) (hn : rows.length = n) (hmax : n ≤ 1048576) (hfit : RowsFit rows) :
    Calls Tryd.prog 3 #[.slice RA n rcap] w fun e w' => e = .returned (.bool true) ∧ Below w.heap.size w w' := by
  have hM := Lib.hid (mShow_any RA rcap n rows B w hr hT hP hB hn hmax hfit)
  have hR := Lib.hid fun W (h : Below w.heap.size w W) => have hS := Same.mono (Same.of_below h) hB
    rShow_any RA rcap n rows B W (hr.keep hS) (hT.keep hS) (hP.keep hS) (Nat.le_trans hB h.size) hn hmax hfit
  have hmx : rows.length ≤ 1048576 := by omega
  clear hr hT hP hfit
  go_enter Tryd.func3, Tryd.ntmps3
  go_wp2_with fail
  refine hM.out.mono ?_
  rintro e w1 ⟨A1, c1, rfl, hb1, ha1⟩
  have hr1 := Lib.hid (hR.out w1 hb1)
  have Ha1 := Lib.hid ha1
  clear hM hR ha1
  go_wp2_with fail
  refine hr1.out.mono ?_
  rintro e w2 ⟨A2, c2, rfl, hb2, ha2⟩
  have heq := Lib.hid (by
    have := eq_strs A1 A2 c1 c2 (rows.map rowT) w2 (Ha1.out.below hb2) ha2 (by rw [List.length_map]; exact hmx)
    rw [List.length_map, hn] at this
    exact this)
  clear ha2 hr1
  go_wp2_with (go_at_call 4; refine (heq.out).mono ?_; rintro e w' ⟨rfl, hb3⟩)
  go_ret
  exact ⟨rfl, hb1.trans ((hb2.trans (hb3.mono hb2.size)).mono hb1.size)⟩
end Go.Proofs.YteeabfdafnncfaaDoor
