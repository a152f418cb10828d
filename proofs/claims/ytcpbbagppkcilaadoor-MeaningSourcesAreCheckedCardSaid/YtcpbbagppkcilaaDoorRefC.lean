/-
  The reference of package value: one level of a record's type (two loops, one of them in another).
-/
import Derived.Test.YtcpbbagppkcilaaDoorRefB
namespace Go.Proofs.YtcpbbagppkcilaaDoor
open Go.RowKit
set_option maxRecDepth 100000 in
set_option maxHeartbeats 2000000 in
theorem shape_rec0 (A : Option Addr) (cap : Nat) (w : World) :
    Calls Tryd.prog 98 #[.agg #[.int .i64 7, .int .i64 0, .slice A 0 cap]] w fun e w' => e = .returned (.int .i64 1) ∧ Below w.heap.size w w' := by
  have hw := Lib.hid (show withinB 7 1 7 = true by rfl)
  have hlf := Lib.hid (show leafB 7 = false by rfl)
  go_enter Tryd.func98, Tryd.ntmps98
  go_wp2_with (first | (go_at_call 80; refine (rwithin_any _ _ _ _).mono ?_; rintro e w' ⟨rfl, rfl⟩; rw [hw.out]) | (go_at_call 97; refine (rLeaf_any _ _).mono ?_; rintro e w' ⟨rfl, rfl⟩; rw [hlf.out]))
  go_ret
  exact ⟨rfl, (by repeat (first | exact Below.refl _ _ | assumption | apply Below.drew | (refine Below.alloc ?_ ?_ _; rotate_left; (first | exact Nat.le_refl _ | (simp; done) | (simp; omega)))))⟩
theorem names_step {l : List FT} {j : Nat} (h : Hid (∀ i, i < j → nameB (nmAt l i) = true)) (hg : nameB (nmAt l j) = true) : Hid (∀ i, i < j + 1 → nameB (nmAt l i) = true) := by
  intro i hi
  by_cases e : i = j
  · subst e; exact hg
  · exact h i (by omega)
theorem twice_step {l : List FT} {k j : Nat} (h : Hid (∀ k', k' < k → ((nmAt l k').toList == (nmAt l j).toList) = false)) (hg : ((nmAt l k).toList == (nmAt l j).toList) = false) :
    Hid (∀ k', k' < k + 1 → ((nmAt l k').toList == (nmAt l j).toList) = false) := by
  intro i hi
  by_cases e : i = k
  · subst e; exact hg
  · exact h i (by omega)
theorem twice_step2 {l : List FT} {k j : Nat} (h : Hid (∀ i k, i < j → k < i → ((nmAt l k).toList == (nmAt l i).toList) = false)) (h' : Hid (∀ k', k' < k → ((nmAt l k').toList == (nmAt l j).toList) = false)) (hk : j ≤ k) :
    Hid (∀ i k, i < j + 1 → k < i → ((nmAt l k).toList == (nmAt l i).toList) = false) := by
  intro i q hi hq
  by_cases e : i = j
  · subst e; exact h' q (by omega)
  · exact h i q (by omega) hq
def recS (l : List FT) : Int := if namesB l = false then 4 else if twiceB l = true then 5 else 0
set_option maxRecDepth 100000 in
set_option maxHeartbeats 4000000 in
theorem shape_rec (B : Nat) (A : Option Addr) (cap len : Nat) (l : List FT) (w : World) (hr : FT.Row B w A cap l) (hin : ∀ x, x ∈ l → FT.In B w x) (hB : B ≤ w.heap.size) (h0 : 0 < len) (hlen : Hid (l.length = len)) :
    Calls Tryd.prog 98 #[.agg #[.int .i64 7, .int .i64 0, .slice A len cap]] w fun e w' => e = .returned (.int .i64 (recS l)) ∧ Below w.heap.size w w' := by
  have hl : len ≤ 9223372036854775807 := by rw [← hlen.out]; exact Nat.le_trans hr.1 hr.2.1
  have hw := Lib.hid (show withinB 7 1 7 = true by rfl)
  have hlf := Lib.hid (show leafB 7 = false by rfl)
  have e0 : ((len : Int) == 0) = false := by simp; omega
  have hr1 := fun o => hr.keep ((Same.refl B w).alloc hB o)
  go_enter Tryd.func98, Tryd.ntmps98
  go_wp2_with (first | (go_at_call 80; refine (rwithin_any _ _ _ _).mono ?_; rintro e w' ⟨rfl, rfl⟩; rw [hw.out]) | (go_at_call 97; refine (rLeaf_any _ _).mono ?_; rintro e w' ⟨rfl, rfl⟩; rw [hlf.out]))
  go_loop [72] (fun i => ∃ j : Nat, j ≤ len ∧ i = .int .i64 j ∧ Hid (∀ i, i < j → nameB (nmAt l i) = true)) (fun i => len - (intOf i).toNat)
  case atStart => exact ⟨0, Nat.zero_le _, rfl, fun i h => absurd h (by omega)⟩
  case round =>
    obtain ⟨j, hj, rfl, hall⟩ := hrel
    by_cases hlt : j < len
    · obtain ⟨x, ad, hx, rfl, hb, c0, c1, c2, c3, c4, c5⟩ := (hr1 (.cells #[.int .i64 7, .int .i64 0, .slice A len cap] 24)).get (show j < l.length by rw [hlen.out]; exact hlt)
      have hnm := Lib.hid (nmAt_of hx)
      have hxs : x.a.nm.size ≤ maxLen := by
        have := hin x (mem_of_get? hx)
        cases this; assumption
      clear c0 c2 c3 c4 c5 hx hr1 hr hin
      cases hn : nameB x.a.nm
      · have Hn := Lib.hid hn
        clear hn
        have hf := Lib.hid (show recS l = 4 by unfold recS; rw [if_pos (namesB_false (i := j) (by rw [hlen.out]; exact hlt) (by rw [hnm.out]; exact Hn.out))])
        go_wp2_with (first | (go_at_call 110; refine (rName_any _ _ hxs).mono ?_; rintro e w' ⟨rfl, rfl⟩; rw [Hn.out]))
        go_ret
        exact ⟨by rw [hf.out]; rfl, (by repeat (first | exact Below.refl _ _ | assumption | apply Below.drew | (refine Below.alloc ?_ ?_ _; rotate_left; (first | exact Nat.le_refl _ | (simp; done) | (simp; omega)))))⟩
      · have Hn := Lib.hid hn
        clear hn
        go_wp2_with (first | (go_at_call 110; refine (rName_any _ _ hxs).mono ?_; rintro e w' ⟨rfl, rfl⟩; rw [Hn.out]))
        go_round
        case rel => exact ⟨j + 1, by omega, by go_num, names_step hall (by rw [hnm.out]; exact Hn.out)⟩
        case measure => simp [intOf]; omega
    · have hN := Lib.hid (namesB_true (l := l) fun i hi => hall.out i (by rw [hlen.out] at hi; omega))
      have hcA : (w.alloc (.cells #[.int .i64 7, .int .i64 0, .slice A len cap] 24)).cell? ⟨w.heap.size, 2, none⟩ = some (.slice A len cap) := by simp
      have hRow := hr1 (.cells #[.int .i64 7, .int .i64 0, .slice A len cap] 24)
      have hBw : B < (w.alloc (.cells #[.int .i64 7, .int .i64 0, .slice A len cap] 24)).heap.size := by simp; omega
      have hsz : w.heap.size < (w.alloc (.cells #[.int .i64 7, .int .i64 0, .slice A len cap] 24)).heap.size := by simp
      have hbw : Below w.heap.size w (w.alloc (.cells #[.int .i64 7, .int .i64 0, .slice A len cap] 24)) := (Below.refl _ _).alloc (Nat.le_refl _) _
      go_wp2
      generalize w.alloc (.cells #[.int .i64 7, .int .i64 0, .slice A len cap] 24) = W0 at hcA hRow hBw hsz hbw ⊢
      go_loopw [87] (fun i wr => ∃ j : Nat, j ≤ len ∧ i = .int .i64 j ∧ Below W0.heap.size W0 wr ∧ Hid (∀ i k, i < j → k < i → ((nmAt l k).toList == (nmAt l i).toList) = false)) (fun i _ => len - (intOf i).toNat)
      case atStart => exact ⟨0, Nat.zero_le _, rfl, Below.refl _ _, fun i k h => absurd h (by omega)⟩
      case round =>
        obtain ⟨j, hj, rfl, hbr, hall2⟩ := hrel
        by_cases hlt : j < len
        · go_wp2
          obtain ⟨wo, rfl⟩ : ∃ wo : World, wo = wr := ⟨_, rfl⟩
          go_loopw [5] (fun i wr => ∃ k : Nat, k ≤ j ∧ i = .int .i64 k ∧ Below W0.heap.size W0 wr ∧ Hid (∀ k', k' < k → ((nmAt l k').toList == (nmAt l j).toList) = false)) (fun i _ => j - (intOf i).toNat)
          case atStart => exact ⟨0, Nat.zero_le _, rfl, hbr, fun k' h => absurd h (by omega)⟩
          case round =>
            obtain ⟨k, hk, rfl, hbr2, hall3⟩ := hrel
            by_cases hklt : k < j
            · have hRow2 := hRow.keep (Same.mono (Same.of_below hbr2) (by omega))
              obtain ⟨y, ad, hy, rfl, hby, _, d1, _, _, _, _⟩ := hRow2.get (show j < l.length by rw [hlen.out]; omega)
              obtain ⟨x, ad', hx, hade, hbx, _, e1, _, _, _, _⟩ := hRow2.get (show k < l.length by rw [hlen.out]; omega)
              obtain rfl : ad = ad' := by injection hade
              have hny := Lib.hid (nmAt_of hy)
              have hnx := Lib.hid (nmAt_of hx)
              have hcA2 := (hbr2.cell (p := ⟨w.heap.size, 2, none⟩) hsz).trans hcA
              clear hRow2 hRow hr1 hr hin hx hy hade hcA hall hbr
              cases heq : (x.a.nm.toList == y.a.nm.toList)
              · go_wp2
                go_quiet (fail)
                go_wp2
                go_roundw
                case rel => exact ⟨k + 1, by omega, by go_num, below_drewN hbr2 _, twice_step hall3 (by rw [hny.out, hnx.out]; exact heq)⟩
                case measure => simp [intOf]; omega
              · have hf := Lib.hid (show recS l = 5 by
                  unfold recS
                  rw [hN.out, if_neg (by simp), if_pos (twiceB_true (i := j) (k := k) (by rw [hlen.out]; exact hlt) hklt (by rw [hny.out, hnx.out]; exact heq))])
                go_wp2
                go_quiet (fail)
                go_wp2
                go_ret
                exact ⟨by rw [hf.out]; rfl, hbw.trans ((below_drewN hbr2 _).mono (by omega))⟩
            · go_wp2
              go_roundw
              case rel => exact ⟨j + 1, by omega, by go_num, hbr2, twice_step2 hall2 hall3 (by omega)⟩
              case measure => simp [intOf]; omega
        · have hf := Lib.hid (show recS l = 0 by
            unfold recS
            rw [hN.out, if_neg (by simp), if_neg (by rw [twiceB_false (fun i k hi hk => hall2.out i k (by rw [hlen.out] at hi; omega) hk)]; simp)])
          go_wp2
          go_ret
          exact ⟨by rw [hf.out]; rfl, hbw.trans (hbr.mono (by omega))⟩
end Go.Proofs.YtcpbbagppkcilaaDoor
