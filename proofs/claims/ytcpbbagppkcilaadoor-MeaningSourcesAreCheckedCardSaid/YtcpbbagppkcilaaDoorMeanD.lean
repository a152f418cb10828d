/-
  The reference of package meaning: types that must be plain, and lists of them.
-/
import Derived.Test.YtcpbbagppkcilaaDoorMeanC
namespace Go.Proofs.YtcpbbagppkcilaaDoor
open Go.RowKit
set_option maxRecDepth 100000 in
set_option maxHeartbeats 2000000 in
theorem rPlain_any : ∀ (t : FT) (B : Nat) (w : World), FT.In B w t → B ≤ w.heap.size →
    Calls Tryd.prog 90 #[.agg #[.int .i64 t.a.k, .int .i64 t.a.sc, .slice t.a.A t.l.length t.a.cap]] w fun e w' => e = .returned (.bool (plT t)) ∧ Below w.heap.size w w' := by
  refine FT.ind fun a l ih B w hin hB => ?_
  obtain ⟨id, nm, nd, k, sc, A, cap⟩ := a
  obtain ⟨_, _, _, _, hr, hl⟩ := hin.parts
  simp only [FT.a_node, FT.l_node] at hr ⊢
  obtain ⟨R, hR⟩ : ∃ R, plT (.node ⟨id, nm, nd, k, sc, A, cap⟩ l) = R := ⟨_, rfl⟩
  rw [hR]
  rw [plT] at hR
  obtain ⟨len, hlen'⟩ : ∃ len, l.length = len := ⟨_, rfl⟩
  have hll : len ≤ 9223372036854775807 := by rw [← hlen']; exact Nat.le_trans hr.1 hr.2.1
  rw [hlen']
  have hlen := Lib.hid hlen'
  clear hlen'
  obtain ⟨W0, hW0⟩ : ∃ W0, w.alloc (.cells #[.int .i64 k, .int .i64 sc, .slice A len cap] 24) = W0 := ⟨_, rfl⟩
  have hbw : Below w.heap.size w W0 := by rw [← hW0]; exact bel1 _ _
  have hz0 : w.heap.size ≤ W0.heap.size := hbw.size
  have hS0 := Same.mono (Same.of_below hbw) hB
  have hrW := hr.keep hS0
  have hlW := fun x (hx : x ∈ l) => (hl x hx).keep hS0
  have HR := Lib.hid hR
  have HW0 := Lib.hid hW0
  clear hW0 hr hl hin hS0 hR
  go_enter Tryd.func90, Tryd.ntmps90
  go_wp2_with fail
  rw [HW0.out]
  clear HW0
  go_loopw [8] (fun i wr => ∃ j : Nat, j ≤ len ∧ i = .int .i64 j ∧ Below W0.heap.size W0 wr ∧ Hid (plTs (l.drop j) = R)) (fun i _ => len - (intOf i).toNat)
  case atStart => exact ⟨0, Nat.zero_le _, rfl, Below.refl _ _, HR⟩
  case round =>
    obtain ⟨j, hj, rfl, hbr, HRj⟩ := hrel
    by_cases hlt : j < len
    · have hSr : Same B W0 wr := Same.mono (Same.of_below hbr) (by omega)
      obtain ⟨x, ad, hx, rfl, hb, d0, d1, d2, d3, d4, d5⟩ := (hrW.keep hSr).get (show j < l.length by rw [hlen.out]; exact hlt)
      have hzr := hbr.size
      have hic := Lib.hid (fun o => ih x (mem_of_get? hx) B (wr.alloc o) ((hlW x (mem_of_get? hx)).keep (hSr.alloc (by omega) o)) (by simp; omega))
      have HR2 := HRj.out
      rw [drop_of_get? hx, plTs_cons] at HR2
      unfold plF at HR2
      have hal : ∀ o, Below W0.heap.size W0 (wr.alloc o) := fun o => hbr.alloc hzr o
      have hal := Lib.hid hal
      clear hrW hlW ih hx HRj
      by_cases hid : x.a.id = 0
      · have n0 : (x.a.id != 0) = false := by simpa using hid
        rw [hid] at HR2
        clear hid
        cases hnd : x.a.nd
        · rw [hnd] at HR2
          cases hp : plT x
          · have HR3 := Lib.hid (show false = R by rw [← HR2, hp]; simp)
            have Hp := Lib.hid hp
            clear HR2 hp
            go_wp2_with fail
            refine (hic.out _).mono ?_
            rintro e w' ⟨rfl, hb2⟩
            rw [Hp.out]
            go_wp2
            go_ret
            exact ⟨by rw [← HR3.out]; rfl, hbw.trans (((hal.out _).trans (hb2.mono (by simp; omega))).mono (by omega))⟩
          · have HR3 := Lib.hid (show plTs (l.drop (j + 1)) = R by rw [← HR2, hp]; simp)
            have Hp := Lib.hid hp
            clear HR2 hp
            go_wp2_with fail
            refine (hic.out _).mono ?_
            rintro e w' ⟨rfl, hb2⟩
            rw [Hp.out]
            go_wp2
            go_roundw
            case rel => exact ⟨j + 1, by omega, by go_num, (hal.out _).trans (hb2.mono (by simp; omega)), HR3⟩
            case measure => simp [intOf]; omega
        · have HR3 := Lib.hid (show false = R by rw [← HR2, hnd]; simp)
          clear HR2
          go_wp2
          go_ret
          exact ⟨by rw [← HR3.out]; rfl, hbw.trans ((hal.out _).mono (by omega))⟩
      · have n0 : (x.a.id != 0) = true := by simpa using hid
        have HR3 := Lib.hid (show false = R by rw [← HR2]; simp [hid])
        clear HR2 hid
        go_wp2
        go_ret
        exact ⟨by rw [← HR3.out]; rfl, hbw.trans ((hal.out _).mono (by omega))⟩
    · have HR3 : Hid (true = R) := by have := HRj.out; rw [List.drop_eq_nil_of_le (by rw [hlen.out]; omega)] at this; rw [plTs] at this; exact this
      go_wp2
      go_ret
      exact ⟨by rw [← HR3.out]; rfl, hbw.trans (hbr.mono (by omega))⟩
end Go.Proofs.YtcpbbagppkcilaaDoor
