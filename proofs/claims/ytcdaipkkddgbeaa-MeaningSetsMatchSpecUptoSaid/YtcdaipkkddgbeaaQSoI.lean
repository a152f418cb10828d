/-
  slices.SortStableFunc, at rows: the whole.
-/
import Derived.Test.YtcdaipkkddgbeaaQSoH
namespace Go.Proofs.Ytcdaipkkddgbeaa
open Go.RowKit
/-- The state of the pass that merges blocks, at its loop's head. -/
def PsR (g n s : Nat) (f : Nat → VT) (w : World) (va vb : Value) (wr : World) : Prop :=
  ∃ (q A : Nat) (f' : Nat → VT), q * (2 * s) = A ∧ va = .int .i64 A ∧ vb = .int .i64 (A + 2 * s : Nat) ∧ A ≤ n ∧ SoW g n 0 n f w f' wr ∧ MIn f' n s q
theorem MIn.parts {f : Nat → VT} {n s q A : Nat} (h : MIn f n s q) (hA : q * (2 * s) = A) : SortedOn ltR f A (min (A + s) n) ∧ SortedOn ltR f (A + s) (min (A + 2 * s) n) := by
  have e1 : (2 * q) * s = A := by rw [← hA, Nat.mul_assoc, Nat.mul_left_comm]
  have h1 := h.left (2 * q) (Nat.le_refl _)
  have h2 := h.left (2 * q + 1) (by omega)
  have e2 : (2 * q + 1) * s = A + s := by rw [Nat.add_mul, e1, Nat.one_mul]
  have e3 : (2 * q + 1 + 1) * s = A + 2 * s := by rw [Nat.add_mul, e2, Nat.one_mul]; omega
  rw [e1, e2] at h1
  rw [e2, e3] at h2
  exact ⟨h1, h2⟩
set_option maxRecDepth 100000 in
set_option maxHeartbeats 6000000 in
theorem stable_any (hc : CmpOk) (g n cap B : Nat) (f : Nat → VT) (w : World) (h : HF w g n f) (hr : RwOk B w n f) (hB : B ≤ w.heap.size) (hg : B ≤ g) (hn : n ≤ 1152921504606846976) :
    Calls Try.prog 42 #[.slice (some ⟨g, 0, none⟩) n cap, .int .i64 n, cmpF] w (MgPost g n 0 n f w) := by
  have H0 := Lib.hid h
  have Hr := Lib.hid hr
  have hIns := Lib.hid (fun (a b : Nat) (f' : Nat → VT) (wr : World) (hS : SoW g n 0 n f w f' wr) (hab : a ≤ b) (hbn : b ≤ n) => insertion_any hc g n cap a b B f' wr hS.hold (hS.rows hr hB hg (Nat.le_refl _)) (Nat.le_trans hB hS.ch.size) hg (by omega) hab hbn)
  have hMrg := Lib.hid (fun (a m b : Nat) (f' : Nat → VT) (wr : World) (hS : SoW g n 0 n f w f' wr) (ham : a < m) (hmb : m < b) (hbn : b ≤ n) h1 h2 => symMerge_any hc g n cap B hg (by omega) (b - a) a m b f' wr (Nat.le_refl _) hS.hold (hS.rows hr hB hg (Nat.le_refl _)) (Nat.le_trans hB hS.ch.size) ham hmb hbn h1 h2)
  clear h hr hc
  go_enter Try.func42, Try.ntmps42
  go_wp2
  go_loopw [7, 8] (fun va vb wr => ∃ (q : Nat) (f' : Nat → VT), va = .int .i64 (q * 20 : Nat) ∧ vb = .int .i64 (q * 20 + 20 : Nat) ∧ q * 20 ≤ n ∧ SoW g n 0 n f w f' wr ∧ BIn f' q) (fun va _ _ => n - (intOf va).toNat)
  case atStart => exact ⟨0, f, rfl, rfl, Nat.zero_le _, SoW.refl _ _ H0.out, ⟨fun t ht => by omega⟩⟩
  case round =>
    obtain ⟨q, f1, rfl, rfl, hq, hS, hI⟩ := hrel
    have HS := Lib.hid hS
    have HI := Lib.hid hI
    clear hS hI
    by_cases hlt : q * 20 + 20 ≤ n
    · have hcl := Lib.hid (hIns.out (q * 20) (q * 20 + 20) f1 wr HS.out (by omega) hlt)
      obtain ⟨A, hA⟩ : ∃ A, q * 20 = A := ⟨_, rfl⟩
      rw [hA] at hcl hq hlt ⊢
      have HA := Lib.hid hA
      clear hA
      go_wp2_with fail
      refine hcl.out.mono ?_
      rintro e w2 ⟨rfl, f2, hS2, hO2⟩
      have HS3 := Lib.hid (HS.out.trans (hS2.mono (by omega) hlt))
      have HI3 := Lib.hid (HI.out.step (by rw [HA.out]; exact hS2.sw) (by rw [HA.out]; exact hO2))
      clear hcl hS2 hO2
      go_wp2
      go_roundw
      case rel => exact ⟨q + 1, f2, by have := HA.out; congr 1; omega, by have := HA.out; congr 1; omega, by have := HA.out; omega, HS3.out, HI3.out⟩
      case measure => simp [intOf]; omega
    · have hcl := Lib.hid (hIns.out (q * 20) n f1 wr HS.out hq (Nat.le_refl _))
      obtain ⟨A, hA⟩ : ∃ A, q * 20 = A := ⟨_, rfl⟩
      rw [hA] at hcl hq hlt ⊢
      have HA := Lib.hid hA
      clear hA
      go_wp2_with fail
      refine hcl.out.mono ?_
      rintro e w2 ⟨rfl, f2, hS2, hO2⟩
      have HS3 := Lib.hid (HS.out.trans (hS2.mono (Nat.zero_le _) (Nat.le_refl _)))
      have HB3 := Lib.hid (HI.out.fin (n := n) (by rw [HA.out]; exact hq) (by rw [HA.out]; omega) (by rw [HA.out]; exact hS2.sw) (by rw [HA.out]; exact hO2))
      clear hcl hS2 hO2
      go_wp2
      go_loopw [6] (fun vs wr => ∃ (s : Nat) (f' : Nat → VT), vs = .int .i64 s ∧ 20 ≤ s ∧ s ≤ 2 * n + 20 ∧ SoW g n 0 n f w f' wr ∧ Blk f' n s) (fun vs _ => n - (intOf vs).toNat)
      case atStart => exact ⟨20, f2, rfl, Nat.le_refl _, by omega, HS3.out, HB3.out⟩
      case round =>
        obtain ⟨s, f3, rfl, hs1, hs2, hS4, hB4⟩ := hrel
        have HS4 := Lib.hid hS4
        have HB4 := Lib.hid hB4
        clear hS4 hB4
        by_cases hsn : s < n
        · go_wp2
          go_loopw [7, 8] (fun va vb wr2 => PsR g n s f w va vb wr2) (fun va _ _ => n - (intOf va).toNat)
          case atStart => exact ⟨0, 0, f3, Nat.zero_mul _, rfl, by go_num, Nat.zero_le _, HS4.out, HB4.out.start⟩
          case round =>
            obtain ⟨r, C, f4, hC, rfl, rfl, hCn, hS5, hM5⟩ := hrel
            obtain ⟨p1, p2⟩ := hM5.parts hC
            have HC := Lib.hid hC
            have HS5 := Lib.hid hS5
            have HM5 := Lib.hid hM5
            clear hC hS5 hM5
            obtain ⟨D, hD⟩ : ∃ D, C + 2 * s = D := ⟨_, rfl⟩
            rw [hD]
            have eM : (C : Int) + (s : Int) = ((C + s : Nat) : Int) := by omega
            have HD := Lib.hid hD
            by_cases hlt2 : D ≤ n
            · rw [Nat.min_eq_left (by omega)] at p1 p2
              rw [hD] at p2
              have hcl := Lib.hid (hMrg.out C (C + s) D f4 wr HS5.out (by omega) (by omega) hlt2 p1 p2)
              obtain ⟨M, hM⟩ : ∃ M, C + s = M := ⟨_, rfl⟩
              rw [hM] at hcl eM
              have hD1 : C < D := by omega
              clear p1 p2 hM hD
              go_wp2_with fail
              refine hcl.out.mono ?_
              rintro e w5 ⟨rfl, f5, hS6, hO6⟩
              have HS6 := Lib.hid (HS5.out.trans (hS6.mono (Nat.zero_le _) hlt2))
              have HM6 := Lib.hid (HM5.out.step (by rw [HC.out, HD.out]; exact hS6.sw) (by rw [HC.out, HD.out]; exact hO6))
              clear hcl hS6 hO6
              go_wp2
              go_roundw
              case rel => exact ⟨r + 1, D, f5, by rw [Nat.add_mul, Nat.one_mul, HC.out, HD.out], rfl, by congr 1, hlt2, HS6.out, HM6.out⟩
              case measure => simp [intOf]; omega
            · by_cases hlt3 : C + s < n
              · rw [Nat.min_eq_left (by omega)] at p1
                rw [Nat.min_eq_right (by omega)] at p2
                have hcl := Lib.hid (hMrg.out C (C + s) n f4 wr HS5.out (by omega) hlt3 (Nat.le_refl _) p1 p2)
                obtain ⟨M, hM⟩ : ∃ M, C + s = M := ⟨_, rfl⟩
                rw [hM] at hcl eM hlt3
                clear p1 p2 hM hD
                go_wp2_with fail
                refine hcl.out.mono ?_
                rintro e w5 ⟨rfl, f5, hS6, hO6⟩
                have HS6 := Lib.hid (HS5.out.trans (hS6.mono (Nat.zero_le _) (Nat.le_refl _)))
                have HB6 := Lib.hid (HM5.out.fin (by rw [HC.out]; exact hCn) (by rw [HC.out, HD.out]; omega) (by rw [HC.out]; exact hS6.sw) (by rw [HC.out]; exact hO6))
                clear hcl hS6 hO6
                go_wp2
                go_roundw
                case rel => exact ⟨2 * s, f5, by congr 1; omega, by omega, by omega, HS6.out, HB6.out⟩
                case measure => simp [intOf]; omega
              · rw [Nat.min_eq_right (by omega)] at p1
                have HB6 := Lib.hid (HM5.out.fin (f' := f4) (by rw [HC.out]; exact hCn) (by rw [HC.out, HD.out]; omega) .refl (by rw [HC.out]; exact p1))
                obtain ⟨M, hM⟩ : ∃ M, C + s = M := ⟨_, rfl⟩
                rw [hM] at eM hlt3
                clear p1 p2 hM hD
                go_wp2
                go_roundw
                case rel => exact ⟨2 * s, f4, by congr 1; omega, by omega, by omega, HS5.out, HB6.out⟩
                case measure => simp [intOf]; omega
        · have hfin := Lib.hid (HB4.out.all (by omega))
          go_wp2
          exact ⟨rfl, _, results_none rfl _ _ _, rfl, f3, HS4.out, hfin.out⟩
theorem sortStable_any (hc : CmpOk) (g n cap B : Nat) (f : Nat → VT) (w : World) (h : HF w g n f) (hr : RwOk B w n f) (hB : B ≤ w.heap.size) (hg : B ≤ g) (hn : n ≤ 1152921504606846976) :
    Calls Try.prog 35 #[.slice (some ⟨g, 0, none⟩) n cap, cmpF] w (MgPost g n 0 n f w) := by
  have hS := Lib.hid (stable_any hc g n cap B f w h hr hB hg hn)
  clear h hr hc
  go_enter Try.func35, Try.ntmps35
  go_wp2_with fail
  refine hS.out.mono ?_
  rintro e w2 ⟨rfl, hp⟩
  have Hp := Lib.hid hp
  clear hp hS
  go_wp2
  exact ⟨rfl, _, results_none rfl _ _ _, rfl, Hp.out⟩
end Go.Proofs.Ytcdaipkkddgbeaa
