/-
  slices.SortStableFunc's merge, where the second part is one row.
-/
import Derived.Test.YtcdaipkkddgbeaaQSoE
namespace Go.Proofs.Ytcdaipkkddgbeaa
open Go.RowKit
set_option maxRecDepth 100000 in
set_option maxHeartbeats 4000000 in
theorem symB_any (hc : CmpOk) (g n cap a m b B : Nat) (f : Nat → VT) (w : World) (h : HF w g n f) (hr : RwOk B w n f) (hB : B ≤ w.heap.size) (hg : B ≤ g) (hn : n ≤ 2305843009213693952) (ham : a + 1 < m) (hmb : m + 1 = b) (hbn : b ≤ n) (hs : SortedOn ltR f a m) :
    Calls Try.prog 51 #[.slice (some ⟨g, 0, none⟩) n cap, .int .i64 a, .int .i64 m, .int .i64 b, cmpF] w (MgPost g n a b f w) := by
  have H0 := Lib.hid h
  have Hr := Lib.hid hr
  have Hc := Lib.hid hc
  have Hs := Lib.hid hs
  have e0 : ((m : Int) - (a : Int) == 1) = false := by simp; omega
  have e0' : ¬ (m : Int) - (a : Int) = 1 := by omega
  have e00 : (b : Int) - (m : Int) = 1 := by omega
  have Hmb := Lib.hid hmb
  clear h hr hc hs hmb
  go_enter Try.func51, Try.ntmps51
  go_wp2
  go_loopw [14, 15] (fun vi vj wr => ∃ i j : Nat, vi = .int .i64 i ∧ vj = .int .i64 j ∧ a ≤ i ∧ i ≤ j ∧ j ≤ m ∧ SoW g n a b f w f wr ∧ Hid (∀ k, a ≤ k → k < i → ltR (f m) (f k) = false) ∧ Hid (∀ k, j ≤ k → k < m → ltR (f m) (f k) = true)) (fun vi vj _ => (intOf vj).toNat - (intOf vi).toNat)
  case atStart => exact ⟨a, m, rfl, rfl, Nat.le_refl _, by omega, Nat.le_refl _, SoW.refl _ _ H0.out, fun k h1 h2 => by omega, fun k h1 h2 => by omega⟩
  case round =>
    obtain ⟨i, j, rfl, rfl, hi, hij, hj, hS, hL, hU⟩ := hrel
    have hmb := Hmb.out
    by_cases hlt : i < j
    · have hm1 : i ≤ (i + j) / 2 := by omega
      have hm2 : (i + j) / 2 < j := by omega
      have hsz : B ≤ wr.heap.size := Nat.le_trans hB hS.ch.size
      have hrw := hS.rows Hr.out hB hg hbn
      obtain ⟨hh, hhe⟩ : ∃ hh, (i + j) / 2 = hh := ⟨_, rfl⟩
      rw [hhe] at hm1 hm2
      have hcm := Lib.hid (cmp_regrown Hc.out hrw hsz (i := m) (j := hh) (by omega) (by omega))
      have c1 := hS.hold.cell (i := m) (by omega)
      have c2 := hS.hold.cell (i := hh) (by omega)
      unfold rwV at c1 c2
      have k1 := cell_regrown c1
      have k2 := cell_regrown c2
      have l1 : hh < n := by omega
      have l2 : m < n := by omega
      have HS := Lib.hid hS
      clear hS hrw c1 c2 hmb
      have eI : ((i : Int) + (j : Int)) / 2 = (hh : Int) := by omega
      go_wp2_with fail
      (refine wp_region_quiet_below (by kernel_rfl) (by kernel_rfl) ?_; (repeat (quiet_step (with_reducible first | exact hcm.out _ _))); refine wpQuiet_nil ?_; intro _ hw'; obtain ⟨⟨dq, osq⟩, hw''⟩ := hw'; subst hw'')
      have hb2 := below_regrown wr dq osq
      have hw1 : Sort.grow (redrawn wr (Regrown.mk dq osq).d) (Regrown.mk dq osq).os = Sort.grow (redrawn wr dq) osq := rfl
      rw [hw1]
      clear hw1
      generalize Sort.grow (redrawn wr dq) osq = W2 at hb2 ⊢
      have HS3 := Lib.hid (HS.out.below hb2)
      clear k1 k2 hcm hb2
      cases hq : ltR (f m) (f hh)
      · have hl2 : ¬ cmpR (f m) (f hh) < 0 := by
          have : decide (cmpR (f m) (f hh) < 0) = false := hq
          simpa using this
        have hl3 : (!decide (cmpR (f m) (f hh) < 0)) = true := by simpa using hl2
        have hL2 : Hid (∀ k, a ≤ k → k < hh + 1 → ltR (f m) (f k) = false) := fun k h1 h2 => ltR_weak.trans _ _ _ (Hs.out k hh h1 (by omega) (by omega)) hq
        clear hq
        rw [hl3]
        clear hl3 hl2
        go_wp2
        go_roundw
        case rel => exact ⟨hh + 1, j, by go_num, rfl, by omega, by omega, hj, HS3.out, hL2, hU⟩
        case measure => simp [intOf]; omega
      · have hl2 : cmpR (f m) (f hh) < 0 := by
          have : decide (cmpR (f m) (f hh) < 0) = true := hq
          simpa using this
        have hl3 : (!decide (cmpR (f m) (f hh) < 0)) = false := by simpa using hl2
        have hU2 : Hid (∀ k, hh ≤ k → k < m → ltR (f m) (f k) = true) := fun k h1 h2 => by
          cases e : ltR (f m) (f k)
          · have := ltR_weak.trans _ _ _ (Hs.out hh k (by omega) h1 h2) e
            rw [this] at hq; cases hq
          · rfl
        clear hq
        rw [hl3]
        clear hl3 hl2
        go_wp2
        go_roundw
        case rel => exact ⟨i, hh, rfl, rfl, hi, by omega, by omega, HS3.out, hL, hU2⟩
        case measure => simp [intOf]; omega
    · obtain rfl : i = j := by omega
      have HS := Lib.hid hS
      have him : i ≤ m := hj
      clear hS hmb
      go_wp2
      go_loopw [17] (fun vk wr2 => ∃ k : Nat, vk = .int .i64 k ∧ i ≤ k ∧ k ≤ m ∧ SoW g n a b f w (shr f m k) wr2) (fun vk _ => (intOf vk).toNat)
      case atStart => exact ⟨m, rfl, him, Nat.le_refl _, by rw [shr_start]; exact HS.out⟩
      case round =>
        obtain ⟨k, rfl, hki, hkm, hS⟩ := hrel
        have hmb := Hmb.out
        by_cases hlt2 : i < k
        · have c1 := hS.hold.cell (i := k) (by omega)
          have c2 := hS.hold.cell (i := k - 1) (by omega)
          have z1 := hS.hold.frozen k
          have z2 := hS.hold.frozen (k - 1)
          unfold rwV at c1 c2
          have e1 : (k : Int) - 1 = ((k - 1 : Nat) : Int) := by omega
          have e2 : IntKind.i64.wrap ((k - 1 : Nat) : Int) = ((k - 1 : Nat) : Int) := wrap_nat (by omega)
          have l1 : k < n := by omega
          have l2 : k - 1 < n := by omega
          have hX := Lib.hid (hS.swap (i := k) (j := k - 1) (by omega) (by omega) (by omega) (by omega) hbn (by omega))
          have hst := Lib.hid (show swp (shr f m k) k (k - 1) = shr f m (k - 1) by
            have := shr_step f m (k - 1) (by omega)
            rw [show k - 1 + 1 = k by omega] at this
            exact this)
          have hne : ¬ k = k - 1 := by omega
          have hne2 : ¬ k - 1 = k := by omega
          clear hS hmb
          go_wp2_with fail
          go_region
          go_wp2
          go_roundw
          case rel => exact ⟨k - 1, by congr 1, by omega, by omega, by rw [← hst.out]; exact hX.out.drew⟩
          case measure => simp [intOf]; omega
        · obtain rfl : k = i := by omega
          have HS4 := Lib.hid hS
          clear hS hmb
          go_wp2
          refine bodyPost_ret (results_none rfl _ _ _) rfl ?_
          have hmb := Hmb.out
          have := shr_sorted ltR_weak hi him Hs.out hL.out hU.out
          rw [hmb] at this
          exact ⟨rfl, _, HS4.out, this⟩
end Go.Proofs.Ytcdaipkkddgbeaa
