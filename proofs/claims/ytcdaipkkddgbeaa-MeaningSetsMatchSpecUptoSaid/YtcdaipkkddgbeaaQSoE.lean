/-
  slices.SortStableFunc's merge, where the first part is one row.
-/
import Derived.Test.YtcdaipkkddgbeaaQSoD
namespace Go.Proofs.Ytcdaipkkddgbeaa
open Go.RowKit
/-- What a merge leaves. -/
def MgPost (g n a b : Nat) (f : Nat → VT) (w : World) (e : Ending) (w' : World) : Prop := e = .returned (.tuple #[]) ∧ ∃ f', SoW g n a b f w f' w' ∧ SortedOn ltR f' a b
theorem lt_up {f : Nat → VT} {lo hi k h : Nat} {x : VT} (hs : SortedOn ltR f lo hi) (h1 : lo ≤ k) (h2 : k ≤ h) (h3 : h < hi) (hq : ltR (f h) x = true) : ltR (f k) x = true := by
  cases e : ltR (f k) x
  · have := ltR_weak.trans _ _ _ e (hs k h h1 h2 h3)
    rw [this] at hq; cases hq
  · rfl
theorem lt_dn {f : Nat → VT} {lo hi k h : Nat} {x : VT} (hs : SortedOn ltR f lo hi) (h1 : lo ≤ h) (h2 : h ≤ k) (h3 : k < hi) (hq : ltR (f h) x = false) : ltR (f k) x = false :=
  ltR_weak.trans _ _ _ hq (hs h k h1 h2 h3)
set_option maxRecDepth 100000 in
set_option maxHeartbeats 4000000 in
theorem symA_any (hc : CmpOk) (g n cap a m b B : Nat) (f : Nat → VT) (w : World) (h : HF w g n f) (hr : RwOk B w n f) (hB : B ≤ w.heap.size) (hg : B ≤ g) (hn : n ≤ 2305843009213693952) (ham : a + 1 = m) (hmb : m < b) (hbn : b ≤ n) (hs : SortedOn ltR f m b) :
    Calls Try.prog 51 #[.slice (some ⟨g, 0, none⟩) n cap, .int .i64 a, .int .i64 m, .int .i64 b, cmpF] w (MgPost g n a b f w) := by
  have H0 := Lib.hid h
  have Hr := Lib.hid hr
  have Hc := Lib.hid hc
  have Hs := Lib.hid hs
  have e0 : (m : Int) - (a : Int) = 1 := by omega
  have Ham := Lib.hid ham
  clear h hr hc hs ham
  go_enter Try.func51, Try.ntmps51
  go_wp2
  go_loopw [10, 11] (fun vi vj wr => ∃ i j : Nat, vi = .int .i64 i ∧ vj = .int .i64 j ∧ m ≤ i ∧ i ≤ j ∧ j ≤ b ∧ SoW g n a b f w f wr ∧ Hid (∀ k, m ≤ k → k < i → ltR (f k) (f a) = true) ∧ Hid (∀ k, j ≤ k → k < b → ltR (f k) (f a) = false)) (fun vi vj _ => (intOf vj).toNat - (intOf vi).toNat)
  case atStart => exact ⟨m, b, rfl, rfl, Nat.le_refl _, by omega, Nat.le_refl _, SoW.refl _ _ H0.out, fun k h1 h2 => by omega, fun k h1 h2 => by omega⟩
  case round =>
    obtain ⟨i, j, rfl, rfl, hi, hij, hj, hS, hL, hU⟩ := hrel
    by_cases hlt : i < j
    · have hm1 : i ≤ (i + j) / 2 := by omega
      have hm2 : (i + j) / 2 < j := by omega
      have hsz : B ≤ wr.heap.size := Nat.le_trans hB hS.ch.size
      have hrw := hS.rows Hr.out hB hg hbn
      have han := Ham.out
      obtain ⟨hh, hhe⟩ : ∃ hh, (i + j) / 2 = hh := ⟨_, rfl⟩
      rw [hhe] at hm1 hm2
      have hcm := Lib.hid (cmp_regrown Hc.out hrw hsz (i := hh) (j := a) (by omega) (by omega))
      have c1 := hS.hold.cell (i := hh) (by omega)
      have c2 := hS.hold.cell (i := a) (by omega)
      unfold rwV at c1 c2
      have k1 := cell_regrown c1
      have k2 := cell_regrown c2
      have l1 : hh < n := by omega
      have l2 : a < n := by omega
      have HS := Lib.hid hS
      clear hS hrw c1 c2 han
      have eI : ((i : Int) + (j : Int)) / 2 = (hh : Int) := by omega
      go_wp2_with fail
      (refine wp_region_quiet_below (by kernel_rfl) (by kernel_rfl) ?_; (repeat (quiet_step (with_reducible first | exact hcm.out _ _))); refine wpQuiet_nil ?_; intro _ hw'; obtain ⟨⟨dq, osq⟩, hw''⟩ := hw'; subst hw'')
      have hb2 := below_regrown wr dq osq
      have hw1 : Sort.grow (redrawn wr (Regrown.mk dq osq).d) (Regrown.mk dq osq).os = Sort.grow (redrawn wr dq) osq := rfl
      rw [hw1]
      clear hw1
      generalize Sort.grow (redrawn wr dq) osq = W2 at hb2 ⊢
      have HS3 := Lib.hid (HS.out.below hb2)
      clear k1 k2 hcm hb2
      cases hq : ltR (f hh) (f a)
      · have hl2 : ¬ cmpR (f hh) (f a) < 0 := by
          have : decide (cmpR (f hh) (f a) < 0) = false := hq
          simpa using this
        have hU2 : Hid (∀ k, hh ≤ k → k < b → ltR (f k) (f a) = false) := fun k h1 h2 => lt_dn Hs.out (by omega) h1 h2 hq
        clear hq
        go_wp2
        go_roundw
        case rel => exact ⟨i, hh, rfl, rfl, hi, by omega, by omega, HS3.out, hL, hU2⟩
        case measure => simp [intOf]; omega
      · have hl2 : cmpR (f hh) (f a) < 0 := by
          have : decide (cmpR (f hh) (f a) < 0) = true := hq
          simpa using this
        have hL2 : Hid (∀ k, m ≤ k → k < hh + 1 → ltR (f k) (f a) = true) := fun k h1 h2 => lt_up Hs.out h1 (by omega) (by omega) hq
        clear hq
        go_wp2
        go_roundw
        case rel => exact ⟨hh + 1, j, by go_num, rfl, by omega, by omega, hj, HS3.out, hL2, hU⟩
        case measure => simp [intOf]; omega
    · obtain rfl : i = j := by omega
      have HS := Lib.hid hS
      have han := Ham.out
      have eJ : (i : Int) - 1 = ((i - 1 : Nat) : Int) := by omega
      have hia : a + 1 ≤ i := by omega
      clear hS han
      go_wp2
      go_loopw [13] (fun vk wr2 => ∃ k : Nat, vk = .int .i64 k ∧ a ≤ k ∧ k ≤ i - 1 ∧ SoW g n a b f w (shl f a k) wr2) (fun vk _ => i - (intOf vk).toNat)
      case atStart => exact ⟨a, rfl, Nat.le_refl _, by omega, by rw [shl_start]; exact HS.out⟩
      case round =>
        obtain ⟨k, rfl, hka, hki, hS⟩ := hrel
        by_cases hlt2 : k < i - 1
        · have c1 := hS.hold.cell (i := k) (by omega)
          have c2 := hS.hold.cell (i := k + 1) (by omega)
          have z1 := hS.hold.frozen k
          have z2 := hS.hold.frozen (k + 1)
          unfold rwV at c1 c2
          have l1 : k < n := by omega
          have l2 : k + 1 < n := by omega
          have hX := Lib.hid (hS.swap (i := k) (j := k + 1) (by omega) (by omega) (by omega) (by omega) hbn (by omega))
          have hne : ¬ k = k + 1 := by omega
          clear hS
          go_wp2_with fail
          go_region
          go_wp2
          go_roundw
          case rel => exact ⟨k + 1, by go_num, by omega, by omega, by rw [← shl_step f a k hka]; exact hX.out.drew⟩
          case measure => simp [intOf]; omega
        · obtain rfl : k = i - 1 := by omega
          have HS4 := Lib.hid hS
          clear hS
          go_wp2
          refine bodyPost_ret (results_none rfl _ _ _) rfl ?_
          have han := Ham.out
          refine ⟨rfl, _, HS4.out, shl_sorted ltR_weak hia (by omega) ?_ ?_ ?_⟩
          · rw [han]; exact Hs.out
          · rw [han]; exact hL.out
          · exact hU.out
end Go.Proofs.Ytcdaipkkddgbeaa
