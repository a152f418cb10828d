/-
  The reference of package value: the civil time of a moment.
-/
import Derived.Test.YteeabfdafnncfaaDoorQTxR
namespace Go.Proofs.YteeabfdafnncfaaDoor
open Go.RowKit

theorem blk6 {W : World} {b : Nat} {t : TypeId} {v0 v1 v2 v3 v4 v5 : Value} (h : W.heap[b]? = some (.cells #[v0, v1, v2, v3, v4, v5] t (0, 0))) :
    (W.cell? ⟨b, 0, none⟩ = some v0 ∧ W.cell? ⟨b, 1, none⟩ = some v1 ∧ W.cell? ⟨b, 2, none⟩ = some v2 ∧ W.cell? ⟨b, 3, none⟩ = some v3 ∧ W.cell? ⟨b, 4, none⟩ = some v4 ∧ W.cell? ⟨b, 5, none⟩ = some v5) ∧
    (W.frozen? ⟨b, 0, none⟩ = false ∧ W.frozen? ⟨b, 1, none⟩ = false ∧ W.frozen? ⟨b, 2, none⟩ = false ∧ W.frozen? ⟨b, 3, none⟩ = false ∧ W.frozen? ⟨b, 4, none⟩ = false ∧ W.frozen? ⟨b, 5, none⟩ = false) := by
  refine ⟨⟨?_, ?_, ?_, ?_, ?_, ?_⟩, ?_, ?_, ?_, ?_, ?_, ?_⟩ <;> simp [World.cell?, World.frozen?, h]
/-- The world of civil's second loop: its result's block, and the block of the time that is filled. -/
structure CvW (w : World) (b b2 : Nat) (t : TypeId) (y m : Int) (W : World) : Prop where
  below : Below w.heap.size w W
  res : W.heap[b]? = some (.cells #[.int .i64 0, .int .i64 0, .int .i64 0, .int .i64 0, .int .i64 0, .int .i64 0] t (0, 0))
  cur : W.heap[b2]? = some (.cells #[.int .i64 y, .int .i64 m, .int .i64 0, .int .i64 0, .int .i64 0, .int .i64 0] t (0, 0))
theorem CvW.month {w W : World} {b b2 : Nat} {t : TypeId} {y m : Int} (h : CvW w b b2 t y m W) (hb : w.heap.size ≤ b2) (hne : b ≠ b2) (m' : Int) : CvW w b b2 t y m' (W.setCell ⟨b2, 1, none⟩ (.int .i64 m')) := by
  refine ⟨h.below.setCell hb _, ?_, ?_⟩
  · have : (W.setCell ⟨b2, 1, none⟩ (.int .i64 m')).heap[b]? = W.heap[b]? := Below.heap_setCell _ _ _ _ hne
    rw [this]; exact h.res
  · simp [World.setCell, Array.getElem?_modify, h.cur]
theorem cum_le_mo {n m : Int} (h0 : -719468 ≤ n) (h1 : 1 ≤ m) (h2 : m ≤ moI n) : 0 ≤ n - ysI (yI n) - cumI (yI n) m ∧ n - ysI (yI n) - cumI (yI n) m ≤ 400 ∧ 0 ≤ cumI (yI n) m := by
  obtain ⟨e, m1, m2, d1, d2, y0, _⟩ := ymd_ok n h0
  have a := cum_mono (yI n) m h1 (moI n - m).toNat (by omega)
  rw [show m + ((moI n - m).toNat : Int) = moI n by omega] at a
  have b := cum_mono (yI n) 1 (by omega) (m - 1).toNat (by omega)
  rw [show (1 : Int) + ((m - 1).toNat : Int) = m by omega, show cumI (yI n) 1 = 0 by simp [cumI]] at b
  have c := cum_mono (yI n) (moI n) m1 (13 - moI n).toNat (by omega)
  rw [show moI n + ((13 - moI n).toNat : Int) = 13 by omega, cum_year] at c
  have := md_bd (yI n) (moI n)
  split at c <;> omega
set_option maxRecDepth 100000 in
set_option maxHeartbeats 4000000 in
theorem rcivil_any (s : Int) (w : World) (h0 : -62135596800 ≤ s) (h1 : s ≤ 253402300799) :
    Calls Tryd.prog 28 #[.int .i64 s] w fun e w' => e = .returned (.agg #[.int .i64 (yI (s / 86400)), .int .i64 (moI (s / 86400)), .int .i64 (dI (s / 86400)), .int .i64 (s % 86400 / 3600), .int .i64 (s % 86400 % 3600 / 60), .int .i64 (s % 86400 % 60)]) ∧ Below w.heap.size w w' := by
  have hF := Lib.hid fun W => rfloor_any s 86400 W (by omega) (by omega) (.inl rfl)
  obtain ⟨D, hD⟩ : ∃ D, s / 86400 = D := ⟨_, rfl⟩
  have hd0 : -719162 ≤ D := by omega
  have hd1 : D ≤ 2932896 := by omega
  have e1 : s % 86400 = s - 86400 * D := by omega
  rw [hD] at hF ⊢
  rw [e1]
  have b0 : 0 ≤ s - 86400 * D := by omega
  have b1 : s - 86400 * D < 86400 := by omega
  have e2 : (s - 86400 * D) % 3600 / 60 = (s - 86400 * D) / 60 % 60 := by omega
  rw [e2]
  obtain ⟨o1, o2, o3, o4, o5, o6, o7⟩ := ymd_ok D (by omega)
  have o7 := o7 hd1
  have O1 := Lib.hid o1
  have hU := Lib.hid fun (a : Int) ha hb hc => y_unique (n := D) (a := a) (by omega) ha hb hc
  have hY := Lib.hid fun (y : Int) W h h' => ryearStart_any y W h h'
  have hT := Lib.hid fun (m : Int) h h' => mo_test (n := D) (m := m) (by omega) h h'
  clear e1 e2 hD o1
  have ys00 : ysI 0 ≤ D := by
    have : ysI 0 = -719528 := by decide
    omega
  have ysMM : D < ysI 10001 := by
    have : ysI 10001 = 2933263 := by decide
    omega
  go_enter Tryd.func28, Tryd.ntmps28
  go_wp2_with (go_at_call 40; refine (hF.out _).mono ?_; rintro e w' ⟨rfl, rfl⟩)
  go_loop [4, 5] (fun lo hi => ∃ a b : Int, lo = .int .i64 a ∧ hi = .int .i64 b ∧ 0 ≤ a ∧ a < b ∧ b ≤ 10001 ∧ ysI a ≤ D ∧ D < ysI b) (fun lo hi => (intOf hi - intOf lo).toNat)
  case atStart => exact ⟨0, 10001, rfl, rfl, by omega, by omega, by omega, ys00, ysMM⟩
  case round =>
    obtain ⟨a, b, rfl, rfl, ha, hab, hb, ys1, ys2⟩ := hrel
    by_cases hgt : 1 < b - a
    · have hm0 : a < (a + b) / 2 := by omega
      have hm1 : (a + b) / 2 < b := by omega
      have hc := Lib.hid fun W => hY.out ((a + b) / 2) W (by omega) (by omega)
      by_cases hle : ysI ((a + b) / 2) ≤ D
      · go_wp2_with (go_at_call 41; refine (hc.out _).mono ?_; rintro e w' ⟨rfl, rfl⟩)
        go_round
        case rel => exact ⟨(a + b) / 2, b, rfl, rfl, by omega, by omega, by omega, hle, ys2⟩
        case measure => simp [intOf]; omega
      · go_wp2_with (go_at_call 41; refine (hc.out _).mono ?_; rintro e w' ⟨rfl, rfl⟩)
        go_round
        case rel => exact ⟨a, (a + b) / 2, rfl, rfl, by omega, by omega, by omega, ys1, by omega⟩
        case measure => simp [intOf]; omega
    · have hb1 : b = a + 1 := by omega
      subst hb1
      have hya := hU.out a ha ys1 ys2
      subst hya
      have cm := fun m (h : 1 ≤ m) (h' : m ≤ moI D) => cum_le_mo (n := D) (m := m) (by omega) h h'
      generalize hYY : yI D = Y at *
      generalize hMM : moI D = M at *
      generalize hGG : dI D = G at *
      have HYY := Lib.hid hYY
      have HMM := Lib.hid hMM
      have HGG := Lib.hid hGG
      clear hYY hMM hGG
      have hc := Lib.hid fun W => hY.out Y W (by omega) (by omega)
      have hmd := Lib.hid fun (m : Int) W (h : 1 ≤ m) (h' : m ≤ 12) => rMonthDays_any Y m W (by omega) (by omega) ⟨by omega, by omega⟩
      have hys : -719528 ≤ ysI Y := by unfold ysI; split <;> omega
      have cm := Lib.hid cm
      clear hY hU ys00 ysMM
      go_wp2_with (go_at_call 41; refine (hc.out _).mono ?_; rintro e w' ⟨rfl, rfl⟩)
      generalize hW1 : World.alloc (World.alloc _ _) _ = W1
      have hCv : CvW w w.heap.size (w.heap.size + 1) 52 Y 1 W1 := by
        subst hW1
        refine ⟨((Below.refl _ w).alloc (Nat.le_refl _) _).alloc (by simp) _, ?_, ?_⟩
        · exact (Below.heap_alloc _ _ _ (by simp)).trans (heap_alloc_new w _)
        · have := heap_alloc_new (w.alloc (.cells #[.int .i64 0, .int .i64 0, .int .i64 0, .int .i64 0, .int .i64 0, .int .i64 0] 52)) (.cells #[.int .i64 Y, .int .i64 1, .int .i64 0, .int .i64 0, .int .i64 0, .int .i64 0] 52)
          rw [show (w.alloc (.cells #[.int .i64 0, .int .i64 0, .int .i64 0, .int .i64 0, .int .i64 0, .int .i64 0] 52)).heap.size = w.heap.size + 1 by simp] at this
          exact this
      clear hW1
      have c11 : cumI Y 1 = 0 := by simp [cumI]
      go_loopw [8] (fun i wr => ∃ m : Int, i = .int .i64 (D - ysI Y - cumI Y m) ∧ 1 ≤ m ∧ m ≤ M ∧ CvW w w.heap.size (w.heap.size + 1) 52 Y m wr) (fun i _ => (intOf i).toNat)
      case atStart => exact ⟨1, by rw [c11]; congr 1; omega, by omega, o2, hCv⟩
      case round =>
        obtain ⟨m, rfl, hm1, hm2, hcv⟩ := hrel
        obtain ⟨⟨k0, k1, k2, k3, k4, k5⟩, f0, f1, f2, f3, f4, f5⟩ := blk6 hcv.cur
        have hmm := hmd.out m
        have Hmd := Lib.hid fun W => hmm W hm1 (by omega)
        have hcm := cm.out m hm1 hm2
        have ht := hT.out m hm1 hm2
        clear hmm
        have hb12 := md_bd Y m
        rcases Int.lt_or_le m M with hlt | hge
        · have hle := ht.2 hlt
          have hnx := cum_next Y m hm1 (by omega)
          clear ht
          go_wp2_with (go_at_call 42; refine (Hmd.out _).mono ?_; rintro e w' ⟨rfl, rfl⟩)
          go_roundw
          case rel => exact ⟨m + 1, by rw [hnx]; congr 1; omega, by omega, by omega, hcv.month (by omega) (by omega) _⟩
          case measure => simp [intOf]; omega
        · have hmM : m = M := by omega
          subst hmM
          have hnl : ¬ mdI Y m ≤ D - ysI Y - cumI Y m := fun h => absurd (ht.1 h) (by omega)
          obtain ⟨⟨r0, r1, r2, r3, r4, r5⟩, g0, g1, g2, g3, g4, g5⟩ := blk6 hcv.res
          clear ht
          have hG : D - ysI Y - cumI Y m + 1 = G := by have := O1.out; omega
          go_wp2_with (go_at_call 42; refine (Hmd.out _).mono ?_; rintro e w' ⟨rfl, rfl⟩)
          have hbl := hcv.below
          clear hmd Hmd hcv hT hc cm
          refine bodyPost_ret (v := .agg #[.int .i64 Y, .int .i64 m, .int .i64 G, .int .i64 ((s - 86400 * D) / 3600), .int .i64 ((s - 86400 * D) / 60 % 60), .int .i64 ((s - 86400 * D) % 60)]) (by simp only [results, Tryd.results28]; simp [go_sem, r0, r1, r2, r3, r4, r5]) rfl ?_
          refine ⟨by rw [HYY.out, HMM.out, HGG.out], ?_⟩
          have hp : w.heap.size ≤ w.heap.size + 1 := Nat.le_succ _
          exact (((((((((hbl.setCell hp _).setCell hp _).setCell hp _).setCell hp _).setCell (Nat.le_refl _) _).setCell (Nat.le_refl _) _).setCell (Nat.le_refl _) _).setCell (Nat.le_refl _) _).setCell (Nat.le_refl _) _).setCell (Nat.le_refl _) _
end Go.Proofs.YteeabfdafnncfaaDoor
