/-
  slices.SortStableFunc's insertion sort, at rows.
-/
import Derived.Test.YtcdaipkkddgbeaaQSoC
import Derived.Lib.QuietBelow
namespace Go.Proofs.Ytcdaipkkddgbeaa
open Go.RowKit
theorem wrap_nat {k : Nat} (h : k ≤ 9223372036854775807) : IntKind.i64.wrap (k : Int) = (k : Int) := IntWalk.i64_in _ ⟨by omega, by omega⟩
theorem below_drewNb (w : World) (n : Nat) : Below w.heap.size w (w.drewN n) := ⟨rfl, rfl, rfl, Nat.le_refl _, fun _ _ => rfl⟩
/-- The function value that compares rows. -/
abbrev cmpF : Value := .func (.func 27) #[] #[]
def CmpOk : Prop := ∀ (r s : VT) (B : Nat) (W : World), VT.Rows B W r.a.A r.a.cap r.l → VT.Rows B W s.a.A s.a.cap s.l → B ≤ W.heap.size → Calls Try.prog 27 #[rwV r, rwV s] W fun e w' => e = .returned (.int .i64 (cmpR r s)) ∧ Below W.heap.size W w'
def RwOk (B : Nat) (w : World) (n : Nat) (f : Nat → VT) : Prop := ∀ i, i < n → VT.Rows B w (f i).a.A (f i).a.cap (f i).l
theorem RwOk.keep {B n : Nat} {w w' : World} {f : Nat → VT} (h : RwOk B w n f) (hs : Same B w w') : RwOk B w' n f := fun i hi => (h i hi).keep hs
theorem SoW.rows {B g n a b : Nat} {f f' : Nat → VT} {w w' : World} (h : SoW g n a b f w f' w') (hr : RwOk B w n f) (hB : B ≤ w.heap.size) (hg : B ≤ g) (hb : b ≤ n) : RwOk B w' n f' := by
  have hs := h.ch.same hB hg
  intro i hi
  by_cases hi2 : a ≤ i ∧ i < b
  · exact (h.sw.all (fun r => VT.Rows B w r.a.A r.a.cap r.l) (fun j h1 h2 => hr j (by omega)) i hi2.1 hi2.2).keep hs
  · rw [h.sw.out (by omega)]; exact (hr i hi).keep hs
/-- Two rows compared, in every world that a drawing region can pass through. -/
theorem cmp_regrown (hc : CmpOk) {B n : Nat} {w : World} {f : Nat → VT} (hr : RwOk B w n f) (hB : B ≤ w.heap.size) {i j : Nat} (hi : i < n) (hj : j < n) : ∀ (d : Nat) (os : Array Obj),
    Calls Try.prog 27 #[.slice (f i).a.A (f i).l.length (f i).a.cap, .slice (f j).a.A (f j).l.length (f j).a.cap] (Sort.grow (redrawn w d) os) fun e w'' => e = .returned (.int .i64 (cmpR (f i) (f j))) ∧ ∃ p : Regrown, w'' = Sort.grow (redrawn w p.d) p.os := fun d os =>
  have hs : Same B w (Sort.grow (redrawn w d) os) := Same.mono (Same.of_below (below_regrown w d os)) hB
  Calls.regrown_of (hc (f i) (f j) B _ ((hr i hi).keep hs) ((hr j hj).keep hs) (Nat.le_trans hB (below_regrown w d os).size))
set_option maxRecDepth 100000 in
set_option maxHeartbeats 4000000 in
theorem insertion_any (hc : CmpOk) (g n cap a b B : Nat) (f : Nat → VT) (w : World) (h : HF w g n f) (hr : RwOk B w n f) (hB : B ≤ w.heap.size) (hg : B ≤ g) (hn : n ≤ 4611686018427387904) (hab : a ≤ b) (hbn : b ≤ n) :
    Calls Try.prog 50 #[.slice (some ⟨g, 0, none⟩) n cap, .int .i64 a, .int .i64 b, cmpF] w fun e w' => e = .returned (.tuple #[]) ∧ ∃ f', SoW g n a b f w f' w' ∧ SortedOn ltR f' a b := by
  have H0 := Lib.hid h
  have Hr := Lib.hid hr
  have Hc := Lib.hid hc
  clear h hr hc
  go_enter Try.func50, Try.ntmps50
  go_wp2
  go_loopw [8] (fun i wr => ∃ (k : Nat) (f' : Nat → VT), i = .int .i64 k ∧ a + 1 ≤ k ∧ (k ≤ b ∨ k = a + 1) ∧ SoW g n a b f w f' wr ∧ SortedOn ltR f' a k) (fun i _ => b + 1 - (intOf i).toNat)
  case atStart => exact ⟨a + 1, f, by go_num, Nat.le_refl _, .inr rfl, SoW.refl _ _ H0.out, SortedOn.one ltR_weak (Nat.le_refl _)⟩
  case round =>
    obtain ⟨k, f1, rfl, hk1, hk2, hS, hO⟩ := hrel
    have HS := Lib.hid hS
    have HO := Lib.hid hO
    clear hS hO
    by_cases hlt : k < b
    · go_wp2
      go_loopw [9] (fun j wr2 => ∃ (q : Nat) (f2 : Nat → VT), j = .int .i64 q ∧ a ≤ q ∧ q ≤ k ∧ SoW g n a b f w f2 wr2 ∧ InsAt ltR f2 a k q) (fun j _ => (intOf j).toNat)
      case atStart => exact ⟨k, f1, rfl, by omega, Nat.le_refl _, HS.out, InsAt.start HO.out⟩
      case round =>
        obtain ⟨q, f2, rfl, hq1, hq2, hS2, hI⟩ := hrel
        have hsz : B ≤ wr.heap.size := Nat.le_trans hB hS2.ch.size
        have hrw := hS2.rows Hr.out hB hg hbn
        by_cases hlq : a < q
        · have hcm := Lib.hid (cmp_regrown Hc.out hrw hsz (i := q) (j := q - 1) (by omega) (by omega))
          have c1 := hS2.hold.cell (i := q) (by omega)
          have c2 := hS2.hold.cell (i := q - 1) (by omega)
          unfold rwV at c1 c2
          have k1 := cell_regrown c1
          have k2 := cell_regrown c2
          have e1 : (q : Int) - 1 = ((q - 1 : Nat) : Int) := by omega
          have e2 : IntKind.i64.wrap ((q - 1 : Nat) : Int) = ((q - 1 : Nat) : Int) := wrap_nat (by omega)
          have lq : q < n := by omega
          have lq1 : q - 1 < n := by omega
          have HS2 := Lib.hid hS2
          have HI := Lib.hid hI
          clear hS2 hI hrw c1 c2
          go_wp2_with fail
          (refine wp_region_quiet_below (by kernel_rfl) (by kernel_rfl) ?_; (repeat (quiet_step (with_reducible first | exact hcm.out _ _))); refine wpQuiet_nil ?_; intro _ hw'; obtain ⟨⟨dq, osq⟩, hw''⟩ := hw'; subst hw'')
          have hb2 := below_regrown wr dq osq
          have hw1 : Sort.grow (redrawn wr (Regrown.mk dq osq).d) (Regrown.mk dq osq).os = Sort.grow (redrawn wr dq) osq := rfl
          rw [hw1]
          clear hw1
          generalize Sort.grow (redrawn wr dq) osq = W2 at hb2 ⊢
          have hS3 := HS2.out.below hb2
          clear k1 k2 hcm
          cases hL : ltR (f2 q) (f2 (q - 1))
          · have hl : decide (cmpR (f2 q) (f2 (q - 1)) < 0) = false := hL
            have hl2 : ¬ cmpR (f2 q) (f2 (q - 1)) < 0 := by simpa using hl
            have hfin := Lib.hid (InsAt.stop ltR_weak HI.out hq2 hq1 (.inr hL))
            have HS3 := Lib.hid hS3
            clear hS3 hl hL hb2
            go_wp2
            go_roundw
            case rel => exact ⟨k + 1, f2, by go_num, by omega, by omega, HS3.out, hfin.out⟩
            case measure => simp [intOf]; omega
          · have hl : decide (cmpR (f2 q) (f2 (q - 1)) < 0) = true := hL
            have hl2 : cmpR (f2 q) (f2 (q - 1)) < 0 := by simpa using hl
            have hI2 := Lib.hid (InsAt.step ltR_weak HI.out hlq hq2 hL)
            have c1 := hS3.hold.cell (i := q) (by omega)
            have c2 := hS3.hold.cell (i := q - 1) (by omega)
            have z1 := hS3.hold.frozen q
            have z2 := hS3.hold.frozen (q - 1)
            unfold rwV at c1 c2
            have hX := Lib.hid (hS3.swap (i := q) (j := q - 1) (by omega) (by omega) (by omega) (by omega) hbn (by omega))
            have hne : ¬ q = q - 1 := by omega
            have hne2 : ¬ q - 1 = q := by omega
            clear hS3 hl hL hb2
            go_wp2_with fail
            go_region
            go_wp2
            go_roundw
            case rel => exact ⟨q - 1, _, by congr 1, by omega, by omega, hX.out.drew, hI2.out⟩
            case measure => simp [intOf]; omega
        · have hqa : q = a := by omega
          have hfin := Lib.hid (InsAt.stop ltR_weak hI hq2 hq1 (.inl hqa))
          have HS2 := Lib.hid hS2
          have hng : decide ((a : Int) < (q : Int)) = false := by simp; omega
          clear hS2 hI hrw hqa
          go_wp2_with fail
          go_quiet (fail)
          have HS3 := Lib.hid (HS2.out.below (below_drewNb wr nq))
          generalize World.drewN wr nq = W2 at HS3 ⊢
          go_wp2
          go_roundw
          case rel => exact ⟨k + 1, f2, by go_num, by omega, by omega, HS3.out, hfin.out⟩
          case measure => simp [intOf]; omega
    · go_wp2
      refine ⟨rfl, _, results_none rfl _ _ _, rfl, f1, HS.out, ?_⟩
      rcases hk2 with h | h
      · obtain rfl : k = b := by omega
        exact HO.out
      · exact SortedOn.one ltR_weak (by omega)
end Go.Proofs.Ytcdaipkkddgbeaa
