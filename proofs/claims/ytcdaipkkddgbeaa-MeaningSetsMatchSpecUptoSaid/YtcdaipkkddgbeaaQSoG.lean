/-
  slices.SortStableFunc's merge.
-/
import Derived.Test.YtcdaipkkddgbeaaQSoF
namespace Go.Proofs.Ytcdaipkkddgbeaa
open Go.RowKit
theorem SymIn.bd {f : Nat → VT} {a m b s r : Nat} (h : SymIn ltR f a m b s r) (_ham : a + 1 < m) (_hmb : m + 1 < b) : a ≤ s ∧ s ≤ r ∧ r ≤ m ∧ r ≤ (a + b) / 2 ∧ (a + b) / 2 + m ≤ b + s := by
  obtain ⟨lo, mid, hi, _, _⟩ := h
  split at lo <;> split at hi <;> omega
/-- The left half is in order. -/
def LSt (g n a b mid : Nat) (f : Nat → VT) (w : World) (F1 : Nat → VT) (W : World) : Prop := ∃ f2, SoW g n a b f w f2 W ∧ Sw a mid F1 f2 ∧ SortedOn ltR f2 a mid
def FSt (g n a b : Nat) (f : Nat → VT) (w W : World) : Prop := ∃ f', SoW g n a b f w f' W ∧ SortedOn ltR f' a b
def MgOk (g n cap a b B : Nat) : Prop := ∀ (a' m' b' : Nat) (f' : Nat → VT) (w' : World), HF w' g n f' → RwOk B w' n f' → B ≤ w'.heap.size → b' - a' < b - a → a' < m' → m' < b' → b' ≤ n → SortedOn ltR f' a' m' → SortedOn ltR f' m' b' →
  Calls Try.prog 51 #[.slice (some ⟨g, 0, none⟩) n cap, .int .i64 a', .int .i64 m', .int .i64 b', cmpF] w' (MgPost g n a' b' f' w')
theorem skipS {_lt : VT → VT → Bool} {g n a b s m E : Nat} {f : Nat → VT} {w W : World} (h : SoW g n a b f w f W) (h1 : s ≤ m) (h2 : m ≤ E) (hn : ¬ (s < m ∧ m < E)) : SoW g n a b f w (rot f s m E) W := by
  rw [rot_none f s m E (by omega) h1 h2]
  exact h
theorem rot_w {cv : Value} {g n cap a b s m E : Nat} {f : Nat → VT} {w W : World} (h : SoW g n a b f w f W) (h1 : s < m) (h2 : m < E) (hn : n ≤ 4611686018427387904) (ha : a ≤ s) (hE : E ≤ b) (hbn : b ≤ n) :
    Calls Try.prog 58 #[.slice (some ⟨g, 0, none⟩) n cap, .int .i64 s, .int .i64 m, .int .i64 E, cv] W fun e w' => e = .returned (.tuple #[]) ∧ SoW g n a b f w (rot f s m E) w' :=
  (rotate_any g n cap s m E f cv W h.hold hn h1 h2 (by omega)).mono fun e w' ⟨he, hS⟩ => ⟨he, h.trans (hS.mono ha hE)⟩
theorem left_w {g n cap a b s mid B : Nat} {f F1 : Nat → VT} {w W : World} (Ih : MgOk g n cap a b B) (hr : RwOk B w n f) (hB : B ≤ w.heap.size) (hg : B ≤ g) (hbn : b ≤ n) (h : SoW g n a b f w F1 W) (h1 : a < s) (h2 : s < mid) (h3 : mid < b) (h4 : a < mid)
    (p1 : SortedOn ltR F1 a s) (p2 : SortedOn ltR F1 s mid) :
    Calls Try.prog 51 #[.slice (some ⟨g, 0, none⟩) n cap, .int .i64 a, .int .i64 s, .int .i64 mid, cmpF] W fun e w' => e = .returned (.tuple #[]) ∧ LSt g n a b mid f w F1 w' :=
  (Ih a s mid F1 W h.hold (h.rows hr hB hg hbn) (Nat.le_trans hB h.ch.size) (by omega) h1 h2 (by omega) p1 p2).mono fun e w' ⟨he, f2, hS, hO⟩ => ⟨he, f2, h.trans (hS.mono (Nat.le_refl _) (by omega)), hS.sw, hO⟩
theorem right_sorted {a b mid E : Nat} {F1 f2 : Nat → VT} (hsw : Sw a mid F1 f2) (p3 : SortedOn ltR F1 mid E) (p4 : SortedOn ltR F1 E b) (hE : mid ≤ E) : SortedOn ltR f2 mid E ∧ SortedOn ltR f2 E b :=
  ⟨fun i j h1 h2 h3 => by rw [hsw.out (.inr h1), hsw.out (i := j) (.inr (by omega))]; exact p3 i j h1 h2 h3, fun i j h1 h2 h3 => by rw [hsw.out (i := i) (.inr (by omega)), hsw.out (i := j) (.inr (by omega))]; exact p4 i j h1 h2 h3⟩
theorem right_w {g n cap a b mid E B : Nat} {f F1 : Nat → VT} {w W : World} (Ih : MgOk g n cap a b B) (hr : RwOk B w n f) (hB : B ≤ w.heap.size) (hg : B ≤ g) (hbn : b ≤ n) (h : LSt g n a b mid f w F1 W) (h1 : mid < E) (h2 : E < b) (h3 : mid < b) (h4 : a < mid)
    (p3 : SortedOn ltR F1 mid E) (p4 : SortedOn ltR F1 E b) (p5 : ∀ i j, a ≤ i → i < mid → mid ≤ j → j < b → ltR (F1 j) (F1 i) = false) :
    Calls Try.prog 51 #[.slice (some ⟨g, 0, none⟩) n cap, .int .i64 mid, .int .i64 E, .int .i64 b, cmpF] W fun e w' => e = .returned (.tuple #[]) ∧ FSt g n a b f w w' := by
  obtain ⟨f2, hS, hsw, hO⟩ := h
  obtain ⟨r1, r2⟩ := right_sorted hsw p3 p4 (by omega)
  exact (Ih mid E b f2 W hS.hold (hS.rows hr hB hg hbn) (Nat.le_trans hB hS.ch.size) (by omega) h1 h2 (by omega) r1 r2).mono fun e w' ⟨he, f3, hS3, hO3⟩ => ⟨he, f3, hS.trans (hS3.mono (by omega) (Nat.le_refl _)), sym_join p5 hsw hO hS3.sw hO3⟩
theorem skipL {g n a b s mid : Nat} {f F1 : Nat → VT} {w W : World} (h : SoW g n a b f w F1 W) (hn : ¬ (a < s ∧ s < mid)) (h1 : a ≤ s) (h2 : s ≤ mid) (p1 : SortedOn ltR F1 a s) (p2 : SortedOn ltR F1 s mid) : LSt g n a b mid f w F1 W := by
  refine ⟨F1, h, .refl, ?_⟩
  by_cases e : a < s
  · have : s = mid := by omega
    rw [← this]; exact p1
  · have : a = s := by omega
    rw [this]; exact p2
theorem skipR {g n a b mid E : Nat} {f F1 : Nat → VT} {w W : World} (h : LSt g n a b mid f w F1 W) (hn : ¬ (mid < E ∧ E < b)) (h1 : mid ≤ E) (h2 : E ≤ b) (_h3 : a ≤ mid) (p3 : SortedOn ltR F1 mid E) (p4 : SortedOn ltR F1 E b) (p5 : ∀ i j, a ≤ i → i < mid → mid ≤ j → j < b → ltR (F1 j) (F1 i) = false) : FSt g n a b f w W := by
  obtain ⟨f2, hS, hsw, hO⟩ := h
  obtain ⟨r1, r2⟩ := right_sorted hsw p3 p4 h1
  refine ⟨f2, hS, sym_join (g2 := f2) p5 hsw hO .refl ?_⟩
  by_cases e : mid < E
  · have : E = b := by omega
    rw [← this]; exact r1
  · have : mid = E := by omega
    rw [this]; exact r2
set_option maxRecDepth 100000 in
set_option maxHeartbeats 6000000 in
theorem symC_any (hc : CmpOk) (g n cap a m b B : Nat) (f : Nat → VT) (w : World) (h : HF w g n f) (hr : RwOk B w n f) (hB : B ≤ w.heap.size) (hg : B ≤ g) (hn : n ≤ 2305843009213693952) (ham : a + 1 < m) (hmb : m + 1 < b) (hbn : b ≤ n) (hs1 : SortedOn ltR f a m) (hs2 : SortedOn ltR f m b)
    (ih : MgOk g n cap a b B) :
    Calls Try.prog 51 #[.slice (some ⟨g, 0, none⟩) n cap, .int .i64 a, .int .i64 m, .int .i64 b, cmpF] w (MgPost g n a b f w) := by
  have H0 := Lib.hid h
  have Hr := Lib.hid hr
  have Hc := Lib.hid hc
  have Hs1 := Lib.hid hs1
  have Hs2 := Lib.hid hs2
  have Ih := Lib.hid ih
  have e0 : ((m : Int) - (a : Int) == 1) = false := by simp; omega
  have e00 : ((b : Int) - (m : Int) == 1) = false := by simp; omega
  obtain ⟨mid, hmid⟩ : ∃ mid, (a + b) / 2 = mid := ⟨_, rfl⟩
  have eM : ((a : Int) + (b : Int)) / 2 = (mid : Int) := by omega
  have hm1 : a < mid := by omega
  have hm2 : mid < b := by omega
  have Hst0 := Lib.hid (SymIn.start (lt := ltR) (f := f) (a := a) (m := m) (b := b) (by omega) (by omega))
  have Hmid := Lib.hid hmid
  clear h hr hc hs1 hs2 ih hmid
  by_cases hmm : mid < m
  · have eN : (mid : Int) + (m : Int) - (b : Int) = ((mid + m - b : Nat) : Int) := by omega
    have eP : (mid : Int) + (m : Int) - 1 = ((mid + m - 1 : Nat) : Int) := by omega
    have Hst : Hid (SymIn ltR f a m b (mid + m - b) mid) := by
      have := Hst0.out
      rw [Hmid.out, if_pos hmm, if_pos hmm] at this
      exact this
    go_enter Try.func51, Try.ntmps51
    go_wp2
    go_loopw [20, 21] (fun vs vr wr => ∃ s r : Nat, vs = .int .i64 s ∧ vr = .int .i64 r ∧ Hid (SymIn ltR f a m b s r) ∧ SoW g n a b f w f wr) (fun vs vr _ => (intOf vr).toNat - (intOf vs).toNat)
    case atStart => exact ⟨mid + m - b, mid, rfl, rfl, Hst.out, SoW.refl _ _ H0.out⟩
    case round =>
      obtain ⟨s, r, rfl, rfl, hI, hS⟩ := hrel
      obtain ⟨q1, q2, q3, q4, q5⟩ := hI.out.bd ham hmb
      rw [Hmid.out] at q4 q5
      by_cases hlt : s < r
      · have hc1 : s ≤ (s + r) / 2 := by omega
        have hc2 : (s + r) / 2 < r := by omega
        have hsz : B ≤ wr.heap.size := Nat.le_trans hB hS.ch.size
        have hrw := hS.rows Hr.out hB hg hbn
        obtain ⟨c, hce⟩ : ∃ c, (s + r) / 2 = c := ⟨_, rfl⟩
        rw [hce] at hc1 hc2
        have hcm := Lib.hid (cmp_regrown Hc.out hrw hsz (i := mid + m - 1 - c) (j := c) (by omega) (by omega))
        have c1 := hS.hold.cell (i := mid + m - 1 - c) (by omega)
        have c2 := hS.hold.cell (i := c) (by omega)
        unfold rwV at c1 c2
        have k1 := cell_regrown c1
        have k2 := cell_regrown c2
        have l1 : mid + m - 1 - c < n := by omega
        have l2 : c < n := by omega
        have eC : ((s : Int) + (r : Int)) / 2 = (c : Int) := by omega
        have eD : ((mid + m - 1 : Nat) : Int) - (c : Int) = ((mid + m - 1 - c : Nat) : Int) := by omega
        have eW : IntKind.i64.wrap ((mid + m - 1 - c : Nat) : Int) = ((mid + m - 1 - c : Nat) : Int) := wrap_nat (by omega)
        have HS := Lib.hid hS
        have Hce := Lib.hid hce
        clear hS hrw c1 c2 hce
        go_wp2_with fail
        (refine wp_region_quiet_below (by kernel_rfl) (by kernel_rfl) ?_; (repeat (quiet_step (with_reducible first | exact hcm.out _ _))); refine wpQuiet_nil ?_; intro _ hw'; obtain ⟨⟨dq, osq⟩, hw''⟩ := hw'; subst hw'')
        have hb2 := below_regrown wr dq osq
        have hw1 : Sort.grow (redrawn wr (Regrown.mk dq osq).d) (Regrown.mk dq osq).os = Sort.grow (redrawn wr dq) osq := rfl
        rw [hw1]
        clear hw1
        generalize Sort.grow (redrawn wr dq) osq = W2 at hb2 ⊢
        have HS3 := Lib.hid (HS.out.below hb2)
        clear k1 k2 hcm hb2
        cases hq : ltR (f (mid + m - 1 - c)) (f c)
        · have hl3 : (!decide (cmpR (f (mid + m - 1 - c)) (f c) < 0)) = true := by
            have : decide (cmpR (f (mid + m - 1 - c)) (f c) < 0) = false := hq
            rw [this]; rfl
          have hI2 : Hid (SymIn ltR f a m b (c + 1) r) := by
            have := SymIn.up ltR_weak (by omega) (by omega) Hs1.out Hs2.out hI.out hlt (by rw [Hmid.out, Hce.out]; exact hq)
            rw [Hce.out] at this
            exact this
          clear hq
          rw [hl3]
          clear hl3
          go_wp2
          go_roundw
          case rel => exact ⟨c + 1, r, by go_num, rfl, hI2, HS3.out⟩
          case measure => simp [intOf]; omega
        · have hl3 : (!decide (cmpR (f (mid + m - 1 - c)) (f c) < 0)) = false := by
            have : decide (cmpR (f (mid + m - 1 - c)) (f c) < 0) = true := hq
            rw [this]; rfl
          have hI2 : Hid (SymIn ltR f a m b s c) := by
            have := SymIn.down ltR_weak (by omega) (by omega) Hs1.out Hs2.out hI.out hlt (by rw [Hmid.out, Hce.out]; exact hq)
            rw [Hce.out] at this
            exact this
          clear hq
          rw [hl3]
          clear hl3
          go_wp2
          go_roundw
          case rel => exact ⟨s, c, rfl, rfl, hI2, HS3.out⟩
          case measure => simp [intOf]; omega
      · obtain rfl : s = r := by omega
        have HF := Lib.hid (SymIn.found ltR_weak (by omega) (by omega) Hs1.out Hs2.out hI.out)
        have eE : (mid : Int) + (m : Int) - (s : Int) = ((mid + m - s : Nat) : Int) := by omega
        obtain ⟨E, hE⟩ : ∃ E, mid + m - s = E := ⟨_, rfl⟩
        rw [hE] at eE
        have p0 := sym_parts (by omega) (by omega) Hs1.out Hs2.out HF.out
        rw [Hmid.out, hE] at p0
        have hSk := Lib.hid (skipS (_lt := ltR) (E := E) hS q3 (by omega))
        have hRot := Lib.hid (fun W (h : SoW g n a b f w f W) (h1 : s < m) (h2 : m < E) => rot_w (cv := cmpF) (cap := cap) h h1 h2 (by omega) q1 (by omega) hbn)
        have hLf := Lib.hid (fun W (h : SoW g n a b f w (rot f s m E) W) (h1 : a < s) (h2 : s < mid) => left_w Ih.out Hr.out hB hg hbn h h1 h2 (by omega) (by omega) p0.1 p0.2.1)
        have hRt := Lib.hid (fun W (h : LSt g n a b mid f w (rot f s m E) W) (h1 : mid < E) (h2 : E < b) => right_w Ih.out Hr.out hB hg hbn h h1 h2 (by omega) (by omega) p0.2.2.1 p0.2.2.2.1 p0.2.2.2.2)
        have hkL := Lib.hid (fun W (h : SoW g n a b f w (rot f s m E) W) (h1 : ¬ (a < s ∧ s < mid)) => skipL (mid := mid) h h1 q1 q4 p0.1 p0.2.1)
        have hkR := Lib.hid (fun W (h : LSt g n a b mid f w (rot f s m E) W) (h1 : ¬ (mid < E ∧ E < b)) => skipR h h1 (by omega) (by omega) (by omega) p0.2.2.1 p0.2.2.2.1 p0.2.2.2.2)
        have HS := Lib.hid hS
        have hEb : E ≤ b := by omega
        have hmE : mid ≤ E := by omega
        have hEs : E + s = mid + m := by omega
        clear hS hI p0 hE HF Hst Hst0
        go_wp2_with (first
          | (go_at_call 58; refine (hRot.out _ HS.out (by omega) (by omega)).mono ?_; rintro e wx ⟨rfl, hS1⟩)
          | (go_at_call 51; (with_reducible refine (hLf.out _ ?lf1 ?lf2 ?lf3).mono ?_); (case lf1 => first | exact hS1 | exact hSk.out (by omega)); (case lf2 => omega); (case lf3 => omega); rintro e wy ⟨rfl, hS2⟩)
          | (go_at_call 51; (with_reducible refine (hRt.out _ ?rt1 ?rt2 ?rt3).mono ?_); (case rt1 => first | exact hS2 | exact hkL.out _ (by first | exact hS1 | exact hSk.out (by omega)) (by omega)); (case rt2 => omega); (case rt3 => omega); rintro e wz ⟨rfl, hS3⟩))
        all_goals
          refine ⟨rfl, _, results_none rfl _ _ _, rfl, ?_⟩
          first
            | exact hS3
            | exact hkR.out _ hS2 (by omega)
            | exact hkR.out _ (hkL.out _ hS1 (by omega)) (by omega)
            | exact hkR.out _ (hkL.out _ (hSk.out (by omega)) (by omega)) (by omega)
  · have eP : (mid : Int) + (m : Int) - 1 = ((mid + m - 1 : Nat) : Int) := by omega
    have Hst : Hid (SymIn ltR f a m b a m) := by
      have := Hst0.out
      rw [Hmid.out, if_neg hmm, if_neg hmm] at this
      exact this
    go_enter Try.func51, Try.ntmps51
    go_wp2
    go_loopw [20, 21] (fun vs vr wr => ∃ s r : Nat, vs = .int .i64 s ∧ vr = .int .i64 r ∧ Hid (SymIn ltR f a m b s r) ∧ SoW g n a b f w f wr) (fun vs vr _ => (intOf vr).toNat - (intOf vs).toNat)
    case atStart => exact ⟨a, m, rfl, rfl, Hst.out, SoW.refl _ _ H0.out⟩
    case round =>
      obtain ⟨s, r, rfl, rfl, hI, hS⟩ := hrel
      obtain ⟨q1, q2, q3, q4, q5⟩ := hI.out.bd ham hmb
      rw [Hmid.out] at q4 q5
      by_cases hlt : s < r
      · have hc1 : s ≤ (s + r) / 2 := by omega
        have hc2 : (s + r) / 2 < r := by omega
        have hsz : B ≤ wr.heap.size := Nat.le_trans hB hS.ch.size
        have hrw := hS.rows Hr.out hB hg hbn
        obtain ⟨c, hce⟩ : ∃ c, (s + r) / 2 = c := ⟨_, rfl⟩
        rw [hce] at hc1 hc2
        have hcm := Lib.hid (cmp_regrown Hc.out hrw hsz (i := mid + m - 1 - c) (j := c) (by omega) (by omega))
        have c1 := hS.hold.cell (i := mid + m - 1 - c) (by omega)
        have c2 := hS.hold.cell (i := c) (by omega)
        unfold rwV at c1 c2
        have k1 := cell_regrown c1
        have k2 := cell_regrown c2
        have l1 : mid + m - 1 - c < n := by omega
        have l2 : c < n := by omega
        have eC : ((s : Int) + (r : Int)) / 2 = (c : Int) := by omega
        have eD : ((mid + m - 1 : Nat) : Int) - (c : Int) = ((mid + m - 1 - c : Nat) : Int) := by omega
        have eW : IntKind.i64.wrap ((mid + m - 1 - c : Nat) : Int) = ((mid + m - 1 - c : Nat) : Int) := wrap_nat (by omega)
        have HS := Lib.hid hS
        have Hce := Lib.hid hce
        clear hS hrw c1 c2 hce
        go_wp2_with fail
        (refine wp_region_quiet_below (by kernel_rfl) (by kernel_rfl) ?_; (repeat (quiet_step (with_reducible first | exact hcm.out _ _))); refine wpQuiet_nil ?_; intro _ hw'; obtain ⟨⟨dq, osq⟩, hw''⟩ := hw'; subst hw'')
        have hb2 := below_regrown wr dq osq
        have hw1 : Sort.grow (redrawn wr (Regrown.mk dq osq).d) (Regrown.mk dq osq).os = Sort.grow (redrawn wr dq) osq := rfl
        rw [hw1]
        clear hw1
        generalize Sort.grow (redrawn wr dq) osq = W2 at hb2 ⊢
        have HS3 := Lib.hid (HS.out.below hb2)
        clear k1 k2 hcm hb2
        cases hq : ltR (f (mid + m - 1 - c)) (f c)
        · have hl3 : (!decide (cmpR (f (mid + m - 1 - c)) (f c) < 0)) = true := by
            have : decide (cmpR (f (mid + m - 1 - c)) (f c) < 0) = false := hq
            rw [this]; rfl
          have hI2 : Hid (SymIn ltR f a m b (c + 1) r) := by
            have := SymIn.up ltR_weak (by omega) (by omega) Hs1.out Hs2.out hI.out hlt (by rw [Hmid.out, Hce.out]; exact hq)
            rw [Hce.out] at this
            exact this
          clear hq
          rw [hl3]
          clear hl3
          go_wp2
          go_roundw
          case rel => exact ⟨c + 1, r, by go_num, rfl, hI2, HS3.out⟩
          case measure => simp [intOf]; omega
        · have hl3 : (!decide (cmpR (f (mid + m - 1 - c)) (f c) < 0)) = false := by
            have : decide (cmpR (f (mid + m - 1 - c)) (f c) < 0) = true := hq
            rw [this]; rfl
          have hI2 : Hid (SymIn ltR f a m b s c) := by
            have := SymIn.down ltR_weak (by omega) (by omega) Hs1.out Hs2.out hI.out hlt (by rw [Hmid.out, Hce.out]; exact hq)
            rw [Hce.out] at this
            exact this
          clear hq
          rw [hl3]
          clear hl3
          go_wp2
          go_roundw
          case rel => exact ⟨s, c, rfl, rfl, hI2, HS3.out⟩
          case measure => simp [intOf]; omega
      · obtain rfl : s = r := by omega
        have HF := Lib.hid (SymIn.found ltR_weak (by omega) (by omega) Hs1.out Hs2.out hI.out)
        have eE : (mid : Int) + (m : Int) - (s : Int) = ((mid + m - s : Nat) : Int) := by omega
        obtain ⟨E, hE⟩ : ∃ E, mid + m - s = E := ⟨_, rfl⟩
        rw [hE] at eE
        have p0 := sym_parts (by omega) (by omega) Hs1.out Hs2.out HF.out
        rw [Hmid.out, hE] at p0
        have hSk := Lib.hid (skipS (_lt := ltR) (E := E) hS q3 (by omega))
        have hRot := Lib.hid (fun W (h : SoW g n a b f w f W) (h1 : s < m) (h2 : m < E) => rot_w (cv := cmpF) (cap := cap) h h1 h2 (by omega) q1 (by omega) hbn)
        have hLf := Lib.hid (fun W (h : SoW g n a b f w (rot f s m E) W) (h1 : a < s) (h2 : s < mid) => left_w Ih.out Hr.out hB hg hbn h h1 h2 (by omega) (by omega) p0.1 p0.2.1)
        have hRt := Lib.hid (fun W (h : LSt g n a b mid f w (rot f s m E) W) (h1 : mid < E) (h2 : E < b) => right_w Ih.out Hr.out hB hg hbn h h1 h2 (by omega) (by omega) p0.2.2.1 p0.2.2.2.1 p0.2.2.2.2)
        have hkL := Lib.hid (fun W (h : SoW g n a b f w (rot f s m E) W) (h1 : ¬ (a < s ∧ s < mid)) => skipL (mid := mid) h h1 q1 q4 p0.1 p0.2.1)
        have hkR := Lib.hid (fun W (h : LSt g n a b mid f w (rot f s m E) W) (h1 : ¬ (mid < E ∧ E < b)) => skipR h h1 (by omega) (by omega) (by omega) p0.2.2.1 p0.2.2.2.1 p0.2.2.2.2)
        have HS := Lib.hid hS
        have hEb : E ≤ b := by omega
        have hmE : mid ≤ E := by omega
        have hEs : E + s = mid + m := by omega
        clear hS hI p0 hE HF Hst Hst0
        go_wp2_with (first
          | (go_at_call 58; refine (hRot.out _ HS.out (by omega) (by omega)).mono ?_; rintro e wx ⟨rfl, hS1⟩)
          | (go_at_call 51; (with_reducible refine (hLf.out _ ?lf1 ?lf2 ?lf3).mono ?_); (case lf1 => first | exact hS1 | exact hSk.out (by omega)); (case lf2 => omega); (case lf3 => omega); rintro e wy ⟨rfl, hS2⟩)
          | (go_at_call 51; (with_reducible refine (hRt.out _ ?rt1 ?rt2 ?rt3).mono ?_); (case rt1 => first | exact hS2 | exact hkL.out _ (by first | exact hS1 | exact hSk.out (by omega)) (by omega)); (case rt2 => omega); (case rt3 => omega); rintro e wz ⟨rfl, hS3⟩))
        all_goals
          refine ⟨rfl, _, results_none rfl _ _ _, rfl, ?_⟩
          first
            | exact hS3
            | exact hkR.out _ hS2 (by omega)
            | exact hkR.out _ (hkL.out _ hS1 (by omega)) (by omega)
            | exact hkR.out _ (hkL.out _ (hSk.out (by omega)) (by omega)) (by omega)
end Go.Proofs.Ytcdaipkkddgbeaa
