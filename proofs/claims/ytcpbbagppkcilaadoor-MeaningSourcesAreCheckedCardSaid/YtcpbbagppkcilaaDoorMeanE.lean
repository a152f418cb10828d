/-
  The reference of package meaning: CheckTypes.
-/
import Derived.Test.YtcpbbagppkcilaaDoorMeanD
import Derived.Test.YtcpbbagppkcilaaDoorRefE
namespace Go.Proofs.YtcpbbagppkcilaaDoor
open Go.RowKit
set_option maxRecDepth 100000 in
set_option maxHeartbeats 1000000 in
theorem rwplain_any (t : FT) (g B : Nat) (a b : Int) (w : World) (hin : FT.In B w t) (hB : B ≤ w.heap.size) (hg : B ≤ g) (h2 : Two w g a b) :
    Calls Tryd.prog 67 #[.pointer (some ⟨g, 0, none⟩), .agg #[.int .i64 t.a.k, .int .i64 t.a.sc, .slice t.a.A t.l.length t.a.cap]] w (FailPost g w a (orF b (plainS t))) := by
  have hgl := h2.lt
  obtain ⟨W0, hW0⟩ : ∃ W0, w.alloc (.cells #[.int .i64 t.a.k, .int .i64 t.a.sc, .slice t.a.A t.l.length t.a.cap] 24) = W0 := ⟨_, rfl⟩
  have hbw : Below w.heap.size w W0 := by rw [← hW0]; exact bel1 _ _
  have hz0 : w.heap.size < W0.heap.size := by rw [← hW0]; simp
  have p0 : W0.cell? ⟨w.heap.size, 0, none⟩ = some (.int .i64 t.a.k) := by rw [← hW0]; simp
  have p1 : W0.cell? ⟨w.heap.size, 1, none⟩ = some (.int .i64 t.a.sc) := by rw [← hW0]; simp
  have p2 : W0.cell? ⟨w.heap.size, 2, none⟩ = some (.slice t.a.A t.l.length t.a.cap) := by rw [← hW0]; simp
  have hS0 := Same.mono (Same.of_below hbw) hB
  have hin0 := hin.keep hS0
  have h20 := h2.below hbw
  have hct := Lib.hid (rCheckType_any t B W0 hin0 (by omega))
  obtain ⟨R, hR⟩ : ∃ R, plainS t = R := ⟨_, rfl⟩
  rw [hR]
  unfold plainS at hR
  have HW0 := Lib.hid hW0
  clear hW0 hin hS0
  by_cases h0 : ctS t = 0
  · rw [h0, if_neg (by simp)] at hR
    have H0 := Lib.hid h0
    clear h0
    go_enter Tryd.func67, Tryd.ntmps67
    go_wp2_with fail
    rw [HW0.out]
    refine hct.out.mono ?_
    rintro e w1 ⟨rfl, hb1⟩
    rw [H0.out]
    have hz1 : W0.heap.size ≤ w1.heap.size := hb1.size
    have q0 := (hb1.cell (p := ⟨w.heap.size, 0, none⟩) hz0).trans p0
    have q1 := (hb1.cell (p := ⟨w.heap.size, 1, none⟩) hz0).trans p1
    have q2 := (hb1.cell (p := ⟨w.heap.size, 2, none⟩) hz0).trans p2
    have hpl := Lib.hid (rPlain_any t B w1 (hin0.keep (Same.mono (Same.of_below hb1) (by omega))) (by omega))
    have h21 := h20.below hb1
    clear p0 p1 p2 HW0 hct
    go_wp2_with fail
    refine hpl.out.mono ?_
    rintro e w2 ⟨rfl, hb2⟩
    have h22 := h21.below hb2
    have hne := Lib.hid (rneed_any g a b 1 (plT t) w2 h22)
    have hchx : Ch g w w2 := ((Ch.of_below hbw).then_below hb1).then_below hb2
    have HR : Hid ((if plT t = true then b else orF b 1) = orF b R) := by
      unfold Hid
      rw [← hR]
      cases plT t
      · simp
      · simp [orF]
    clear hR
    go_wp2_with fail
    refine hne.out.mono ?_
    rintro e w3 ⟨rfl, hch3, h23⟩
    rw [HR.out] at h23
    go_wp2
    go_end0
    exact ⟨rfl, hchx.trans hch3, h23⟩
  · rw [if_pos h0] at hR
    have n0 : (ctS t != 0) = true := by simpa using h0
    have HR := Lib.hid hR
    clear h0 hR
    go_enter Tryd.func67, Tryd.ntmps67
    go_wp2_with fail
    rw [HW0.out]
    refine hct.out.mono ?_
    rintro e w1 ⟨rfl, hb1⟩
    rw [HR.out] at n0 ⊢
    have h21 := h20.below hb1
    have hfa := Lib.hid (rfail_any g a b R w1 h21)
    have hchx : Ch g w w1 := (Ch.of_below hbw).then_below hb1
    go_wp2_with fail
    refine hfa.out.mono ?_
    rintro e w3 ⟨rfl, hch3, h23⟩
    go_wp2
    go_end0
    exact ⟨rfl, hchx.trans hch3, h23⟩
theorem plainsS_cons (x : FT) (r : List FT) : plainsS (x :: r) = if plainS x ≠ 0 then plainS x else plainsS r := rfl
theorem orF_plains (b : Int) (x : FT) (r : List FT) : orF (orF b (plainS x)) (plainsS r) = orF b (plainsS (x :: r)) := by
  rw [plainsS_cons]
  unfold orF
  by_cases hb : b = 0
  · rw [if_pos hb, if_pos hb]
    by_cases hx : plainS x = 0
    · rw [if_pos hx, if_neg (by simp [hx])]
    · rw [if_neg hx, if_pos hx]
  · rw [if_neg hb, if_neg hb, if_neg hb]
set_option maxRecDepth 100000 in
set_option maxHeartbeats 1000000 in
theorem rCheckTypes_any (A : Option Addr) (cap len : Nat) (l : List FT) (B : Nat) (w : World) (hr : FT.TRow B w A cap l) (hB : B ≤ w.heap.size) (hlen : Hid (l.length = len)) :
    Calls Tryd.prog 41 #[.slice A len cap] w fun e w' => e = .returned (.int .i64 (plainsS l)) ∧ Below w.heap.size w w' := by
  have hll : len ≤ 9223372036854775807 := by rw [← hlen.out]; exact Nat.le_trans hr.1 hr.2.1
  obtain ⟨R, hR⟩ : ∃ R, plainsS l = R := ⟨_, rfl⟩
  rw [hR]
  have HR := Lib.hid (show orF 0 (plainsS l) = R by rw [← hR]; rfl)
  clear hR
  obtain ⟨W0, hW0⟩ : ∃ W0, w.alloc (.cells #[.int .i64 0, .int .i64 0] 88) = W0 := ⟨_, rfl⟩
  have hch0 : Ch w.heap.size w W0 := by rw [← hW0]; exact (Ch.refl _ w).alloc _
  have h20 : Two W0 w.heap.size 0 0 := by rw [← hW0]; exact ⟨_, heap_alloc_new w _⟩
  have HW0 := Lib.hid hW0
  clear hW0
  go_enter Tryd.func41, Tryd.ntmps41
  go_wp2
  rw [HW0.out]
  go_loopw [10] (fun i wr => ∃ (j : Nat) (b : Int), j ≤ len ∧ i = .int .i64 j ∧ Ch w.heap.size w wr ∧ Two wr w.heap.size 0 b ∧ Hid (orF b (plainsS (l.drop j)) = R)) (fun i _ => len - (intOf i).toNat)
  case atStart => exact ⟨0, 0, Nat.zero_le _, rfl, hch0, h20, HR⟩
  case round =>
    obtain ⟨j, b, hj, rfl, hch, h2, HRj⟩ := hrel
    by_cases hlt : j < len
    · have hSr : Same B w wr := hch.same hB hB
      obtain ⟨x, ad, hx, rfl, hb, d0, d1, d2⟩ := (hr.keep hSr).get (show j < l.length by rw [hlen.out]; exact hlt)
      have hzr := hch.size
      have hic := Lib.hid (fun o => rwplain_any x w.heap.size B 0 b (wr.alloc o) ((hr.2.2.1 x (mem_of_get? hx)).keep (hSr.alloc (by omega) o)) (by simp; omega) hB (h2.alloc o))
      have HR2 := Lib.hid (show orF (orF b (plainS x)) (plainsS (l.drop (j + 1))) = R by rw [orF_plains, ← drop_of_get? hx]; exact HRj.out)
      clear HRj hr hx
      go_wp2_with fail
      refine (hic.out _).mono ?_
      rintro e w' ⟨rfl, hch3, h23⟩
      go_wp2
      go_roundw
      case rel => exact ⟨j + 1, _, by omega, by go_num, (hch.alloc _).trans hch3, h23, HR2⟩
      case measure => simp [intOf]; omega
    · have HR3 : Hid (b = R) := by have := HRj.out; rw [List.drop_eq_nil_of_le (by rw [hlen.out]; omega)] at this; rw [← this]; unfold plainsS orF; split <;> simp_all [Hid]
      have hc := h2.cell1
      go_wp2
      go_ret
      exact ⟨by rw [← HR3.out]; rfl, hch.below (Nat.le_refl _)⟩
end Go.Proofs.YtcpbbagppkcilaaDoor
