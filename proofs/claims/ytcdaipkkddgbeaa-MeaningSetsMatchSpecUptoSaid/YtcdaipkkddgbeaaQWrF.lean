/-
  The reference of package value: Decimals compared.
-/
import Derived.Test.YtcdaipkkddgbeaaQWrE
namespace Go.Proofs.Ytcdaipkkddgbeaa
open Go.RowKit
theorem rwithin_q (a : Int) (w : World) : Calls Try.prog 31 #[.int .i64 a, .int .i64 0, .int .i64 12] w fun e w' => e = .returned (.bool (inSc a)) ∧ w' = w :=
  (rwithin_any a 0 12 w).mono fun _ _ h => ⟨h.1, h.2.symm⟩
set_option maxRecDepth 100000 in
set_option maxHeartbeats 4000000 in
theorem rdecimals_any (k n sc k2 m sd : Int) (s t : ByteArray) (A A2 : Option Addr) (len len2 cap cap2 : Nat) (w : World) (hn : I64 n) (hm : I64 m) :
    Calls Try.prog 22 #[.agg #[.int .i64 k, .int .i64 n, .int .i64 sc, .string s, .slice A len cap], .agg #[.int .i64 k2, .int .i64 m, .int .i64 sd, .string t, .slice A2 len2 cap2]] w fun e w' => e = .returned (.int .i64 (orC (decC n sc m sd) (ordI sc sd))) ∧ Below w.heap.size w w' := by
  obtain ⟨W0, hW0⟩ : ∃ W0, (w.alloc (.cells #[.int .i64 k, .int .i64 n, .int .i64 sc, .string s, .slice A len cap] 33)).alloc (.cells #[.int .i64 k2, .int .i64 m, .int .i64 sd, .string t, .slice A2 len2 cap2] 33) = W0 := ⟨_, rfl⟩
  have hbw : Below w.heap.size w W0 := by rw [← hW0]; exact bel2 _ _ _
  have hz0 : W0.heap.size = w.heap.size + 2 := by rw [← hW0]; simp
  have p0 : W0.cell? ⟨w.heap.size, 0, none⟩ = some (.int .i64 k) := by rw [← hW0]; simp
  have p1 : W0.cell? ⟨w.heap.size, 1, none⟩ = some (.int .i64 n) := by rw [← hW0]; simp
  have p2 : W0.cell? ⟨w.heap.size, 2, none⟩ = some (.int .i64 sc) := by rw [← hW0]; simp
  have p3 : W0.cell? ⟨w.heap.size, 3, none⟩ = some (.string s) := by rw [← hW0]; simp
  have p4 : W0.cell? ⟨w.heap.size, 4, none⟩ = some (.slice A len cap) := by rw [← hW0]; simp
  have q0 : W0.cell? ⟨w.heap.size + 1, 0, none⟩ = some (.int .i64 k2) := by rw [← hW0]; simp
  have q1 : W0.cell? ⟨w.heap.size + 1, 1, none⟩ = some (.int .i64 m) := by rw [← hW0]; simp
  have q2 : W0.cell? ⟨w.heap.size + 1, 2, none⟩ = some (.int .i64 sd) := by rw [← hW0]; simp
  have q3 : W0.cell? ⟨w.heap.size + 1, 3, none⟩ = some (.string t) := by rw [← hW0]; simp
  have q4 : W0.cell? ⟨w.heap.size + 1, 4, none⟩ = some (.slice A2 len2 cap2) := by rw [← hW0]; simp
  have hk : Hid (∀ W, Below W0.heap.size W0 W → Below W0.heap.size W0 W ∧ W.cell? ⟨w.heap.size, 0, none⟩ = some (.int .i64 k) ∧ W.cell? ⟨w.heap.size, 1, none⟩ = some (.int .i64 n) ∧ W.cell? ⟨w.heap.size, 2, none⟩ = some (.int .i64 sc) ∧ W.cell? ⟨w.heap.size, 3, none⟩ = some (.string s) ∧ W.cell? ⟨w.heap.size, 4, none⟩ = some (.slice A len cap) ∧ W.cell? ⟨w.heap.size + 1, 0, none⟩ = some (.int .i64 k2) ∧ W.cell? ⟨w.heap.size + 1, 1, none⟩ = some (.int .i64 m) ∧ W.cell? ⟨w.heap.size + 1, 2, none⟩ = some (.int .i64 sd) ∧ W.cell? ⟨w.heap.size + 1, 3, none⟩ = some (.string t) ∧ W.cell? ⟨w.heap.size + 1, 4, none⟩ = some (.slice A2 len2 cap2)) := fun W h =>
    ⟨h, (h.cell (p := ⟨w.heap.size, 0, none⟩) (by show w.heap.size < _; omega)).trans p0, (h.cell (p := ⟨w.heap.size, 1, none⟩) (by show w.heap.size < _; omega)).trans p1, (h.cell (p := ⟨w.heap.size, 2, none⟩) (by show w.heap.size < _; omega)).trans p2, (h.cell (p := ⟨w.heap.size, 3, none⟩) (by show w.heap.size < _; omega)).trans p3, (h.cell (p := ⟨w.heap.size, 4, none⟩) (by show w.heap.size < _; omega)).trans p4,
      (h.cell (p := ⟨w.heap.size + 1, 0, none⟩) (by show w.heap.size + 1 < _; omega)).trans q0, (h.cell (p := ⟨w.heap.size + 1, 1, none⟩) (by show w.heap.size + 1 < _; omega)).trans q1, (h.cell (p := ⟨w.heap.size + 1, 2, none⟩) (by show w.heap.size + 1 < _; omega)).trans q2, (h.cell (p := ⟨w.heap.size + 1, 3, none⟩) (by show w.heap.size + 1 < _; omega)).trans q3, (h.cell (p := ⟨w.heap.size + 1, 4, none⟩) (by show w.heap.size + 1 < _; omega)).trans q4⟩
  have HW0 := Lib.hid hW0
  have Hz0 := Lib.hid hz0
  have Hbw := Lib.hid hbw
  clear hW0 hz0 hbw
  obtain ⟨R, hR⟩ : ∃ R, orC (decC n sc m sd) (ordI sc sd) = R := ⟨_, rfl⟩
  rw [hR]
  have HR := Lib.hid hR
  clear hR
  have ho := Lib.hid (fun a b W => rorder_any a b W)
  have hre := HR.out
  unfold decC at hre
  by_cases hin : inSc sc = inSc sd
  · cases h1 : inSc sc
    · have h2 : inSc sd = false := by rw [← hin]; exact h1
      rw [h1, h2, ordI_self, show ∀ x, orC 0 x = x from fun x => if_pos rfl] at hre
      unfold mag at hre
      rw [h1, h2] at hre
      simp only [Bool.false_eq_true, if_false] at hre
      have Hre := Lib.hid hre
      have H1 := Lib.hid h1
      have H2 := Lib.hid h2
      clear hre h1 h2 hin
      go_enter Try.func22, Try.ntmps22
      go_wp2_with fail
      rw [HW0.out]
      go_quiet ((go_at_call 31; exact Calls.quiet_of_same (rwithin_q _ _)))
      rw [H1.out, H2.out]
      generalize hW2 : World.drewN _ _ = W2
      have hb2 : Below W0.heap.size W0 W2 := by rw [← hW2]; exact below_dN _ _
      clear hW2 p0 p1 p2 p3 p4 q0 q1 q2 q3 q4
      obtain ⟨_, p0, p1, p2, p3, p4, q0, q1, q2, q3, q4⟩ := hk.out W2 hb2
      by_cases hnm : n = m
      · subst hnm
        rw [ordI_self, show ∀ x, orC 0 x = x from fun x => if_pos rfl] at Hre
        go_wp2_with fail
        refine (ho.out _ _ _).mono ?_
        rintro e w' ⟨rfl, rfl⟩
        go_wp2
        go_ret
        exact ⟨by rw [Hre.out]; rfl, Hbw.out.trans (hb2.mono (by have := Hz0.out; omega))⟩
      · have hne : (n != m) = true := by simpa using hnm
        have e : ordI n m ≠ 0 := by unfold ordI; repeat' split <;> omega
        rw [show orC (ordI n m) (ordI sc sd) = ordI n m from if_neg e] at Hre
        clear hnm e
        go_wp2_with fail
        refine (ho.out _ _ _).mono ?_
        rintro e w' ⟨rfl, rfl⟩
        go_wp2
        go_ret
        exact ⟨by rw [Hre.out]; rfl, Hbw.out.trans (hb2.mono (by have := Hz0.out; omega))⟩
    · have h2 : inSc sd = true := by rw [← hin]; exact h1
      rw [h1, h2, ordI_self, show ∀ x, orC 0 x = x from fun x => if_pos rfl] at hre
      have hcm := cmpW_mag hn hm h1 h2
      rw [← hcm] at hre
      obtain ⟨s0, s12⟩ : 0 ≤ sc ∧ sc ≤ 12 := by unfold inSc at h1; simpa using h1
      obtain ⟨t0, t12⟩ : 0 ≤ sd ∧ sd ≤ 12 := by unfold inSc at h2; simpa using h2
      have cD := (can_tw sc hn).1
      have cE := (can_tw sd hm).1
      obtain ⟨D, hD⟩ : ∃ D, twS n sc = D := ⟨_, rfl⟩
      obtain ⟨E, hE⟩ : ∃ E, twS m sd = E := ⟨_, rfl⟩
      obtain ⟨dl, hdl⟩ : ∃ q, D.length = q := ⟨_, rfl⟩
      obtain ⟨el, hel⟩ : ∃ q, E.length = q := ⟨_, rfl⟩
      have Hdl := Lib.hid hdl
      have Hel := Lib.hid hel
      rw [hD, hE] at hre
      rw [hD] at cD
      rw [hE] at cE
      obtain ⟨C, hC⟩ : ∃ C, cmpW (decide (n < 0)) D (decide (m < 0)) E = C := ⟨_, rfl⟩
      have htx : Hid (∀ W, Below W0.heap.size W0 W → Calls Try.prog 33 #[.agg #[.int .i64 k, .int .i64 n, .int .i64 sc, .string s, .slice A len cap]] W fun e w' => ∃ (A : Option Addr) (cap : Nat), e = .returned (.agg #[.bool (decide (n < 0)), .slice A dl cap]) ∧ Below W0.heap.size W0 w' ∧ Below W.heap.size W w' ∧ CRow (.int .i64) w'.heap.size w' A cap D) := fun W h => by
        have := rtwelve_any (.node ⟨k, n, sc, s, A, cap⟩ (List.replicate len (.node ⟨0, 0, 0, s, none, 0⟩ []))) W hn s0 s12
        unfold WidePost at this
        simp only [VT.a_node, VT.l_node, hD, hdl, List.length_replicate] at this
        exact this.mono fun e w' ⟨A, cap, h1, h2, h3, _⟩ => ⟨A, cap, h1, h.trans (h2.mono h.size), h2, h3⟩
      have hty : Hid (∀ W, Below W0.heap.size W0 W → Calls Try.prog 33 #[.agg #[.int .i64 k2, .int .i64 m, .int .i64 sd, .string t, .slice A2 len2 cap2]] W fun e w' => ∃ (A : Option Addr) (cap : Nat), e = .returned (.agg #[.bool (decide (m < 0)), .slice A el cap]) ∧ Below W0.heap.size W0 w' ∧ Below W.heap.size W w' ∧ CRow (.int .i64) w'.heap.size w' A cap E) := fun W h => by
        have := rtwelve_any (.node ⟨k2, m, sd, t, A2, cap2⟩ (List.replicate len2 (.node ⟨0, 0, 0, s, none, 0⟩ []))) W hm t0 t12
        unfold WidePost at this
        simp only [VT.a_node, VT.l_node, hE, hel, List.length_replicate] at this
        exact this.mono fun e w' ⟨A, cap, h1, h2, h3, _⟩ => ⟨A, cap, h1, h.trans (h2.mono h.size), h2, h3⟩
      have hcw : Hid (∀ (W : World) (A A2 : Option Addr) (cap cap2 : Nat), Below W0.heap.size W0 W → CRow (.int .i64) W.heap.size W A cap D → CRow (.int .i64) W.heap.size W A2 cap2 E → Calls Try.prog 32 #[.agg #[.bool (decide (n < 0)), .slice A dl cap], .agg #[.bool (decide (m < 0)), .slice A2 el cap2]] W fun e w' => e = .returned (.int .i64 C) ∧ Below W0.heap.size W0 w') := fun W A A2 cap cap2 h h1 h2 => by
        have := rcompareWide_any (decide (n < 0)) (decide (m < 0)) A A2 cap cap2 dl el D E _ W h1 h2 (Nat.le_refl _) Hdl Hel cD cE
        rw [hC] at this
        exact this.mono fun e w' ⟨he, hb⟩ => ⟨he, h.trans (hb.mono h.size)⟩
      rw [hC] at hre
      have Hre := Lib.hid hre
      have H1 := Lib.hid h1
      have H2 := Lib.hid h2
      clear hD hE hdl hel hn hm hre h1 h2 hin hcm hC cD cE
      go_enter Try.func22, Try.ntmps22
      go_wp2_with fail
      rw [HW0.out]
      go_quiet ((go_at_call 31; exact Calls.quiet_of_same (rwithin_q _ _)))
      rw [H1.out, H2.out]
      generalize hW2 : World.drewN _ _ = W2
      have hb2 : Below W0.heap.size W0 W2 := by rw [← hW2]; exact below_dN _ _
      clear hW2 p0 p1 p2 p3 p4 q0 q1 q2 q3 q4
      obtain ⟨_, p0, p1, p2, p3, p4, q0, q1, q2, q3, q4⟩ := hk.out W2 hb2
      go_wp2_with fail
      go_region_held3 (fun W => Below W0.heap.size W0 W ∧ W.cell? ⟨w.heap.size, 0, none⟩ = some (.int .i64 k) ∧ W.cell? ⟨w.heap.size, 1, none⟩ = some (.int .i64 n) ∧ W.cell? ⟨w.heap.size, 2, none⟩ = some (.int .i64 sc) ∧ W.cell? ⟨w.heap.size, 3, none⟩ = some (.string s) ∧ W.cell? ⟨w.heap.size, 4, none⟩ = some (.slice A len cap) ∧ W.cell? ⟨w.heap.size + 1, 0, none⟩ = some (.int .i64 k2) ∧ W.cell? ⟨w.heap.size + 1, 1, none⟩ = some (.int .i64 m) ∧ W.cell? ⟨w.heap.size + 1, 2, none⟩ = some (.int .i64 sd) ∧ W.cell? ⟨w.heap.size + 1, 3, none⟩ = some (.string t) ∧ W.cell? ⟨w.heap.size + 1, 4, none⟩ = some (.slice A2 len2 cap2))
        (first | exact hk.out _ hb2 | exact hk.out _ (Below.drew hb2) | exact hk.out _ (by assumption))
        (first
          | (go_at_call_of 33 (Value.agg #[.int .i64 k, .int .i64 n, .int .i64 sc, .string s, .slice A len cap]); (with_reducible refine (htx.out _ ?_).mono ?_); (first | assumption | (apply And.left; assumption)); rintro e wx ⟨Ax, capx, rfl, hbx, hlx, hrx⟩)
          | (go_at_call_of 33 (Value.agg #[.int .i64 k2, .int .i64 m, .int .i64 sd, .string t, .slice A2 len2 cap2]); (with_reducible refine (hty.out _ ?_).mono ?_); (first | assumption | (apply And.left; assumption)); rintro e wy ⟨Ay, capy, rfl, hby, hly, hry⟩)
          | (go_at_call 32; (first | (with_reducible refine (hcw.out wy Ax Ay capx capy hby ((hrx.keep (Same.of_below hly)).more hly.size) hry).mono ?_) | (with_reducible refine (hcw.out wx Ax Ay capx capy hbx hrx ((hry.keep (Same.of_below hlx)).more hlx.size)).mono ?_)); rintro e wz ⟨rfl, hbz⟩))
      all_goals
        clear p0 p1 p2 p3 p4 q0 q1 q2 q3 q4
        obtain ⟨_, p0, p1, p2, p3, p4, q0, q1, q2, q3, q4⟩ := hk.out wz hbz
        by_cases hc : C = 0
        · have hrr := Hre.out
          rw [hc, show ∀ x, orC 0 x = x from fun x => if_pos rfl] at hrr
          have Hrr := Lib.hid hrr
          subst hc
          clear hrr
          go_wp2_with fail
          refine (ho.out _ _ _).mono ?_
          rintro e w' ⟨rfl, rfl⟩
          go_wp2
          go_ret
          exact ⟨by rw [Hrr.out]; rfl, Hbw.out.trans (hbz.mono (by have := Hz0.out; omega))⟩
        · have hne : (C != 0) = true := by simpa using hc
          have hrr := Hre.out
          rw [show orC C (ordI sc sd) = C from if_neg hc] at hrr
          have Hrr := Lib.hid hrr
          clear hrr hc
          go_wp2
          go_ret
          exact ⟨by rw [Hrr.out]; rfl, Hbw.out.trans (hbz.mono (by have := Hz0.out; omega))⟩
  · cases h1 : inSc sc
    · have h2 : inSc sd = true := by cases h : inSc sd; exact absurd (h1.trans h.symm) hin; rfl
      rw [h1, h2] at hre
      have hre2 : 1 = R := hre
      have Hre := Lib.hid hre2
      have H1 := Lib.hid h1
      have H2 := Lib.hid h2
      clear hre h1 h2 hin hre2
      go_enter Try.func22, Try.ntmps22
      go_wp2_with fail
      rw [HW0.out]
      go_quiet ((go_at_call 31; exact Calls.quiet_of_same (rwithin_q _ _)))
      rw [H1.out, H2.out]
      go_wp2
      go_ret
      exact ⟨by rw [← Hre.out]; rfl, Hbw.out.trans ((below_dN _ _).mono (by have := Hz0.out; omega))⟩
    · have h2 : inSc sd = false := by cases h : inSc sd; rfl; exact absurd (h1.trans h.symm) hin
      rw [h1, h2] at hre
      have hre2 : -1 = R := hre
      have Hre := Lib.hid hre2
      have H1 := Lib.hid h1
      have H2 := Lib.hid h2
      clear hre h1 h2 hin hre2
      go_enter Try.func22, Try.ntmps22
      go_wp2_with fail
      rw [HW0.out]
      go_quiet ((go_at_call 31; exact Calls.quiet_of_same (rwithin_q _ _)))
      rw [H1.out, H2.out]
      go_wp2
      go_ret
      exact ⟨by rw [← Hre.out]; rfl, Hbw.out.trans ((below_dN _ _).mono (by have := Hz0.out; omega))⟩
end Go.Proofs.Ytcdaipkkddgbeaa
