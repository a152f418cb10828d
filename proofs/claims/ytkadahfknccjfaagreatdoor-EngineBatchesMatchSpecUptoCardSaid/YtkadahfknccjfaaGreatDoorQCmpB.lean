/-
  The reference of package value: Compare at values that are the same but for their place.
  The reference of package value: Compare at values that are the same but for their place: the walk.
-/
import Derived.Test.YtkadahfknccjfaaGreatDoorQStill
import Derived.Test.YtkadahfknccjfaaGreatDoorQWideD
namespace Go.Proofs.YtkadahfknccjfaaGreatDoor
open Go.RowKit
set_option maxRecDepth 100000 in
set_option maxHeartbeats 4000000 in
theorem rdecimals_same (k n sc : Int) (s : ByteArray) (A A2 : Option Addr) (len cap cap2 : Nat) (w : World) (hn : I64 n) :
    Calls Tryz.prog 64 #[.agg #[.int .i64 k, .int .i64 n, .int .i64 sc, .string s, .slice A len cap], .agg #[.int .i64 k, .int .i64 n, .int .i64 sc, .string s, .slice A2 len cap2]] w fun e w' => e = .returned (.int .i64 0) ∧ Below w.heap.size w w' := by
  obtain ⟨W0, hW0⟩ : ∃ W0, (w.alloc (.cells #[.int .i64 k, .int .i64 n, .int .i64 sc, .string s, .slice A len cap] 61)).alloc (.cells #[.int .i64 k, .int .i64 n, .int .i64 sc, .string s, .slice A2 len cap2] 61) = W0 := ⟨_, rfl⟩
  have hbw : Below w.heap.size w W0 := by rw [← hW0]; exact bel2 _ _ _
  have hz0 : W0.heap.size = w.heap.size + 2 := by rw [← hW0]; simp
  have p0 : W0.cell? ⟨w.heap.size, 0, none⟩ = some (.int .i64 k) := by rw [← hW0]; simp
  have p1 : W0.cell? ⟨w.heap.size, 1, none⟩ = some (.int .i64 n) := by rw [← hW0]; simp
  have p2 : W0.cell? ⟨w.heap.size, 2, none⟩ = some (.int .i64 sc) := by rw [← hW0]; simp
  have p3 : W0.cell? ⟨w.heap.size, 3, none⟩ = some (.string s) := by rw [← hW0]; simp
  have p4 : W0.cell? ⟨w.heap.size, 4, none⟩ = some (.slice A len cap) := by rw [← hW0]; simp
  have q0 : W0.cell? ⟨w.heap.size + 1, 0, none⟩ = some (.int .i64 k) := by rw [← hW0]; simp
  have q1 : W0.cell? ⟨w.heap.size + 1, 1, none⟩ = some (.int .i64 n) := by rw [← hW0]; simp
  have q2 : W0.cell? ⟨w.heap.size + 1, 2, none⟩ = some (.int .i64 sc) := by rw [← hW0]; simp
  have q3 : W0.cell? ⟨w.heap.size + 1, 3, none⟩ = some (.string s) := by rw [← hW0]; simp
  have q4 : W0.cell? ⟨w.heap.size + 1, 4, none⟩ = some (.slice A2 len cap2) := by rw [← hW0]; simp
  have hk : Hid (∀ W, Below W0.heap.size W0 W → Below W0.heap.size W0 W ∧ W.cell? ⟨w.heap.size, 0, none⟩ = some (.int .i64 k) ∧ W.cell? ⟨w.heap.size, 1, none⟩ = some (.int .i64 n) ∧ W.cell? ⟨w.heap.size, 2, none⟩ = some (.int .i64 sc) ∧ W.cell? ⟨w.heap.size, 3, none⟩ = some (.string s) ∧ W.cell? ⟨w.heap.size, 4, none⟩ = some (.slice A len cap) ∧ W.cell? ⟨w.heap.size + 1, 0, none⟩ = some (.int .i64 k) ∧ W.cell? ⟨w.heap.size + 1, 1, none⟩ = some (.int .i64 n) ∧ W.cell? ⟨w.heap.size + 1, 2, none⟩ = some (.int .i64 sc) ∧ W.cell? ⟨w.heap.size + 1, 3, none⟩ = some (.string s) ∧ W.cell? ⟨w.heap.size + 1, 4, none⟩ = some (.slice A2 len cap2)) := fun W h => ⟨h, (h.cell (p := ⟨w.heap.size, 0, none⟩) (by show w.heap.size < _; omega)).trans p0, (h.cell (p := ⟨w.heap.size, 1, none⟩) (by show w.heap.size < _; omega)).trans p1, (h.cell (p := ⟨w.heap.size, 2, none⟩) (by show w.heap.size < _; omega)).trans p2, (h.cell (p := ⟨w.heap.size, 3, none⟩) (by show w.heap.size < _; omega)).trans p3, (h.cell (p := ⟨w.heap.size, 4, none⟩) (by show w.heap.size < _; omega)).trans p4, (h.cell (p := ⟨w.heap.size + 1, 0, none⟩) (by show w.heap.size + 1 < _; omega)).trans q0, (h.cell (p := ⟨w.heap.size + 1, 1, none⟩) (by show w.heap.size + 1 < _; omega)).trans q1, (h.cell (p := ⟨w.heap.size + 1, 2, none⟩) (by show w.heap.size + 1 < _; omega)).trans q2, (h.cell (p := ⟨w.heap.size + 1, 3, none⟩) (by show w.heap.size + 1 < _; omega)).trans q3, (h.cell (p := ⟨w.heap.size + 1, 4, none⟩) (by show w.heap.size + 1 < _; omega)).trans q4⟩
  have hwi := Lib.hid (fun W => (rwithin_any sc 0 12 W).mono (fun e w' (h : _ ∧ _) => (⟨h.1, h.2.symm⟩ : e = .returned (.bool (withinB sc 0 12)) ∧ w' = W)))
  have ho := Lib.hid (fun W => rorder_same sc W)
  have HW0 := Lib.hid hW0
  have Hz0 := Lib.hid hz0
  clear hW0 hz0
  cases hin : withinB sc 0 12
  · have Hin := Lib.hid hin
    clear hin
    go_enter Tryz.func64, Tryz.ntmps64
    go_wp2_with fail
    rw [HW0.out]
    go_quiet ((go_at_call 84; exact Calls.quiet_of_same (hwi.out _)))
    rw [Hin.out]
    generalize hW2 : World.drewN _ _ = W2
    have hb2 : Below W0.heap.size W0 W2 := by rw [← hW2]; exact below_drewNg _ _
    clear hW2 p0 p1 p2 p3 p4 q0 q1 q2 q3 q4
    obtain ⟨_, p0, p1, p2, p3, p4, q0, q1, q2, q3, q4⟩ := hk.out W2 hb2
    go_wp2_with fail
    refine (ho.out _).mono ?_
    rintro e w' ⟨rfl, rfl⟩
    go_wp2
    go_ret
    exact ⟨rfl, hbw.trans (hb2.mono (by have := Hz0.out; omega))⟩
  · have Hin := Lib.hid hin
    simp only [withinB, Bool.and_eq_true, decide_eq_true_eq] at hin
    obtain ⟨s0, s12⟩ := hin
    obtain ⟨D, hD⟩ : ∃ D, twS n sc = D := ⟨_, rfl⟩
    obtain ⟨dl, hdl⟩ : ∃ q, D.length = q := ⟨_, rfl⟩
    have Hdl := Lib.hid hdl
    have htx : Hid (∀ W, Below W0.heap.size W0 W → Calls Tryz.prog 86 #[.agg #[.int .i64 k, .int .i64 n, .int .i64 sc, .string s, .slice A len cap]] W fun e w' => ∃ (A : Option Addr) (cap : Nat), e = .returned (.agg #[.bool (decide (n < 0)), .slice A dl cap]) ∧ Below W0.heap.size W0 w' ∧ Below W.heap.size W w' ∧ CRow (.int .i64) w'.heap.size w' A cap D) := fun W h => by
      have := rtwelve_any (.node ⟨k, n, sc, s, A, cap⟩ (List.replicate len (.node ⟨0, 0, 0, s, none, 0⟩ []))) W hn s0 s12
      unfold WidePost at this
      simp only [VT.a_node, VT.l_node, hD, hdl, List.length_replicate] at this
      exact this.mono fun e w' ⟨A, cap, h1, h2, h3, _⟩ => ⟨A, cap, h1, h.trans (h2.mono h.size), h2, h3⟩
    have hty : Hid (∀ W, Below W0.heap.size W0 W → Calls Tryz.prog 86 #[.agg #[.int .i64 k, .int .i64 n, .int .i64 sc, .string s, .slice A2 len cap2]] W fun e w' => ∃ (A : Option Addr) (cap : Nat), e = .returned (.agg #[.bool (decide (n < 0)), .slice A dl cap]) ∧ Below W0.heap.size W0 w' ∧ Below W.heap.size W w' ∧ CRow (.int .i64) w'.heap.size w' A cap D) := fun W h => by
      have := rtwelve_any (.node ⟨k, n, sc, s, A2, cap2⟩ (List.replicate len (.node ⟨0, 0, 0, s, none, 0⟩ []))) W hn s0 s12
      unfold WidePost at this
      simp only [VT.a_node, VT.l_node, hD, hdl, List.length_replicate] at this
      exact this.mono fun e w' ⟨A, cap, h1, h2, h3, _⟩ => ⟨A, cap, h1, h.trans (h2.mono h.size), h2, h3⟩
    have hcw : Hid (∀ (W : World) (A A2 : Option Addr) (cap cap2 : Nat), Below W0.heap.size W0 W → CRow (.int .i64) W.heap.size W A cap D → CRow (.int .i64) W.heap.size W A2 cap2 D → Calls Tryz.prog 85 #[.agg #[.bool (decide (n < 0)), .slice A dl cap], .agg #[.bool (decide (n < 0)), .slice A2 dl cap2]] W fun e w' => e = .returned (.int .i64 0) ∧ Below W0.heap.size W0 w') := fun W A A2 cap cap2 h h1 h2 =>
      (rcompareWide_same _ A A2 cap cap2 dl D _ W h1 h2 (Nat.le_refl _) Hdl).mono fun e w' ⟨he, hb⟩ => ⟨he, h.trans (hb.mono h.size)⟩
    clear hD hdl hn
    go_enter Tryz.func64, Tryz.ntmps64
    go_wp2_with fail
    rw [HW0.out]
    go_quiet ((go_at_call 84; exact Calls.quiet_of_same (hwi.out _)))
    rw [Hin.out]
    generalize hW2 : World.drewN _ _ = W2
    have hb2 : Below W0.heap.size W0 W2 := by rw [← hW2]; exact below_drewNg _ _
    clear hW2 p0 p1 p2 p3 p4 q0 q1 q2 q3 q4
    obtain ⟨_, p0, p1, p2, p3, p4, q0, q1, q2, q3, q4⟩ := hk.out W2 hb2
    go_wp2_with fail
    go_region_held3 (fun W => Below W0.heap.size W0 W ∧ W.cell? ⟨w.heap.size, 0, none⟩ = some (.int .i64 k) ∧ W.cell? ⟨w.heap.size, 1, none⟩ = some (.int .i64 n) ∧ W.cell? ⟨w.heap.size, 2, none⟩ = some (.int .i64 sc) ∧ W.cell? ⟨w.heap.size, 3, none⟩ = some (.string s) ∧ W.cell? ⟨w.heap.size, 4, none⟩ = some (.slice A len cap) ∧ W.cell? ⟨w.heap.size + 1, 0, none⟩ = some (.int .i64 k) ∧ W.cell? ⟨w.heap.size + 1, 1, none⟩ = some (.int .i64 n) ∧ W.cell? ⟨w.heap.size + 1, 2, none⟩ = some (.int .i64 sc) ∧ W.cell? ⟨w.heap.size + 1, 3, none⟩ = some (.string s) ∧ W.cell? ⟨w.heap.size + 1, 4, none⟩ = some (.slice A2 len cap2))
      (first | exact hk.out _ hb2 | exact hk.out _ (Below.drew hb2) | exact hk.out _ (by assumption))
      (first
        | (go_at_call_of 86 (Value.agg #[.int .i64 k, .int .i64 n, .int .i64 sc, .string s, .slice A len cap]); (with_reducible refine (htx.out _ ?_).mono ?_); (first | assumption | (apply And.left; assumption)); rintro e wx ⟨Ax, capx, rfl, hbx, hlx, hrx⟩)
        | (go_at_call_of 86 (Value.agg #[.int .i64 k, .int .i64 n, .int .i64 sc, .string s, .slice A2 len cap2]); (with_reducible refine (hty.out _ ?_).mono ?_); (first | assumption | (apply And.left; assumption)); rintro e wy ⟨Ay, capy, rfl, hby, hly, hry⟩)
        | (go_at_call 85; (first | (with_reducible refine (hcw.out wy Ax Ay capx capy hby ((hrx.keep (Same.of_below hly)).more hly.size) hry).mono ?_) | (with_reducible refine (hcw.out wx Ax Ay capx capy hbx hrx ((hry.keep (Same.of_below hlx)).more hlx.size)).mono ?_)); rintro e wz ⟨rfl, hbz⟩))
    all_goals
      clear p0 p1 p2 p3 p4 q0 q1 q2 q3 q4
      obtain ⟨_, p0, p1, p2, p3, p4, q0, q1, q2, q3, q4⟩ := hk.out wz hbz
      go_wp2_with fail
      refine (ho.out _).mono ?_
      rintro e w' ⟨rfl, rfl⟩
      go_wp2
      go_ret
      exact ⟨rfl, hbw.trans (hbz.mono (by have := Hz0.out; omega))⟩
end Go.Proofs.YtkadahfknccjfaaGreatDoor
namespace Go.Proofs.YtkadahfknccjfaaGreatDoor
open Go.RowKit
set_option maxRecDepth 100000 in
set_option maxHeartbeats 4000000 in
theorem rCompare_sm : ∀ (x y : VT) (B : Nat) (w : World), VT.In B w x → VT.In B w y → B ≤ w.heap.size → VT.Sm x y →
    Calls Tryz.prog 45 #[.agg #[.int .i64 x.a.k, .int .i64 x.a.n, .int .i64 x.a.sc, .string x.a.s, .slice x.a.A x.l.length x.a.cap], .agg #[.int .i64 y.a.k, .int .i64 y.a.n, .int .i64 y.a.sc, .string y.a.s, .slice y.a.A y.l.length y.a.cap]] w fun e w' => e = .returned (.int .i64 0) ∧ Below w.heap.size w w' := by
  refine VT.ind fun a l ih u B w hin hinu hB hsm => ?_
  obtain ⟨b, m⟩ := u
  obtain ⟨k, n, sc, s, A, cap⟩ := a
  obtain ⟨k2, n2, sc2, s2, A2, cap2⟩ := b
  obtain ⟨_, hn, _, hs, hr, hl⟩ := hin.parts
  obtain ⟨_, _, _, _, hr2, hl2⟩ := hinu.parts
  obtain ⟨e1, e2, e3, e4, e5, e6⟩ := hsm.inv
  simp only [VT.a_node, VT.l_node] at hr hr2 e1 e2 e3 e4 hn hs ⊢
  subst e1 e2 e3 e4
  obtain ⟨len, hlen⟩ : ∃ len, l.length = len := ⟨_, rfl⟩
  have hlen2 : m.length = len := by rw [← e5]; exact hlen
  rw [hlen, hlen2]
  have hll : len ≤ 9223372036854775807 := by rw [← hlen]; exact Nat.le_trans hr.1 hr.2.1
  have hlen' := Lib.hid hlen
  have hlen2' := Lib.hid hlen2
  obtain ⟨W0, hW0⟩ : ∃ W0, (w.alloc (.cells #[.int .i64 k, .int .i64 n, .int .i64 sc, .string s, .slice A len cap] 61)).alloc (.cells #[.int .i64 k, .int .i64 n, .int .i64 sc, .string s, .slice A2 len cap2] 61) = W0 := ⟨_, rfl⟩
  have hbw : Below w.heap.size w W0 := by rw [← hW0]; exact bel2 _ _ _
  have hz0 : W0.heap.size = w.heap.size + 2 := by rw [← hW0]; simp
  have p0 : W0.cell? ⟨w.heap.size, 0, none⟩ = some (.int .i64 k) := by rw [← hW0]; simp
  have p1 : W0.cell? ⟨w.heap.size, 1, none⟩ = some (.int .i64 n) := by rw [← hW0]; simp
  have p2 : W0.cell? ⟨w.heap.size, 2, none⟩ = some (.int .i64 sc) := by rw [← hW0]; simp
  have p3 : W0.cell? ⟨w.heap.size, 3, none⟩ = some (.string s) := by rw [← hW0]; simp
  have p4 : W0.cell? ⟨w.heap.size, 4, none⟩ = some (.slice A len cap) := by rw [← hW0]; simp
  have q0 : W0.cell? ⟨w.heap.size + 1, 0, none⟩ = some (.int .i64 k) := by rw [← hW0]; simp
  have q1 : W0.cell? ⟨w.heap.size + 1, 1, none⟩ = some (.int .i64 n) := by rw [← hW0]; simp
  have q2 : W0.cell? ⟨w.heap.size + 1, 2, none⟩ = some (.int .i64 sc) := by rw [← hW0]; simp
  have q3 : W0.cell? ⟨w.heap.size + 1, 3, none⟩ = some (.string s) := by rw [← hW0]; simp
  have q4 : W0.cell? ⟨w.heap.size + 1, 4, none⟩ = some (.slice A2 len cap2) := by rw [← hW0]; simp
  have hk : Hid (∀ W, Below W0.heap.size W0 W → Below W0.heap.size W0 W ∧ W.cell? ⟨w.heap.size, 0, none⟩ = some (.int .i64 k) ∧ W.cell? ⟨w.heap.size, 1, none⟩ = some (.int .i64 n) ∧ W.cell? ⟨w.heap.size, 2, none⟩ = some (.int .i64 sc) ∧ W.cell? ⟨w.heap.size, 3, none⟩ = some (.string s) ∧ W.cell? ⟨w.heap.size, 4, none⟩ = some (.slice A len cap) ∧ W.cell? ⟨w.heap.size + 1, 0, none⟩ = some (.int .i64 k) ∧ W.cell? ⟨w.heap.size + 1, 1, none⟩ = some (.int .i64 n) ∧ W.cell? ⟨w.heap.size + 1, 2, none⟩ = some (.int .i64 sc) ∧ W.cell? ⟨w.heap.size + 1, 3, none⟩ = some (.string s) ∧ W.cell? ⟨w.heap.size + 1, 4, none⟩ = some (.slice A2 len cap2)) := fun W h => ⟨h, (h.cell (p := ⟨w.heap.size, 0, none⟩) (by show w.heap.size < _; omega)).trans p0, (h.cell (p := ⟨w.heap.size, 1, none⟩) (by show w.heap.size < _; omega)).trans p1, (h.cell (p := ⟨w.heap.size, 2, none⟩) (by show w.heap.size < _; omega)).trans p2, (h.cell (p := ⟨w.heap.size, 3, none⟩) (by show w.heap.size < _; omega)).trans p3, (h.cell (p := ⟨w.heap.size, 4, none⟩) (by show w.heap.size < _; omega)).trans p4, (h.cell (p := ⟨w.heap.size + 1, 0, none⟩) (by show w.heap.size + 1 < _; omega)).trans q0, (h.cell (p := ⟨w.heap.size + 1, 1, none⟩) (by show w.heap.size + 1 < _; omega)).trans q1, (h.cell (p := ⟨w.heap.size + 1, 2, none⟩) (by show w.heap.size + 1 < _; omega)).trans q2, (h.cell (p := ⟨w.heap.size + 1, 3, none⟩) (by show w.heap.size + 1 < _; omega)).trans q3, (h.cell (p := ⟨w.heap.size + 1, 4, none⟩) (by show w.heap.size + 1 < _; omega)).trans q4⟩
  have HW0 := Lib.hid hW0
  have Hz0 := Lib.hid hz0
  have Hr := Lib.hid hr
  have Hr2 := Lib.hid hr2
  have Hl := Lib.hid hl
  have Hl2 := Lib.hid hl2
  have Hih := Lib.hid ih
  have Hx := Lib.hid e6
  clear hW0 hz0 hlen hlen2 hr hr2 hl hl2 ih e6 e5 hsm hin hinu
  by_cases h0 : k = 0
  · subst h0
    go_enter Tryz.func45, Tryz.ntmps45
    go_wp2
    go_ret
    exact ⟨rfl, bel2 _ _ _⟩
  have e0 : (k == 0) = false := by simpa using h0
  by_cases h3 : k = 3
  · subst h3
    have hd := Lib.hid (rdecimals_same 3 n sc s A A2 len cap cap2 W0 hn)
    clear e0 h0
    go_enter Tryz.func45, Tryz.ntmps45
    go_wp2_with fail
    rw [HW0.out]
    refine hd.out.mono ?_
    rintro e wd ⟨rfl, hbd⟩
    clear p0 p1 p2 p3 p4 q0 q1 q2 q3 q4
    obtain ⟨_, p0, p1, p2, p3, p4, q0, q1, q2, q3, q4⟩ := hk.out wd hbd
    have htt := Lib.hid (fun W => rtexts_same s W hs)
    go_wp2_with fail
    refine (htt.out _).mono ?_
    rintro e wt ⟨rfl, hbt⟩
    have hbt0 : Below W0.heap.size W0 wt := hbd.trans (hbt.mono hbd.size)
    clear p0 p1 p2 p3 p4 q0 q1 q2 q3 q4
    obtain ⟨_, p0, p1, p2, p3, p4, q0, q1, q2, q3, q4⟩ := hk.out wt hbt0
    go_wp2
    go_loopw [7] (fun i wr => ∃ j : Nat, j ≤ len ∧ i = .int .i64 j ∧ Below W0.heap.size W0 wr) (fun i _ => len - (intOf i).toNat)
    case atStart => exact ⟨0, Nat.zero_le _, rfl, hbt0⟩
    case round =>
      obtain ⟨j, hj, rfl, hbr⟩ := hrel
      clear p0 p1 p2 p3 p4 q0 q1 q2 q3 q4
      obtain ⟨_, p0, p1, p2, p3, p4, q0, q1, q2, q3, q4⟩ := hk.out wr hbr
      have hbwr : Below w.heap.size w wr := hbw.trans (hbr.mono (by have := Hz0.out; omega))
      by_cases hlt : j < len
      · have hSr : Same B w wr := Same.mono (Same.of_below hbwr) hB
        obtain ⟨x, ad, hx, rfl, hb, d0, d1, d2, d3, d4⟩ := (Hr.out.keep hSr).get (show j < l.length by rw [hlen'.out]; exact hlt)
        obtain ⟨y, ad2, hy, rfl, hb2, c0, c1, c2, c3, c4⟩ := (Hr2.out.keep hSr).get (show j < m.length by rw [hlen2'.out]; exact hlt)
        have hic := Lib.hid (fun W hS hW => Hih.out x (mem_of_get? hx) y B W ((Hl.out x (mem_of_get? hx)).keep hS) ((Hl2.out y (mem_of_get? hy)).keep hS) hW (Hx.out j x y hx hy))
        clear hx hy
        go_wp2_with fail
        (generalize hA0 : Act.mk _ _ = A0; refine wp_region_still_tail 10 (by kernel_rfl) (by kernel_rfl) ?_; simp only [List.take_succ_cons, List.take_zero, List.drop_succ_cons, List.drop_zero]; (iterate 10 (refine st_want (by rw [← hA0]; rfl) (fun K hK => ?_); subst hA0; go_simp; generalize hA0 : Act.mk _ _ = A0; refine hK A0 ?_; clear hK K)); refine wpStill_nil ?_; subst hA0)
        change wpList _ _ _ _ _ wr.drew
        go_wp2_with fail
        refine (hic.out wr.drew hSr (Nat.le_trans hB hbwr.size)).mono ?_
        rintro e w' ⟨rfl, hb3⟩
        go_wp2
        go_roundw
        case rel => exact ⟨j + 1, by omega, by go_num, hbr.drew.trans (hb3.mono hbr.size)⟩
        case measure => simp [intOf]; omega
      · obtain rfl : j = len := by omega
        have ho2 := Lib.hid (fun W => rorder_same (j : Int) W)
        go_wp2_with fail
        refine (ho2.out _).mono ?_
        rintro e w' ⟨rfl, rfl⟩
        go_wp2
        go_ret
        exact ⟨rfl, hbwr⟩
  · have e3 : (k == 3) = false := by simpa using h3
    clear h0 h3
    go_enter Tryz.func45, Tryz.ntmps45
    go_wp2_with fail
    rw [HW0.out]
    have hbd : Below W0.heap.size W0 W0 := Below.refl _ _
    have htt := Lib.hid (fun W => rtexts_same s W hs)
    refine (htt.out _).mono ?_
    rintro e wt ⟨rfl, hbt⟩
    have hbt0 : Below W0.heap.size W0 wt := hbd.trans (hbt.mono hbd.size)
    clear p0 p1 p2 p3 p4 q0 q1 q2 q3 q4
    obtain ⟨_, p0, p1, p2, p3, p4, q0, q1, q2, q3, q4⟩ := hk.out wt hbt0
    go_wp2
    go_loopw [7] (fun i wr => ∃ j : Nat, j ≤ len ∧ i = .int .i64 j ∧ Below W0.heap.size W0 wr) (fun i _ => len - (intOf i).toNat)
    case atStart => exact ⟨0, Nat.zero_le _, rfl, hbt0⟩
    case round =>
      obtain ⟨j, hj, rfl, hbr⟩ := hrel
      clear p0 p1 p2 p3 p4 q0 q1 q2 q3 q4
      obtain ⟨_, p0, p1, p2, p3, p4, q0, q1, q2, q3, q4⟩ := hk.out wr hbr
      have hbwr : Below w.heap.size w wr := hbw.trans (hbr.mono (by have := Hz0.out; omega))
      by_cases hlt : j < len
      · have hSr : Same B w wr := Same.mono (Same.of_below hbwr) hB
        obtain ⟨x, ad, hx, rfl, hb, d0, d1, d2, d3, d4⟩ := (Hr.out.keep hSr).get (show j < l.length by rw [hlen'.out]; exact hlt)
        obtain ⟨y, ad2, hy, rfl, hb2, c0, c1, c2, c3, c4⟩ := (Hr2.out.keep hSr).get (show j < m.length by rw [hlen2'.out]; exact hlt)
        have hic := Lib.hid (fun W hS hW => Hih.out x (mem_of_get? hx) y B W ((Hl.out x (mem_of_get? hx)).keep hS) ((Hl2.out y (mem_of_get? hy)).keep hS) hW (Hx.out j x y hx hy))
        clear hx hy
        go_wp2_with fail
        (generalize hA0 : Act.mk _ _ = A0; refine wp_region_still_tail 10 (by kernel_rfl) (by kernel_rfl) ?_; simp only [List.take_succ_cons, List.take_zero, List.drop_succ_cons, List.drop_zero]; (iterate 10 (refine st_want (by rw [← hA0]; rfl) (fun K hK => ?_); subst hA0; go_simp; generalize hA0 : Act.mk _ _ = A0; refine hK A0 ?_; clear hK K)); refine wpStill_nil ?_; subst hA0)
        change wpList _ _ _ _ _ wr.drew
        go_wp2_with fail
        refine (hic.out wr.drew hSr (Nat.le_trans hB hbwr.size)).mono ?_
        rintro e w' ⟨rfl, hb3⟩
        go_wp2
        go_roundw
        case rel => exact ⟨j + 1, by omega, by go_num, hbr.drew.trans (hb3.mono hbr.size)⟩
        case measure => simp [intOf]; omega
      · obtain rfl : j = len := by omega
        have ho2 := Lib.hid (fun W => rorder_same (j : Int) W)
        go_wp2_with fail
        refine (ho2.out _).mono ?_
        rintro e w' ⟨rfl, rfl⟩
        go_wp2
        go_ret
        exact ⟨rfl, hbwr⟩
end Go.Proofs.YtkadahfknccjfaaGreatDoor
