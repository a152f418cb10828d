/-
  The values of a vector, by package engine.
  The values of a vector, by the reference of package engine.
-/
import Derived.Test.YtcpbbagppkcilaaDoorQRefK
import Derived.Test.YtcpbbagppkcilaaDoorQVecL
import Derived.Test.YtcpbbagppkcilaaDoorQSml
namespace Go.Proofs.YtcpbbagppkcilaaDoor
open Go.RowKit
/-- The values of a vector that is right. -/
def valsL (v : VecT) (n : Int) : List VT := if vecS v n = 0 then (List.range n.toNat).map (atV v) else []
theorem ckFrom_ok {v : VecT} {size : Nat} : ∀ f, f ≤ size → ckFrom v size f = 0 → ∀ i, size - f ≤ i → i < size → checkS v.t (atV v i) = 0
  | 0, _, _, i, h1, h2 => absurd h1 (by omega)
  | f + 1, hf, h, i, h1, h2 => by
    rw [ckFrom] at h
    by_cases hc : checkS v.t (atV v (size - (f + 1))) ≠ 0
    · rw [if_pos hc] at h; exact absurd h hc
    · rw [if_neg hc] at h
      by_cases e : i = size - (f + 1)
      · rw [e]; exact Classical.not_not.1 hc
      · exact ckFrom_ok f (by omega) h i (by omega) h2
theorem vecS_ok {v : VecT} {n : Int} (h : vecS v n = 0) : plainS v.t = 0 ∧ ∃ size : Nat, n = (size : Int) ∧ size ≤ 1024 ∧ formS v size = true ∧ ∀ i, i < size → checkS v.t (atV v i) = 0 := by
  unfold vecS at h
  by_cases h1 : plainS v.t ≠ 0
  · rw [if_pos h1] at h; exact absurd h h1
  rw [if_neg h1] at h
  by_cases h2 : n < 0 ∨ 1024 < n
  · rw [if_pos h2] at h; omega
  rw [if_neg h2] at h
  by_cases h3 : formS v n.toNat = false
  · rw [if_pos h3] at h; omega
  rw [if_neg h3] at h
  exact ⟨Classical.not_not.1 h1, n.toNat, by omega, by omega, by simpa using h3, fun i hi => ckFrom_ok n.toNat (Nat.le_refl _) h i (by omega) hi⟩
/-- What Values comes to: values in memory, the same as those of the vector. -/
def ValsPost (v : VecT) (n : Int) (w : World) (e : Ending) (w' : World) : Prop :=
  ∃ (A : Option Addr) (cap : Nat) (u : List VT), e = .returned (.tuple #[.slice A u.length cap, .int .i64 (vecS v n)]) ∧ Below w.heap.size w w' ∧ VT.Rows w'.heap.size w' A cap u ∧ SmL (valsL v n) u
set_option maxRecDepth 100000 in
set_option maxHeartbeats 4000000 in
theorem eValues_any (v : VecT) (n : Int) (B : Nat) (w : World) (hv : VecT.In B w v) (hT : Tabs B w) (hB : B ≤ w.heap.size) :
    Calls Tryd.prog 8 #[.agg #[.int .i64 v.t.a.k, .int .i64 v.t.a.sc, .slice v.t.a.A v.t.l.length v.t.a.cap, .slice v.NA v.ns.length v.ncap, .slice v.IA v.is.length v.icap, .slice v.SA v.ss.length v.scap, .slice v.VA v.vs.length v.vcap], .int .i64 n] w (ValsPost v n w) := by
  obtain ⟨W0, hW0⟩ : ∃ W0, w.alloc (.cells #[.int .i64 v.t.a.k, .int .i64 v.t.a.sc, .slice v.t.a.A v.t.l.length v.t.a.cap, .slice v.NA v.ns.length v.ncap, .slice v.IA v.is.length v.icap, .slice v.SA v.ss.length v.scap, .slice v.VA v.vs.length v.vcap] 30) = W0 := ⟨_, rfl⟩
  have hbw : Below w.heap.size w W0 := by rw [← hW0]; exact bel1 _ _
  have hz0 : W0.heap.size = w.heap.size + 1 := by rw [← hW0]; simp
  have P0 : W0.heap[w.heap.size]? = some (.cells #[.int .i64 v.t.a.k, .int .i64 v.t.a.sc, .slice v.t.a.A v.t.l.length v.t.a.cap, .slice v.NA v.ns.length v.ncap, .slice v.IA v.is.length v.icap, .slice v.SA v.ss.length v.scap, .slice v.VA v.vs.length v.vcap] 30 (0, 0)) := by rw [← hW0]; exact heap_alloc_new w _
  have hk : Hid (∀ W, Below W0.heap.size W0 W → Below W0.heap.size W0 W ∧ W.cell? ⟨w.heap.size, 0, none⟩ = some (.int .i64 v.t.a.k) ∧ W.cell? ⟨w.heap.size, 1, none⟩ = some (.int .i64 v.t.a.sc) ∧ W.cell? ⟨w.heap.size, 2, none⟩ = some (.slice v.t.a.A v.t.l.length v.t.a.cap) ∧ W.cell? ⟨w.heap.size, 3, none⟩ = some (.slice v.NA v.ns.length v.ncap) ∧ W.cell? ⟨w.heap.size, 4, none⟩ = some (.slice v.IA v.is.length v.icap) ∧ W.cell? ⟨w.heap.size, 5, none⟩ = some (.slice v.SA v.ss.length v.scap) ∧ W.cell? ⟨w.heap.size, 6, none⟩ = some (.slice v.VA v.vs.length v.vcap)) := fun W h => by
    have Q0 := (h.block w.heap.size (by omega)).trans P0
    exact ⟨h, cell_of_row W w.heap.size 0 _ _ _ Q0, cell_of_row W w.heap.size 1 _ _ _ Q0, cell_of_row W w.heap.size 2 _ _ _ Q0, cell_of_row W w.heap.size 3 _ _ _ Q0, cell_of_row W w.heap.size 4 _ _ _ Q0, cell_of_row W w.heap.size 5 _ _ _ Q0, cell_of_row W w.heap.size 6 _ _ _ Q0⟩
  have hS0 : ∀ W, Below W0.heap.size W0 W → Same B w W ∧ B ≤ W.heap.size := fun W h => by
    have hb := hbw.trans (h.mono (by omega))
    exact ⟨Same.mono (Same.of_below hb) hB, Nat.le_trans hB hb.size⟩
  have hcv := Lib.hid (eCheckVector_any v n B W0 (hv.keep (hS0 W0 (Below.refl _ _)).1) (hT.keep (hS0 W0 (Below.refl _ _)).1) (hS0 W0 (Below.refl _ _)).2)
  have HS0 := Lib.hid hS0
  have HW0 := Lib.hid hW0
  have Hz0 := Lib.hid hz0
  have Hv := Lib.hid hv
  clear hW0 hz0 P0 hS0 hv hT
  by_cases h0 : vecS v n = 0
  rotate_left
  · have n0 : (vecS v n != 0) = true := by simpa using h0
    have HL : Hid (valsL v n = []) := by show _ = _; unfold valsL; rw [if_neg h0]
    clear h0
    go_enter Tryd.func8, Tryd.ntmps8
    go_wp2_with fail
    rw [HW0.out]
    refine hcv.out.mono ?_
    rintro e w1 ⟨rfl, hb1⟩
    go_wp2
    go_ret2
    exact ⟨none, 0, [], rfl, hbw.trans (hb1.mono (by have := Hz0.out; omega)), ⟨⟨Nat.le_refl _, Nat.zero_le _, fun i x hx => by simp at hx⟩, fun x hx => by cases hx⟩, by rw [HL.out]; exact ⟨rfl, fun i x y hx => by simp at hx⟩⟩
  obtain ⟨_, size, rfl, hs, hf, hck⟩ := vecS_ok h0
  have H0 := Lib.hid h0
  have Hck := Lib.hid hck
  have Hf := Lib.hid hf
  obtain ⟨L, hL⟩ : ∃ L, (List.range size).map (atV v) = L := ⟨_, rfl⟩
  have HL : Hid (valsL v size = L) := by show _ = _; unfold valsL; rw [if_pos h0, Int.toNat_natCast, hL]
  have hLl : Hid (L.length = size) := by show _ = _; rw [← hL]; simp
  have hLx : Hid (∀ j, j < size → L[j]? = some (atV v j)) := fun j hj => by rw [← hL]; simp [hj]
  clear h0 hck hf hL
  obtain ⟨i0, hi, iz, isz, iby⟩ := info_parts infoValue
  go_enter Tryd.func8, Tryd.ntmps8
  go_wp2_with fail
  rw [HW0.out]
  refine hcv.out.mono ?_
  rintro e w1 ⟨rfl, hb1⟩
  rw [H0.out]
  obtain ⟨_, p0, p1, p2, p3, p4, p5, p6⟩ := hk.out w1 hb1
  go_wp2
  go_loopw [7, 16] (fun sv i wr => CpRel L w1.heap.size w1 size sv i wr) (fun _ i _ => size - (intOf i).toNat)
  case atStart => exact ⟨0, [], Nat.zero_le _, rfl, rfl, World.ownsRow_nil _ _ _ _, Below.refl _ _, (fun q x y _ h => by simp at h), (fun y h => by simp at h)⟩
  case round =>
    obtain ⟨j, u, hj, rfl, hu, hown, hbr, hsm', hinu⟩ := hrel
    have hbr0 : Below W0.heap.size W0 wr := hb1.trans (hbr.mono hb1.size)
    clear p0 p1 p2 p3 p4 p5 p6
    obtain ⟨_, p0, p1, p2, p3, p4, p5, p6⟩ := hk.out wr hbr0
    by_cases hlt : j < size
    · have hhas := form_has Hf.out hs hlt
      obtain ⟨X, hX⟩ : ∃ X, atV v j = X := ⟨_, rfl⟩
      have hat' := eat_any v j B wr (Hv.out.keep (HS0.out wr hbr0).1) (HS0.out wr hbr0).2 hhas
      have hxin := at_in Hv.out hhas
      have hsml := check_sml (Hck.out j hlt)
      have hx := hLx.out j hlt
      rw [hX] at hat' hxin hsml hx
      have hat := Lib.hid hat'
      have Hx := Lib.hid hx
      have Hu := Lib.hid hu
      have Hsm := Lib.hid hsm'
      have Hinu := Lib.hid hinu
      have Hown := Lib.hid hown
      clear hat' hx hu hsm' hinu hown hX
      go_wp2_with fail
      refine hat.out.mono ?_
      rintro e wa ⟨rfl, hba⟩
      have hba0 : Below W0.heap.size W0 wa := hbr0.trans (hba.mono hbr0.size)
      have hcp := Lib.hid (vCopy_any X B wa (hxin.keep (HS0.out wa hba0).1) (HS0.out wa hba0).2 hsml)
      go_wp2_with fail
      refine hcp.out.mono ?_
      rintro e w2 ⟨y, rfl, hb2, hy, hxy⟩
      have hbr2 : Below wr.heap.size wr w2 := hba.trans (hb2.mono hba.size)
      have hz2 := hbr2.size
      have hzr := hbr.size
      have hownY := (own_below Hown.out hbr2)
      have h3 : Hid (j + 1 ≤ maxLen) := by show _ ≤ _; unfold maxLen; omega
      have h4 : Hid ((j + 1) * 64 ≤ 140737488355328) := by show _ ≤ _; omega
      have h5 : Hid (∀ o, w1.heap.size ≤ (w2.alloc o).heap.size) := fun o => by simp; omega
      clear hcp hat
      go_wp2_with (at_builtin; refine wpList_append_own2 _ rfl _ _ 25 rfl w1.heap.size 50 i0 _ 5 64 Tryd.underlying25 hi iz isz iby rfl (by decide) _ j (u.flatMap vCells) rfl (hownY.alloc _) ⟨w2.heap.size, 0, none⟩ 1 1 (vCells y) rfl (by decide) rfl (fun q u' h => new_cells _ _ _ q u' h) (vCells_one y) h3.out h4.out (h5.out _) ?_; intro sv' w3 hown3 hg3 hm3)
      have hst := CpRel.step rfl Hx.out hlt Hu.out Hown.out hbr Hsm.out Hinu.out hbr2 wa.heap.size hba.size hy hxy _ hown3 hg3 hm3
      have Hst := Lib.hid hst
      clear hst hown3 hg3 hm3 hownY
      go_wp2
      go_roundw
      case rel => exact Hst.out
      case measure => simp [intOf]; omega
    · obtain ⟨A', cap', rfl, ha, hb', hc', hat⟩ := own_values hown hu
      obtain rfl : j = size := by omega
      have clip := Lib.hid (clipV_any A' j cap' wr ha hb' hc')
      have Hsm := Lib.hid hsm'
      have Hinu := Lib.hid hinu
      have Hat := Lib.hid hat
      have Hu := Lib.hid hu
      clear hsm' hinu hown hat hu
      go_wp2_with fail
      refine clip.out.mono ?_
      rintro e w' ⟨rfl, rfl⟩
      go_wp2
      go_ret2
      refine ⟨A', j, u, by rw [Hu.out, H0.out]; rfl, hbw.trans (hbr0.mono (by have := Hz0.out; omega)), ⟨⟨by rw [Hu.out]; exact Nat.le_refl _, Nat.le_trans ha hb', fun i x hx => ?_⟩, fun x hx => ?_⟩, by rw [HL.out]; exact ⟨by rw [hLl.out, Hu.out], Hsm.out⟩⟩
      · obtain ⟨ad, e1, _, _, _, e2, e3, e4⟩ := Hat.out i x hx
        exact ⟨ad, e1, e3, e4⟩
      · exact (Hinu.out x hx).toIn (fun q hq => hq.2.1)
end Go.Proofs.YtcpbbagppkcilaaDoor
namespace Go.Proofs.YtcpbbagppkcilaaDoor
open Go.RowKit
theorem valsL_nil {v : VecT} {n : Int} (h : vecS v n ≠ 0) : valsL v n = [] := by unfold valsL; rw [if_neg h]
theorem vals_none {v : VecT} {n : Int} {w w' : World} {R : Int} (h : vecS v n = R) (hR : R ≠ 0) (hb : Below w.heap.size w w') : ValsPost v n w (.returned (.tuple #[.slice none 0 0, .int .i64 R])) w' := by
  refine ⟨none, 0, [], by rw [h]; rfl, hb, ⟨⟨Nat.le_refl _, Nat.zero_le _, fun i x hx => by simp at hx⟩, fun x hx => by cases hx⟩, ?_⟩
  rw [valsL_nil (by rw [h]; exact hR)]
  exact ⟨rfl, fun i x y hx => by simp at hx⟩
/-- What the first loop has at its head: j values collected. -/
def ClRel (L : List VT) (B0 : Nat) (W1 : World) (size : Nat) (sv i : Value) (wr : World) : Prop :=
  ∃ j : Nat, j ≤ size ∧ i = .int .i64 j ∧ wr.ownsRow B0 50 5 sv j ((L.take j).flatMap vCells) ∧ Below B0 W1 wr
theorem ClRel.step {L : List VT} {B0 : Nat} {W1 wr w2 w3 : World} {size j : Nat} {sv sv' : Value} {x : VT} (hB0 : W1.heap.size = B0) (hx : L[j]? = some x) (hj : j < size) (hown : wr.ownsRow B0 50 5 sv j ((L.take j).flatMap vCells)) (hb : Below B0 W1 wr)
    (hb2 : Below wr.heap.size wr w2) (o : Obj) (hown' : w3.ownsRow B0 50 5 sv' (j + 1) ((L.take j).flatMap vCells ++ vCells x)) (hg : (w2.alloc o).grownBy w3 sv.ownBlock) : ClRel L B0 W1 size sv' (.int .i64 ((j : Int) + 1)) w3 := by
  have hol := hown.lt
  have hz2 := hb2.size
  have hz := hb.size
  refine ⟨j + 1, by omega, by simp, by rw [List.take_add_one, hx, List.flatMap_append]; simpa using hown', ?_⟩
  refine ⟨hg.os.trans (hb2.os.trans hb.os), hg.tape.trans (hb2.tape.trans hb.tape), hg.output.trans (hb2.output.trans hb.output), by have := hg.size; simp at this; omega, fun k hk => ?_⟩
  rw [hg.block k (by simp; omega) (fun e => by have := (hol k e.symm).1; omega), Below.heap_alloc _ _ _ (by omega), hb2.block k (by omega), hb.block k hk]
set_option maxRecDepth 100000 in
set_option maxHeartbeats 4000000 in
theorem rValues_any (v : VecT) (n : Int) (B : Nat) (w : World) (hv : VecT.In B w v) (hT : Tabs B w) (hB : B ≤ w.heap.size) :
    Calls Tryd.prog 10 #[.agg #[.int .i64 v.t.a.k, .int .i64 v.t.a.sc, .slice v.t.a.A v.t.l.length v.t.a.cap, .slice v.NA v.ns.length v.ncap, .slice v.IA v.is.length v.icap, .slice v.SA v.ss.length v.scap, .slice v.VA v.vs.length v.vcap], .int .i64 n] w (ValsPost v n w) := by
  obtain ⟨R, hR⟩ : ∃ R, vecS v n = R := ⟨_, rfl⟩
  have hR0 := hR
  unfold vecS at hR
  obtain ⟨W0, hW0⟩ : ∃ W0, w.alloc (.cells #[.int .i64 v.t.a.k, .int .i64 v.t.a.sc, .slice v.t.a.A v.t.l.length v.t.a.cap, .slice v.NA v.ns.length v.ncap, .slice v.IA v.is.length v.icap, .slice v.SA v.ss.length v.scap, .slice v.VA v.vs.length v.vcap] 30) = W0 := ⟨_, rfl⟩
  have hbw : Below w.heap.size w W0 := by rw [← hW0]; exact bel1 _ _
  have hz0 : W0.heap.size = w.heap.size + 1 := by rw [← hW0]; simp
  have P0 : W0.heap[w.heap.size]? = some (.cells #[.int .i64 v.t.a.k, .int .i64 v.t.a.sc, .slice v.t.a.A v.t.l.length v.t.a.cap, .slice v.NA v.ns.length v.ncap, .slice v.IA v.is.length v.icap, .slice v.SA v.ss.length v.scap, .slice v.VA v.vs.length v.vcap] 30 (0, 0)) := by rw [← hW0]; exact heap_alloc_new w _
  have hk : Hid (∀ W, Below W0.heap.size W0 W → Below W0.heap.size W0 W ∧ W.cell? ⟨w.heap.size, 0, none⟩ = some (.int .i64 v.t.a.k) ∧ W.cell? ⟨w.heap.size, 1, none⟩ = some (.int .i64 v.t.a.sc) ∧ W.cell? ⟨w.heap.size, 2, none⟩ = some (.slice v.t.a.A v.t.l.length v.t.a.cap) ∧ W.cell? ⟨w.heap.size, 3, none⟩ = some (.slice v.NA v.ns.length v.ncap) ∧ W.cell? ⟨w.heap.size, 4, none⟩ = some (.slice v.IA v.is.length v.icap) ∧ W.cell? ⟨w.heap.size, 5, none⟩ = some (.slice v.SA v.ss.length v.scap) ∧ W.cell? ⟨w.heap.size, 6, none⟩ = some (.slice v.VA v.vs.length v.vcap)) := fun W h => by
    have Q0 := (h.block w.heap.size (by omega)).trans P0
    exact ⟨h, cell_of_row W w.heap.size 0 _ _ _ Q0, cell_of_row W w.heap.size 1 _ _ _ Q0, cell_of_row W w.heap.size 2 _ _ _ Q0, cell_of_row W w.heap.size 3 _ _ _ Q0, cell_of_row W w.heap.size 4 _ _ _ Q0, cell_of_row W w.heap.size 5 _ _ _ Q0, cell_of_row W w.heap.size 6 _ _ _ Q0⟩
  have hS0 : ∀ W, Below W0.heap.size W0 W → Same B w W ∧ B ≤ W.heap.size := fun W h => by
    have hb := hbw.trans (h.mono (by omega))
    exact ⟨Same.mono (Same.of_below hb) hB, Nat.le_trans hB hb.size⟩
  have hpt := Lib.hid (rplain8_any v.t B W0 (hv.t.keep (hS0 W0 (Below.refl _ _)).1) (hS0 W0 (Below.refl _ _)).2)
  have HS0 := Lib.hid hS0
  have HW0 := Lib.hid hW0
  have Hz0 := Lib.hid hz0
  have Hv := Lib.hid hv
  have HT := Lib.hid hT
  have HR0 := Lib.hid hR0
  clear hW0 hz0 P0 hS0 hv hT hR0
  by_cases hp : plainS v.t = 0
  rotate_left
  · rw [if_pos hp] at hR
    have n0 : (plainS v.t != 0) = true := by simpa using hp
    have HR := Lib.hid hR
    have Hp := Lib.hid hp
    clear hp hR
    go_enter Tryd.func10, Tryd.ntmps10
    go_wp2_with fail
    rw [HW0.out]
    refine hpt.out.mono ?_
    rintro e w1 ⟨rfl, hb1⟩
    go_wp2
    go_ret2
    exact vals_none (HR0.out.trans HR.out.symm) Hp.out (hbw.trans (hb1.mono (by have := Hz0.out; omega)))
  rw [hp, if_neg (by simp)] at hR
  have Hp := Lib.hid hp
  clear hp
  by_cases hn0 : n < 0
  · have HR := Lib.hid (show R = 3 by rw [← hR, if_pos (.inl hn0)])
    clear hR
    go_enter Tryd.func10, Tryd.ntmps10
    go_wp2_with fail
    rw [HW0.out]
    refine hpt.out.mono ?_
    rintro e w1 ⟨rfl, hb1⟩
    rw [Hp.out]
    obtain ⟨_, p0, p1, p2, p3, p4, p5, p6⟩ := hk.out w1 hb1
    have hbF : Below w.heap.size w w1 := hbw.trans (hb1.mono (by have := Hz0.out; omega))
    go_wp2
    go_ret2
    exact vals_none (HR0.out.trans HR.out) (by decide) hbF
  by_cases hn1 : 1024 < n
  · have HR := Lib.hid (show R = 3 by rw [← hR, if_pos (.inr hn1)])
    clear hR
    go_enter Tryd.func10, Tryd.ntmps10
    go_wp2_with fail
    rw [HW0.out]
    refine hpt.out.mono ?_
    rintro e w1 ⟨rfl, hb1⟩
    rw [Hp.out]
    obtain ⟨_, p0, p1, p2, p3, p4, p5, p6⟩ := hk.out w1 hb1
    have hbF : Below w.heap.size w w1 := hbw.trans (hb1.mono (by have := Hz0.out; omega))
    go_wp2
    go_ret2
    exact vals_none (HR0.out.trans HR.out) (by decide) hbF
  rw [if_neg (by omega)] at hR
  obtain ⟨size, rfl⟩ : ∃ m : Nat, n = (m : Int) := ⟨n.toNat, by omega⟩
  rw [Int.toNat_natCast] at hR
  have hs : size ≤ 1024 := by omega
  clear hn0 hn1
  have hfo : Hid (∀ W, Below W0.heap.size W0 W → Calls Tryd.prog 34 #[.agg #[.int .i64 v.t.a.k, .int .i64 v.t.a.sc, .slice v.t.a.A v.t.l.length v.t.a.cap, .slice v.NA v.ns.length v.ncap, .slice v.IA v.is.length v.icap, .slice v.SA v.ss.length v.scap, .slice v.VA v.vs.length v.vcap], .int .i64 (size : Int)] W fun e w' => e = .returned (.bool (formS v size)) ∧ Below W0.heap.size W0 w') := fun W h =>
    (rshaped_any v size B W (Hv.out.keep (HS0.out W h).1) (HS0.out W h).2 hs).mono fun e w' ⟨he, hb⟩ => ⟨he, h.trans (hb.mono h.size)⟩
  cases hf : formS v size
  · have HR := Lib.hid (show R = 1 by rw [← hR, hf, if_pos rfl])
    have Hf := Lib.hid hf
    clear hR hf
    go_enter Tryd.func10, Tryd.ntmps10
    go_wp2_with fail
    rw [HW0.out]
    refine hpt.out.mono ?_
    rintro e w1 ⟨rfl, hb1⟩
    rw [Hp.out]
    obtain ⟨_, p0, p1, p2, p3, p4, p5, p6⟩ := hk.out w1 hb1
    have hbF : Below w.heap.size w w1 := hbw.trans (hb1.mono (by have := Hz0.out; omega))
    go_wp2_with fail
    refine (hfo.out w1 hb1).mono ?_
    rintro e w2 ⟨rfl, hb2⟩
    rw [Hf.out]
    go_wp2
    go_ret2
    exact vals_none (HR0.out.trans HR.out) (by decide) (hbw.trans (hb2.mono (by have := Hz0.out; omega)))
  · rw [hf, if_neg (by simp)] at hR
    have HR := Lib.hid hR
    have Hf := Lib.hid hf
    obtain ⟨L, hL⟩ : ∃ L, (List.range size).map (atV v) = L := ⟨_, rfl⟩
    have hLl : Hid (L.length = size) := by show _ = _; rw [← hL]; simp
    have hLx : Hid (∀ j, j < size → L[j]? = some (atV v j)) := fun j hj => by rw [← hL]; simp [hj]
    have HL := Lib.hid hL
    clear hR hf hL
    obtain ⟨i0, hi, iz, isz, iby⟩ := info_parts infoValue
    go_enter Tryd.func10, Tryd.ntmps10
    go_wp2_with fail
    rw [HW0.out]
    refine hpt.out.mono ?_
    rintro e w1 ⟨rfl, hb1⟩
    rw [Hp.out]
    obtain ⟨_, p0, p1, p2, p3, p4, p5, p6⟩ := hk.out w1 hb1
    have hbF : Below w.heap.size w w1 := hbw.trans (hb1.mono (by have := Hz0.out; omega))
    go_wp2_with fail
    refine (hfo.out w1 hb1).mono ?_
    rintro e w2 ⟨rfl, hb2⟩
    rw [Hf.out]
    clear p0 p1 p2 p3 p4 p5 p6
    obtain ⟨_, p0, p1, p2, p3, p4, p5, p6⟩ := hk.out w2 hb2
    go_wp2
    go_loopw [7, 29] (fun sv i wr => ClRel L w2.heap.size w2 size sv i wr) (fun _ i _ => size - (intOf i).toNat)
    case atStart => exact ⟨0, Nat.zero_le _, rfl, World.ownsRow_nil _ _ _ _, Below.refl _ _⟩
    case round =>
      obtain ⟨j, hj, rfl, hown, hbr⟩ := hrel
      have hbr0 : Below W0.heap.size W0 wr := hb2.trans (hbr.mono hb2.size)
      clear p0 p1 p2 p3 p4 p5 p6
      obtain ⟨_, p0, p1, p2, p3, p4, p5, p6⟩ := hk.out wr hbr0
      by_cases hlt : j < size
      · have hhas := form_has Hf.out hs hlt
        obtain ⟨X, hX⟩ : ∃ X, atV v j = X := ⟨_, rfl⟩
        have hat' := rat_any v j B wr (Hv.out.keep (HS0.out wr hbr0).1) (HS0.out wr hbr0).2 hhas
        have hx := hLx.out j hlt
        rw [hX] at hat' hx
        have hat := Lib.hid hat'
        have Hx := Lib.hid hx
        have Hown := Lib.hid hown
        clear hat' hx hown hX
        go_wp2_with fail
        refine hat.out.mono ?_
        rintro e wa ⟨rfl, hba⟩
        have hz2 := hba.size
        have hzr := hbr.size
        have hownY := (own_below Hown.out hba)
        have h3 : Hid (j + 1 ≤ maxLen) := by show _ ≤ _; unfold maxLen; omega
        have h4 : Hid ((j + 1) * 64 ≤ 140737488355328) := by show _ ≤ _; omega
        have h5 : Hid (∀ o, w2.heap.size ≤ (wa.alloc o).heap.size) := fun o => by simp; omega
        clear hat
        go_wp2_with (at_builtin; refine wpList_append_own2 _ rfl _ _ 25 rfl w2.heap.size 50 i0 _ 5 64 Tryd.underlying25 hi iz isz iby rfl (by decide) _ j ((L.take j).flatMap vCells) rfl (hownY.alloc _) ⟨wa.heap.size, 0, none⟩ 1 1 (vCells X) rfl (by decide) rfl (fun q u' h => new_cells _ _ _ q u' h) (vCells_one X) h3.out h4.out (h5.out _) ?_; intro sv' w3 hown3 hg3 hm3)
        have Hst := Lib.hid (ClRel.step rfl Hx.out hlt Hown.out hbr hba _ hown3 hg3)
        clear hown3 hg3 hm3 hownY
        go_wp2
        go_roundw
        case rel => exact Hst.out
        case measure => simp [intOf]; omega
      · obtain rfl : j = size := by omega
        rw [List.take_of_length_le (by rw [hLl.out]; exact Nat.le_refl _)] at hown
        obtain ⟨A', cap', rfl, ha, hb', hc', hat⟩ := own_values hown hLl.out
        have hrow : VT.Row wr.heap.size wr A' cap' L := ⟨by rw [hLl.out]; exact ha, hb', fun i x hx => by
          obtain ⟨ad, e1, _, _, _, e2, e3, e4⟩ := hat i x hx
          exact ⟨ad, e1, e3, e4⟩⟩
        have Hrow := Lib.hid hrow
        clear hrow hat hown
        go_wp2
        obtain ⟨w5, rfl⟩ : ∃ w5 : World, w5 = wr := ⟨_, rfl⟩
        go_loopw [41] (fun i wr => ∃ q : Nat, q ≤ j ∧ i = .int .i64 q ∧ Below w5.heap.size w5 wr ∧ Hid (ckFrom v j (j - q) = R)) (fun i _ => j - (intOf i).toNat)
        case atStart => exact ⟨0, Nat.zero_le _, rfl, Below.refl _ _, by rw [Nat.sub_zero]; exact HR⟩
        case round =>
          obtain ⟨q, hq, rfl, hbq, HRq⟩ := hrel
          have hbq0 : Below W0.heap.size W0 wr := hbr0.trans (hbq.mono hbr0.size)
          clear p0 p1 p2 p3 p4 p5 p6
          obtain ⟨_, p0, p1, p2, p3, p4, p5, p6⟩ := hk.out wr hbq0
          by_cases hqlt : q < j
          · have hhas := form_has Hf.out hs hqlt
            obtain ⟨x, ad, hx, rfl, _, d0, d1, d2, d3, d4⟩ := (Hrow.out.keep (Same.of_below hbq)).get (show q < L.length by rw [hLl.out]; exact hqlt)
            obtain rfl : atV v q = x := by rw [hLx.out q hqlt] at hx; cases hx; rfl
            have HR2 := HRq.out
            rw [ckFrom_step v j q hqlt] at HR2
            obtain ⟨X, hX⟩ : ∃ X, atV v q = X := ⟨_, rfl⟩
            have hxin := at_in Hv.out hhas
            rw [hX] at d0 d1 d2 d3 d4 HR2 hxin
            obtain ⟨o1, ho1⟩ : ∃ o1, Obj.cells #[.int .i64 X.a.k, .int .i64 X.a.n, .int .i64 X.a.sc, .string X.a.s, .slice X.a.A X.l.length X.a.cap] 50 = o1 := ⟨_, rfl⟩
            obtain ⟨W3, hW3⟩ : ∃ W3, wr.alloc o1 = W3 := ⟨_, rfl⟩
            have hb3 : Below W0.heap.size W0 W3 := by rw [← hW3]; exact hbq0.alloc hbq0.size _
            have hb35 : Below w5.heap.size w5 W3 := by rw [← hW3]; exact hbq.alloc hbq.size _
            have hch := Lib.hid (rCheck_any v.t X B W3 (Hv.out.t.keep (HS0.out W3 hb3).1) (hxin.keep (HS0.out W3 hb3).1) (HT.out.keep (HS0.out W3 hb3).1) (HS0.out W3 hb3).2)
            have HW3 := Lib.hid hW3
            have Ho1 := Lib.hid ho1
            have p0' := fun o => cell_old p0 o
            have p1' := fun o => cell_old p1 o
            have p2' := fun o => cell_old p2 o
            clear hW3 ho1 HRq hx hX
            by_cases h0 : checkS v.t X = 0
            · have H0 := Lib.hid h0
              have HR3 := Lib.hid (show ckFrom v j (j - (q + 1)) = R by rw [← HR2, if_neg (by simp [h0])])
              clear h0 HR2
              go_wp2_with fail
              rw [Ho1.out, HW3.out]
              refine hch.out.mono ?_
              rintro e w6 ⟨rfl, hb6⟩
              rw [H0.out]
              go_wp2
              go_roundw
              case rel => exact ⟨q + 1, by omega, by go_num, hb35.trans (hb6.mono hb35.size), HR3⟩
              case measure => simp [intOf]; omega
            · have n0 : (checkS v.t X != 0) = true := by simpa using h0
              have HR3 := Lib.hid (show checkS v.t X = R by rw [← HR2, if_pos h0])
              have H0 := Lib.hid h0
              clear h0 HR2
              go_wp2_with fail
              rw [Ho1.out, HW3.out]
              refine hch.out.mono ?_
              rintro e w6 ⟨rfl, hb6⟩
              go_wp2
              go_ret2
              exact vals_none (HR0.out.trans HR3.out.symm) H0.out (hbw.trans ((hb3.trans (hb6.mono hb3.size)).mono (by have := Hz0.out; omega)))
          · have HR3 : Hid (R = 0) := by
              show R = 0
              have := HRq.out
              rw [show j - q = 0 by omega] at this
              exact this.symm
            go_wp2
            go_ret2
            have hv0 : vecS v (j : Int) = 0 := HR0.out.trans HR3.out
            refine ⟨A', cap', L, by rw [hLl.out, hv0]; rfl, hbw.trans (hbq0.mono (by have := Hz0.out; omega)), ⟨(Hrow.out.keep (Same.of_below hbq)).more hbq.size, fun x hx => ?_⟩, ?_⟩
            · obtain ⟨i, hi'⟩ := List.getElem?_of_mem hx
              have hil : i < j := by rw [← hLl.out]; exact (List.getElem?_eq_some_iff.1 hi').1
              rw [hLx.out i hil] at hi'
              cases hi'
              exact ((at_in Hv.out (form_has Hf.out hs hil)).keep (HS0.out wr hbq0).1).more (HS0.out wr hbq0).2
            · unfold valsL
              rw [if_pos hv0, Int.toNat_natCast, HL.out]
              exact ⟨rfl, fun i x y hx hy => by rw [hx] at hy; cases hy; exact VT.Sm.refl x⟩
end Go.Proofs.YtcpbbagppkcilaaDoor
