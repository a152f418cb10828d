/-
  The law on vectors: what compares vectors and values, at those that are the same but for their place.
  The law on vectors: the vectors of values are the same; the values of such a vector are those that it was made of. No program stands here.
-/
import Derived.Test.YtkadahfknccjfaaGreatDoorQRefK
import Derived.Test.YtkadahfknccjfaaGreatDoorQRvA
import Derived.Test.YtkadahfknccjfaaGreatDoorQNewF0
import Derived.Test.YtkadahfknccjfaaGreatDoorQSameA
import Derived.Test.YtkadahfknccjfaaGreatDoorQVecMa
namespace Go.Proofs.YtkadahfknccjfaaGreatDoor
open Go.RowKit
set_option maxRecDepth 100000 in
set_option maxHeartbeats 1000000 in
theorem eqU_same (A A2 : Option Addr) (cap cap2 len : Nat) (l : List Int) (B : Nat) (w : World) (h1 : CRow (.int .u64) B w A cap l) (h2 : CRow (.int .u64) B w A2 cap2 l) (hB : B ≤ w.heap.size) (hlen : Hid (l.length = len)) :
    Calls Tryz.prog 43 #[.slice A len cap, .slice A2 len cap2] w fun e w' => e = .returned (.bool true) ∧ Below w.heap.size w w' := by
  have hll : len ≤ 9223372036854775807 := by rw [← hlen.out]; exact Nat.le_trans h1.1 h1.2.1
  go_enter Tryz.func43, Tryz.ntmps43
  go_wp2
  go_loopw [13] (fun i wr => ∃ j : Nat, j ≤ len ∧ i = .int .i64 j ∧ Below w.heap.size w wr) (fun i _ => len - (intOf i).toNat)
  case atStart => exact ⟨0, Nat.zero_le _, rfl, Below.refl _ _⟩
  case round =>
    obtain ⟨j, hj, rfl, hbr⟩ := hrel
    by_cases hlt : j < len
    · have hSr := Same.mono (Same.of_below hbr) hB
      obtain ⟨x, ad, hx, rfl, hb, d0⟩ := (h1.keep hSr).get (show j < l.length by rw [hlen.out]; omega)
      obtain ⟨y, ad2, hy, rfl, hb2, c0⟩ := (h2.keep hSr).get (show j < l.length by rw [hlen.out]; omega)
      obtain rfl : x = y := by rw [hx] at hy; cases hy; rfl
      clear h1 h2 hx hy
      go_wp2_with fail
      go_quiet (fail)
      go_wp2
      go_roundw
      case rel => exact ⟨j + 1, by omega, by go_num, hbr.trans ((below_drewNg _ _).mono hbr.size)⟩
      case measure => simp [intOf]; omega
    · go_wp2
      go_ret
      exact ⟨rfl, hbr⟩
set_option maxRecDepth 100000 in
set_option maxHeartbeats 1000000 in
theorem eqI_same (A A2 : Option Addr) (cap cap2 len : Nat) (l : List Int) (B : Nat) (w : World) (h1 : CRow (.int .i64) B w A cap l) (h2 : CRow (.int .i64) B w A2 cap2 l) (hB : B ≤ w.heap.size) (hlen : Hid (l.length = len)) :
    Calls Tryz.prog 18 #[.slice A len cap, .slice A2 len cap2] w fun e w' => e = .returned (.bool true) ∧ Below w.heap.size w w' := by
  have hll : len ≤ 9223372036854775807 := by rw [← hlen.out]; exact Nat.le_trans h1.1 h1.2.1
  go_enter Tryz.func18, Tryz.ntmps18
  go_wp2
  go_loopw [13] (fun i wr => ∃ j : Nat, j ≤ len ∧ i = .int .i64 j ∧ Below w.heap.size w wr) (fun i _ => len - (intOf i).toNat)
  case atStart => exact ⟨0, Nat.zero_le _, rfl, Below.refl _ _⟩
  case round =>
    obtain ⟨j, hj, rfl, hbr⟩ := hrel
    by_cases hlt : j < len
    · have hSr := Same.mono (Same.of_below hbr) hB
      obtain ⟨x, ad, hx, rfl, hb, d0⟩ := (h1.keep hSr).get (show j < l.length by rw [hlen.out]; omega)
      obtain ⟨y, ad2, hy, rfl, hb2, c0⟩ := (h2.keep hSr).get (show j < l.length by rw [hlen.out]; omega)
      obtain rfl : x = y := by rw [hx] at hy; cases hy; rfl
      clear h1 h2 hx hy
      go_wp2_with fail
      go_quiet (fail)
      go_wp2
      go_roundw
      case rel => exact ⟨j + 1, by omega, by go_num, hbr.trans ((below_drewNg _ _).mono hbr.size)⟩
      case measure => simp [intOf]; omega
    · go_wp2
      go_ret
      exact ⟨rfl, hbr⟩
set_option maxRecDepth 100000 in
set_option maxHeartbeats 1000000 in
theorem eqS_same (A A2 : Option Addr) (cap cap2 len : Nat) (l : List ByteArray) (B : Nat) (w : World) (h1 : CRow .string B w A cap l) (h2 : CRow .string B w A2 cap2 l) (hB : B ≤ w.heap.size) (hlen : Hid (l.length = len)) :
    Calls Tryz.prog 44 #[.slice A len cap, .slice A2 len cap2] w fun e w' => e = .returned (.bool true) ∧ Below w.heap.size w w' := by
  have hll : len ≤ 9223372036854775807 := by rw [← hlen.out]; exact Nat.le_trans h1.1 h1.2.1
  go_enter Tryz.func44, Tryz.ntmps44
  go_wp2
  go_loopw [13] (fun i wr => ∃ j : Nat, j ≤ len ∧ i = .int .i64 j ∧ Below w.heap.size w wr) (fun i _ => len - (intOf i).toNat)
  case atStart => exact ⟨0, Nat.zero_le _, rfl, Below.refl _ _⟩
  case round =>
    obtain ⟨j, hj, rfl, hbr⟩ := hrel
    by_cases hlt : j < len
    · have hSr := Same.mono (Same.of_below hbr) hB
      obtain ⟨x, ad, hx, rfl, hb, d0⟩ := (h1.keep hSr).get (show j < l.length by rw [hlen.out]; omega)
      obtain ⟨y, ad2, hy, rfl, hb2, c0⟩ := (h2.keep hSr).get (show j < l.length by rw [hlen.out]; omega)
      obtain rfl : x = y := by rw [hx] at hy; cases hy; rfl
      clear h1 h2 hx hy
      go_wp2_with fail
      go_quiet (fail)
      go_wp2
      go_roundw
      case rel => exact ⟨j + 1, by omega, by go_num, hbr.trans ((below_drewNg _ _).mono hbr.size)⟩
      case measure => simp [intOf]; omega
    · go_wp2
      go_ret
      exact ⟨rfl, hbr⟩
set_option maxRecDepth 100000 in
set_option maxHeartbeats 1000000 in
theorem rCompareRows_sm (A A2 : Option Addr) (cap cap2 : Nat) (l m : List VT) (B : Nat) (w : World) (h1 : VT.Rows B w A cap l) (h2 : VT.Rows B w A2 cap2 m) (hB : B ≤ w.heap.size) (hsm : SmL l m) :
    Calls Tryz.prog 24 #[.slice A l.length cap, .slice A2 m.length cap2] w fun e w' => e = .returned (.int .i64 0) ∧ Below w.heap.size w w' := by
  have i0 : I64 0 := ⟨by omega, by omega⟩
  have i6 : I64 6 := ⟨by omega, by omega⟩
  have hc := Lib.hid (rCompare_sm (.node ⟨6, 0, 0, ⟨#[]⟩, A, cap⟩ l) (.node ⟨6, 0, 0, ⟨#[]⟩, A2, cap2⟩ m) B w (.mk 6 0 0 ⟨#[]⟩ A cap l i6 i0 i0 (Nat.zero_le _) h1.1 h1.2) (.mk 6 0 0 ⟨#[]⟩ A2 cap2 m i6 i0 i0 (Nat.zero_le _) h2.1 h2.2) hB (.mk _ _ _ _ rfl rfl rfl rfl hsm.1 hsm.2))
  clear h1 h2 hsm
  go_enter Tryz.func24, Tryz.ntmps24
  go_wp2_with fail
  refine hc.out.mono ?_
  rintro e w' ⟨rfl, hb⟩
  go_wp2
  go_ret
  exact ⟨rfl, hb⟩
/-- Vectors that are the same but for their place. -/
structure VecT.Sm (v u : VecT) : Prop where
  t : FT.Sm v.t u.t
  ns : v.ns = u.ns
  is : v.is = u.is
  ss : v.ss = u.ss
  vs : SmL v.vs u.vs
set_option maxRecDepth 100000 in
set_option maxHeartbeats 4000000 in
theorem lvectors_sm (v u : VecT) (B : Nat) (w : World) (hv : VecT.In B w v) (hu : VecT.In B w u) (hB : B ≤ w.heap.size) (hsm : VecT.Sm v u) :
    Calls Tryz.prog 19 #[.agg #[.int .i64 v.t.a.k, .int .i64 v.t.a.sc, .slice v.t.a.A v.t.l.length v.t.a.cap, .slice v.NA v.ns.length v.ncap, .slice v.IA v.is.length v.icap, .slice v.SA v.ss.length v.scap, .slice v.VA v.vs.length v.vcap], .agg #[.int .i64 u.t.a.k, .int .i64 u.t.a.sc, .slice u.t.a.A u.t.l.length u.t.a.cap, .slice u.NA u.ns.length u.ncap, .slice u.IA u.is.length u.icap, .slice u.SA u.ss.length u.scap, .slice u.VA u.vs.length u.vcap]] w fun e w' => e = .returned (.bool true) ∧ Below w.heap.size w w' := by
  have hvl : v.vs.length ≤ 9223372036854775807 := Nat.le_trans hv.vs.1.1 hv.vs.1.2.1
  obtain ⟨len, hlen⟩ : ∃ n, v.vs.length = n := ⟨_, rfl⟩
  have hlen2 : u.vs.length = len := by rw [← hsm.vs.1]; exact hlen
  rw [hlen] at hvl
  rw [hlen, hlen2]
  obtain ⟨W0, hW0⟩ : ∃ W0, (w.alloc (.cells #[.int .i64 v.t.a.k, .int .i64 v.t.a.sc, .slice v.t.a.A v.t.l.length v.t.a.cap, .slice v.NA v.ns.length v.ncap, .slice v.IA v.is.length v.icap, .slice v.SA v.ss.length v.scap, .slice v.VA len v.vcap] 54)).alloc (.cells #[.int .i64 u.t.a.k, .int .i64 u.t.a.sc, .slice u.t.a.A u.t.l.length u.t.a.cap, .slice u.NA u.ns.length u.ncap, .slice u.IA u.is.length u.icap, .slice u.SA u.ss.length u.scap, .slice u.VA len u.vcap] 54) = W0 := ⟨_, rfl⟩
  have hbw : Below w.heap.size w W0 := by rw [← hW0]; exact bel2 _ _ _
  have hz0 : W0.heap.size = w.heap.size + 2 := by rw [← hW0]; simp
  have P0 : W0.heap[w.heap.size]? = some (.cells #[.int .i64 v.t.a.k, .int .i64 v.t.a.sc, .slice v.t.a.A v.t.l.length v.t.a.cap, .slice v.NA v.ns.length v.ncap, .slice v.IA v.is.length v.icap, .slice v.SA v.ss.length v.scap, .slice v.VA len v.vcap] 54 (0, 0)) := by rw [← hW0, Below.heap_alloc _ _ _ (by simp)]; exact heap_alloc_new w _
  have P1 : W0.heap[w.heap.size + 1]? = some (.cells #[.int .i64 u.t.a.k, .int .i64 u.t.a.sc, .slice u.t.a.A u.t.l.length u.t.a.cap, .slice u.NA u.ns.length u.ncap, .slice u.IA u.is.length u.icap, .slice u.SA u.ss.length u.scap, .slice u.VA len u.vcap] 54 (0, 0)) := by
    rw [← hW0]
    have := heap_alloc_new (w.alloc (.cells #[.int .i64 v.t.a.k, .int .i64 v.t.a.sc, .slice v.t.a.A v.t.l.length v.t.a.cap, .slice v.NA v.ns.length v.ncap, .slice v.IA v.is.length v.icap, .slice v.SA v.ss.length v.scap, .slice v.VA len v.vcap] 54)) (.cells #[.int .i64 u.t.a.k, .int .i64 u.t.a.sc, .slice u.t.a.A u.t.l.length u.t.a.cap, .slice u.NA u.ns.length u.ncap, .slice u.IA u.is.length u.icap, .slice u.SA u.ss.length u.scap, .slice u.VA len u.vcap] 54)
    simpa using this
  have hk : Hid (∀ W, Below W0.heap.size W0 W → Below W0.heap.size W0 W ∧ W.cell? ⟨w.heap.size, 0, none⟩ = some (.int .i64 v.t.a.k) ∧ W.cell? ⟨w.heap.size, 1, none⟩ = some (.int .i64 v.t.a.sc) ∧ W.cell? ⟨w.heap.size, 2, none⟩ = some (.slice v.t.a.A v.t.l.length v.t.a.cap) ∧ W.cell? ⟨w.heap.size, 3, none⟩ = some (.slice v.NA v.ns.length v.ncap) ∧ W.cell? ⟨w.heap.size, 4, none⟩ = some (.slice v.IA v.is.length v.icap) ∧ W.cell? ⟨w.heap.size, 5, none⟩ = some (.slice v.SA v.ss.length v.scap) ∧ W.cell? ⟨w.heap.size, 6, none⟩ = some (.slice v.VA len v.vcap) ∧ W.cell? ⟨w.heap.size + 1, 0, none⟩ = some (.int .i64 u.t.a.k) ∧ W.cell? ⟨w.heap.size + 1, 1, none⟩ = some (.int .i64 u.t.a.sc) ∧ W.cell? ⟨w.heap.size + 1, 2, none⟩ = some (.slice u.t.a.A u.t.l.length u.t.a.cap) ∧ W.cell? ⟨w.heap.size + 1, 3, none⟩ = some (.slice u.NA u.ns.length u.ncap) ∧ W.cell? ⟨w.heap.size + 1, 4, none⟩ = some (.slice u.IA u.is.length u.icap) ∧ W.cell? ⟨w.heap.size + 1, 5, none⟩ = some (.slice u.SA u.ss.length u.scap) ∧ W.cell? ⟨w.heap.size + 1, 6, none⟩ = some (.slice u.VA len u.vcap)) := fun W h => by
    have Q0 := (h.block w.heap.size (by omega)).trans P0
    have Q1 := (h.block (w.heap.size + 1) (by omega)).trans P1
    exact ⟨h, cell_of_row W w.heap.size 0 _ _ _ Q0, cell_of_row W w.heap.size 1 _ _ _ Q0, cell_of_row W w.heap.size 2 _ _ _ Q0, cell_of_row W w.heap.size 3 _ _ _ Q0, cell_of_row W w.heap.size 4 _ _ _ Q0, cell_of_row W w.heap.size 5 _ _ _ Q0, cell_of_row W w.heap.size 6 _ _ _ Q0, cell_of_row W (w.heap.size + 1) 0 _ _ _ Q1, cell_of_row W (w.heap.size + 1) 1 _ _ _ Q1, cell_of_row W (w.heap.size + 1) 2 _ _ _ Q1, cell_of_row W (w.heap.size + 1) 3 _ _ _ Q1, cell_of_row W (w.heap.size + 1) 4 _ _ _ Q1, cell_of_row W (w.heap.size + 1) 5 _ _ _ Q1, cell_of_row W (w.heap.size + 1) 6 _ _ _ Q1⟩
  have hS0 : ∀ W, Below W0.heap.size W0 W → Same B w W ∧ B ≤ W.heap.size := fun W h => by
    have hb := hbw.trans (h.mono (by omega))
    exact ⟨Same.mono (Same.of_below hb) hB, Nat.le_trans hB hb.size⟩
  have h0 := hS0 W0 (Below.refl _ _)
  have hst := Lib.hid (rSameType_sm v.t u.t B W0 (hv.t.keep h0.1) (hu.t.keep h0.1) h0.2 hsm.t)
  have hun : Hid (∀ W, Below W0.heap.size W0 W → Calls Tryz.prog 43 #[.slice v.NA v.ns.length v.ncap, .slice u.NA u.ns.length u.ncap] W fun e w' => e = .returned (.bool true) ∧ Below W0.heap.size W0 w') := fun W h => by
    have h2 := hu.ns
    rw [← hsm.ns] at h2 ⊢
    exact (eqU_same v.NA u.NA v.ncap u.ncap v.ns.length v.ns B W (hv.ns.keep (hS0 W h).1) (h2.keep (hS0 W h).1) (hS0 W h).2 rfl).mono fun e w' ⟨he, hb⟩ => ⟨he, h.trans (hb.mono h.size)⟩
  have hin : Hid (∀ W, Below W0.heap.size W0 W → Calls Tryz.prog 18 #[.slice v.IA v.is.length v.icap, .slice u.IA u.is.length u.icap] W fun e w' => e = .returned (.bool true) ∧ Below W0.heap.size W0 w') := fun W h => by
    have h2 := hu.is
    rw [← hsm.is] at h2 ⊢
    exact (eqI_same v.IA u.IA v.icap u.icap v.is.length v.is B W (hv.is.keep (hS0 W h).1) (h2.keep (hS0 W h).1) (hS0 W h).2 rfl).mono fun e w' ⟨he, hb⟩ => ⟨he, h.trans (hb.mono h.size)⟩
  have hsn : Hid (∀ W, Below W0.heap.size W0 W → Calls Tryz.prog 44 #[.slice v.SA v.ss.length v.scap, .slice u.SA u.ss.length u.scap] W fun e w' => e = .returned (.bool true) ∧ Below W0.heap.size W0 w') := fun W h => by
    have h2 := hu.ss
    rw [← hsm.ss] at h2 ⊢
    exact (eqS_same v.SA u.SA v.scap u.scap v.ss.length v.ss B W (hv.ss.keep (hS0 W h).1) (h2.keep (hS0 W h).1) (hS0 W h).2 rfl).mono fun e w' ⟨he, hb⟩ => ⟨he, h.trans (hb.mono h.size)⟩
  have Hlen := Lib.hid hlen
  have Hlen2 := Lib.hid hlen2
  have HS0 := Lib.hid hS0
  have HW0 := Lib.hid hW0
  have Hz0 := Lib.hid hz0
  have Hv := Lib.hid hv
  have Hu := Lib.hid hu
  have Hsm := Lib.hid hsm
  clear hW0 hz0 P0 P1 hS0 h0 hv hu hsm hlen hlen2
  go_enter Tryz.func19, Tryz.ntmps19
  go_wp2_with fail
  rw [HW0.out]
  refine hst.out.mono ?_
  rintro e w1 ⟨rfl, hb1⟩
  obtain ⟨_, p0, p1, p2, p3, p4, p5, p6, q0, q1, q2, q3, q4, q5, q6⟩ := hk.out w1 hb1
  go_wp2_with fail
  refine (hun.out w1 hb1).mono ?_
  rintro e w2 ⟨rfl, hb2⟩
  clear p0 p1 p2 p3 p4 p5 p6 q0 q1 q2 q3 q4 q5 q6
  obtain ⟨_, p0, p1, p2, p3, p4, p5, p6, q0, q1, q2, q3, q4, q5, q6⟩ := hk.out w2 hb2
  go_wp2_with fail
  refine (hin.out w2 hb2).mono ?_
  rintro e w3 ⟨rfl, hb3⟩
  clear p0 p1 p2 p3 p4 p5 p6 q0 q1 q2 q3 q4 q5 q6
  obtain ⟨_, p0, p1, p2, p3, p4, p5, p6, q0, q1, q2, q3, q4, q5, q6⟩ := hk.out w3 hb3
  go_wp2_with fail
  refine (hsn.out w3 hb3).mono ?_
  rintro e w4 ⟨rfl, hb4⟩
  clear p0 p1 p2 p3 p4 p5 p6 q0 q1 q2 q3 q4 q5 q6
  obtain ⟨_, p0, p1, p2, p3, p4, p5, p6, q0, q1, q2, q3, q4, q5, q6⟩ := hk.out w4 hb4
  go_wp2
  go_loopw [48] (fun i wr => ∃ j : Nat, j ≤ len ∧ i = .int .i64 j ∧ Below W0.heap.size W0 wr) (fun i _ => len - (intOf i).toNat)
  case atStart => exact ⟨0, Nat.zero_le _, rfl, hb4⟩
  case round =>
    obtain ⟨j, hj, rfl, hbr⟩ := hrel
    clear p0 p1 p2 p3 p4 p5 p6 q0 q1 q2 q3 q4 q5 q6
    obtain ⟨_, p0, p1, p2, p3, p4, p5, p6, q0, q1, q2, q3, q4, q5, q6⟩ := hk.out wr hbr
    by_cases hlt : j < len
    · have hSr : Same B w wr := (HS0.out wr hbr).1
      obtain ⟨x, ad, hx, hA, hb, d0, d1, d2, d3, d4⟩ := (Hv.out.vs.1.keep hSr).get (show j < v.vs.length by rw [Hlen.out]; exact hlt)
      obtain ⟨y, ad2, hy, hA2, hb2', c0, c1, c2, c3, c4⟩ := (Hu.out.vs.1.keep hSr).get (show j < u.vs.length by rw [Hlen2.out]; exact hlt)
      rw [hA] at p6
      rw [hA2] at q6
      have hic := Lib.hid (fun W hS hW => rCompare_sm x y B W ((Hv.out.vs.2 x (mem_of_get? hx)).keep hS) ((Hu.out.vs.2 y (mem_of_get? hy)).keep hS) hW (Hsm.out.vs.2 j x y hx hy))
      clear hx hy hA hA2
      go_wp2_with fail
      (generalize hA0 : Act.mk _ _ = A0; refine wp_region_still_tail 10 (by kernel_rfl) (by kernel_rfl) ?_; simp only [List.take_succ_cons, List.take_zero, List.drop_succ_cons, List.drop_zero]; (iterate 10 (refine st_want (by rw [← hA0]; rfl) (fun K hK => ?_); subst hA0; go_simp; generalize hA0 : Act.mk _ _ = A0; refine hK A0 ?_; clear hK K)); refine wpStill_nil ?_; subst hA0)
      change wpList _ _ _ _ _ wr.drew
      go_wp2_with fail
      refine (hic.out wr.drew hSr (HS0.out wr hbr).2).mono ?_
      rintro e w' ⟨rfl, hb9⟩
      go_wp2
      go_roundw
      case rel => exact ⟨j + 1, by omega, by go_num, hbr.drew.trans (hb9.mono hbr.size)⟩
      case measure => simp [intOf]; omega
    · go_wp2
      go_ret
      exact ⟨rfl, hbw.trans (hbr.mono (by have := Hz0.out; omega))⟩
end Go.Proofs.YtkadahfknccjfaaGreatDoor
namespace Go.Proofs.YtkadahfknccjfaaGreatDoor
open Go.RowKit
theorem check_parts {t : FT} {x : VT} (h : checkS t x = 0) : (sdV 1 0 x).1 = true ∧ ofT t x = true := by
  unfold checkS at h
  by_cases h1 : ctS t ≠ 0
  · rw [if_pos h1] at h; exact absurd h h1
  rw [if_neg h1] at h
  by_cases h2 : (sdV 1 0 x).1 = false
  · rw [if_pos h2] at h; omega
  rw [if_neg h2] at h
  by_cases h3 : ofT t x = false
  · rw [if_pos h3] at h; omega
  exact ⟨by simpa using h2, by simpa using h3⟩
theorem sd_alone {lv c : Int} {a : VP} {l : List VT} (h : (sdV lv c (.node a l)).1 = true) : aloneS a.k a.n a.sc a.s l.length = true := by
  rw [sdV] at h
  by_cases hn : lv > 4 ∨ (if a.k = 0 then c else c + 1) > 256 ∨ aloneS a.k a.n a.sc a.s l.length = false
  · rw [if_pos hn] at h; cases h
  · cases e : aloneS a.k a.n a.sc a.s l.length with
    | true => rfl
    | false => exact absurd (.inr (.inr e)) hn
theorem empty_of {s : ByteArray} (h : s.toList.isEmpty = true) : s = ⟨#[]⟩ := by
  by_cases h0 : s.size = 0
  · obtain ⟨d⟩ := s
    have : d = #[] := Array.eq_empty_of_size_eq_zero h0
    rw [this]
  · rw [toList_isEmpty h0] at h; cases h
theorem of_parts {f : FP} {fl : List FT} {a : VP} {l : List VT} (h : ofT (.node f fl) (.node a l) = true) (hk : a.k ≠ 0) : a.k = f.k ∧ a.sc = f.sc := by
  rw [ofT, if_neg hk] at h
  by_cases h1 : a.k ≠ f.k
  · rw [if_pos h1] at h; cases h
  rw [if_neg h1] at h
  by_cases h2 : a.sc ≠ f.sc
  · rw [if_pos h2] at h; cases h
  exact ⟨Classical.not_not.1 h1, Classical.not_not.1 h2⟩
theorem sm_node {a b : VP} {l m : List VT} (h1 : a.k = b.k) (h2 : a.n = b.n) (h3 : a.sc = b.sc) (h4 : a.s = b.s) (hl : l.length = 0) (hm : m.length = 0) : VT.Sm (.node a l) (.node b m) :=
  .mk a b l m h1 h2 h3 h4 (hl.trans hm.symm) fun i x y hx _ => by have := (List.getElem?_eq_some_iff.1 hx).1; omega
/-- A value that is right and null is zero. -/
theorem null_zero {t : FT} {x : VT} (h : checkS t x = 0) (hk : x.a.k = 0) : VT.Sm x zeroV := by
  obtain ⟨a, l⟩ := x
  have ha := sd_alone (check_parts h).1
  have hk' : a.k = 0 := hk
  unfold aloneS at ha
  rw [if_pos hk'] at ha
  simp only [Bool.and_eq_true, beq_iff_eq] at ha
  obtain ⟨⟨⟨h1, h2⟩, h3⟩, h4⟩ := ha
  exact sm_node hk' h3 h4 (empty_of h1) h2 rfl
theorem nz_sm {t : FT} {x : VT} (h : checkS t x = 0) : VT.Sm x (nz x) := by
  unfold nz
  split
  · exact null_zero h (by assumption)
  · exact VT.Sm.refl x
theorem VT.Sm.parts {x y : VT} (h : VT.Sm x y) : x.a.k = y.a.k ∧ x.a.n = y.a.n ∧ x.a.sc = y.a.sc ∧ x.a.s = y.a.s ∧ x.l.length = y.l.length := by
  obtain ⟨a, l⟩ := x
  obtain ⟨b, m⟩ := y
  obtain ⟨h1, h2, h3, h4, h5, _⟩ := h.inv
  exact ⟨h1, h2, h3, h4, h5⟩
theorem FT.Sm.symm : ∀ {v u : FT}, FT.Sm v u → FT.Sm u v := by
  intro v
  induction v using FT.ind with
  | h a l ih =>
    intro u h
    obtain ⟨b, m⟩ := u
    obtain ⟨h1, h2, h3, h4, h5⟩ := h.inv
    refine .mk b a m l h1.symm h2.symm h3.symm (fun i x y hx hy => ?_) fun i x y hx hy => ih y (mem_of_get? hy) (h5 i y x hy hx)
    obtain ⟨g1, g2, g3⟩ := h4 i y x hy hx
    exact ⟨g1.symm, g2.symm, g3.symm⟩
/-- The vectors of one list are the same. -/
theorem VecOf.sm {t : FT} {l m : List VT} {v u : VecT} (h : VecOf t l v) (h' : VecOf t m u) (hlm : SmL l m) : VecT.Sm v u := by
  have hpart : ∀ (i : Nat) x y, l[i]? = some x → m[i]? = some y → x.a.k = y.a.k ∧ x.a.n = y.a.n ∧ x.a.s = y.a.s := fun i x y hx hy => by
    obtain ⟨h1, h2, _, h4, _⟩ := (hlm.2 i x y hx hy).parts
    exact ⟨h1, h2, h4⟩
  have hmap : ∀ {β : Type} (f : VT → β), (∀ (i : Nat) x y, l[i]? = some x → m[i]? = some y → f x = f y) → l.map f = m.map f := fun f hf => by
    apply List.ext_getElem?
    intro i
    rw [List.getElem?_map, List.getElem?_map]
    by_cases hi : i < l.length
    · have hm : i < m.length := by rw [← hlm.1]; exact hi
      rw [List.getElem?_eq_getElem hi, List.getElem?_eq_getElem hm]
      simp only [Option.map_some]
      rw [hf i _ _ (List.getElem?_eq_getElem hi) (List.getElem?_eq_getElem hm)]
    · rw [List.getElem?_eq_none (by omega), List.getElem?_eq_none (by have := hlm.1; omega)]
  have hnul : ∀ i, nulAt l i = nulAt m i := fun i => by
    by_cases hi : i < l.length
    · have hm : i < m.length := by rw [← hlm.1]; exact hi
      rw [nulAt_of (List.getElem?_eq_getElem hi), nulAt_of (List.getElem?_eq_getElem hm), (hpart i _ _ (List.getElem?_eq_getElem hi) (List.getElem?_eq_getElem hm)).1]
    · unfold nulAt
      rw [List.getElem?_eq_none (by omega), List.getElem?_eq_none (by have := hlm.1; omega)]
  obtain ⟨ws, e1, e2, e3⟩ := h.ns
  obtain ⟨us, f1, f2, f3⟩ := h'.ns
  have hws : ws = us := by
    refine BitsOf.unique e2 (?_ : BitsOf l l.length us) (by rw [e3, f3, hlm.1])
    refine ⟨fun q b hb => ?_, f2.2⟩
    rw [f2.1 q b hb, hnul, hlm.1]
  refine ⟨h.ty.symm.trans h'.ty, by rw [e1, f1, hws], ?_, ?_, ?_⟩
  · rw [h.is, h'.is, hmap (fun x => x.a.n) fun i x y hx hy => (hpart i x y hx hy).2.1]
  · rw [h.ss, h'.ss, hmap (fun x => x.a.s) fun i x y hx hy => (hpart i x y hx hy).2.2]
  · have h1 := h.vs
    have h2 := h'.vs
    by_cases hk : kindS t.a.k = 6
    · rw [if_pos hk] at h1 h2
      refine ⟨by rw [← h1.1, ← h2.1, hlm.1], fun i x y hx hy => ?_⟩
      have hi : i < l.length := by rw [h1.1]; exact (List.getElem?_eq_some_iff.1 hx).1
      have hm : i < m.length := by rw [← hlm.1]; exact hi
      exact ((h1.2 i _ x (List.getElem?_eq_getElem hi) hx).symm.trans (hlm.2 i _ _ (List.getElem?_eq_getElem hi) (List.getElem?_eq_getElem hm))).trans (h2.2 i _ y (List.getElem?_eq_getElem hm) hy)
    · rw [if_neg hk] at h1 h2
      rw [h1, h2]
      exact ⟨rfl, fun i x y hx => by simp at hx⟩
/-- The value at a place. -/
theorem at_sm {t : FT} {l : List VT} {v : VecT} (h : VecOf t l v) {i : Nat} {x : VT} (hx : l[i]? = some x) (hc : checkS t x = 0) : VT.Sm x (atV v i) := by
  obtain ⟨ws, e1, e2, e3⟩ := h.ns
  have hi := (List.getElem?_eq_some_iff.1 hx).1
  have hkt := h.ty.kind
  have hsc : t.a.sc = v.t.a.sc := by
    have := h.ty
    revert this
    generalize v.t = u
    intro this
    obtain ⟨a, l⟩ := t
    obtain ⟨b, m⟩ := u
    exact this.inv.2.1
  have hnb : nullB v.ns i = (x.a.k == 0) := by rw [e1, e2.nullB hi, nulAt_of hx]
  unfold atV
  rw [hnb, ← hkt, ← hsc]
  unfold atK
  by_cases hk : x.a.k = 0
  · rw [if_pos (by simpa using hk)]
    exact null_zero hc hk
  rw [if_neg (by simpa using hk)]
  obtain ⟨a, q⟩ := x
  obtain ⟨f, fl⟩ := t
  have hk' : a.k ≠ 0 := hk
  have ha := sd_alone (check_parts hc).1
  obtain ⟨o1, o2⟩ := of_parts (check_parts hc).2 hk'
  have his := h.is
  have hss := h.ss
  have hvs := h.vs
  show VT.Sm (.node a q) (if f.k = 4 then _ else if f.k = 6 ∨ f.k = 7 then _ else _)
  by_cases h4 : f.k = 4
  · rw [if_pos h4]
    have : kindS f.k = 4 := by unfold kindS; rw [if_pos h4]
    rw [show (FT.node f fl).a = f from rfl, if_pos this] at hss
    have hg : v.ss.getD i ⟨#[]⟩ = a.s := getD_of (by rw [hss, List.getElem?_map, hx]; rfl)
    rw [hg]
    unfold aloneS at ha
    rw [o1, h4] at ha
    simp only at ha
    simp at ha
    obtain ⟨⟨⟨h1, h2⟩, h3⟩, _⟩ := ha
    exact sm_node (o1.trans h4) h2 h3 rfl (by rw [h1]; rfl) rfl
  rw [if_neg h4]
  by_cases h67 : f.k = 6 ∨ f.k = 7
  · rw [if_pos h67]
    have : kindS f.k = 6 := by unfold kindS; rw [if_neg h4, if_pos h67]
    rw [show (FT.node f fl).a = f from rfl, if_pos this] at hvs
    have hi2 : i < v.vs.length := by rw [← hvs.1]; exact hi
    rw [getD_of (List.getElem?_eq_getElem hi2)]
    exact hvs.2 i _ _ hx (List.getElem?_eq_getElem hi2)
  rw [if_neg h67]
  have : kindS f.k = 2 := by unfold kindS; rw [if_neg h4, if_neg h67]
  rw [show (FT.node f fl).a = f from rfl, if_pos this] at his
  have hg : v.is.getD i 0 = a.n := getD_of (by rw [his, List.getElem?_map, hx]; rfl)
  rw [hg]
  have hse : a.s.toList.isEmpty = true ∧ q.length = 0 := by
    unfold aloneS at ha
    rw [if_neg hk'] at ha
    by_cases k1 : a.k = 1
    · rw [if_pos k1] at ha; simp only [Bool.and_eq_true, beq_iff_eq] at ha; exact ha.1.1
    rw [if_neg k1] at ha
    by_cases k2 : a.k = 2
    · rw [if_pos k2] at ha; simp only [Bool.and_eq_true, beq_iff_eq] at ha; exact ha.1.1
    rw [if_neg k2] at ha
    by_cases k3 : a.k = 3
    · rw [if_pos k3] at ha; simp only [Bool.and_eq_true, beq_iff_eq] at ha; exact ha.1.1
    rw [if_neg k3, if_neg (by omega)] at ha
    by_cases k5 : a.k = 5
    · rw [if_pos k5] at ha; simp only [Bool.and_eq_true, beq_iff_eq] at ha; exact ha.1.1
    rw [if_neg k5, if_neg (by omega), if_neg (by omega)] at ha
    cases ha
  exact sm_node o1 rfl o2 (empty_of hse.1) hse.2 rfl
theorem newS_ok {t : FT} {l : List VT} (h : newS t l = 0) : plainS t = 0 ∧ l.length ≤ 1024 ∧ ∀ x, x ∈ l → checkS t x = 0 := by
  unfold newS at h
  by_cases h1 : plainS t ≠ 0
  · rw [if_pos h1] at h; exact absurd h h1
  rw [if_neg h1] at h
  by_cases h2 : 1024 < l.length
  · rw [if_pos h2] at h; omega
  rw [if_neg h2] at h
  exact ⟨Classical.not_not.1 h1, by omega, ckL_ok h⟩
theorem ckFrom_zero {v : VecT} {size : Nat} (h : ∀ i, i < size → checkS v.t (atV v i) = 0) : ∀ f, f ≤ size → ckFrom v size f = 0
  | 0, _ => rfl
  | f + 1, hf => by rw [ckFrom, if_neg (by rw [h _ (by omega)]; simp)]; exact ckFrom_zero h f (by omega)
theorem okFrom_all {v : VecT} {size : Nat} (h : ∀ i, i < size → okAt v i = true) : ∀ f, f ≤ size → okFrom v size f = true
  | 0, _ => rfl
  | f + 1, hf => by rw [okFrom, h _ (by omega), okFrom_all h f (by omega)]; rfl
/-- A vector of values that are right is right, and has those values. -/
theorem vec_ok {t : FT} {l : List VT} {v : VecT} (h : VecOf t l v) (hn : newS t l = 0) : vecS v l.length = 0 ∧ SmL (valsL v l.length) l := by
  obtain ⟨hp, hlen, hc⟩ := newS_ok hn
  have hat : ∀ (i : Nat) x, l[i]? = some x → VT.Sm x (atV v i) := fun i x hx => at_sm h hx (hc x (mem_of_get? hx))
  have hck : ∀ i, i < l.length → checkS v.t (atV v i) = 0 := fun i hi => by
    rw [← checkS_sm h.ty (hat i _ (List.getElem?_eq_getElem hi))]
    exact hc _ (List.getElem_mem hi)
  have hkt := h.ty.kind
  obtain ⟨ws, e1, e2, e3⟩ := h.ns
  have his := h.is
  have hss := h.ss
  have hvs := h.vs
  have hform : formS v l.length = true := by
    unfold formS
    simp only [Bool.and_eq_true, beq_iff_eq]
    rw [← hkt]
    refine ⟨?_, ?_, ?_, ?_, ?_, okFrom_all (fun i hi => ?_) _ (Nat.le_refl _)⟩
    · rw [his]; split <;> simp
    · rw [hss]; split <;> simp
    · split at hvs
      · rw [if_pos (by assumption), hvs.1]
      · rw [if_neg (by assumption), hvs]; rfl
    · rw [e1]; unfold wI; rw [List.length_map, e3]
    · rw [e1]; exact e2.last
    · have hx := List.getElem?_eq_getElem hi
      have hcx := hc _ (List.getElem_mem hi)
      unfold okAt okI
      rw [e1, e2.nullB hi, nulAt_of hx, ← hkt]
      by_cases h4 : kindS t.a.k = 4
      · rw [if_pos h4]
        rw [if_pos h4] at hss
        have hg : v.ss.getD i ⟨#[]⟩ = l[i].a.s := getD_of (by rw [hss, List.getElem?_map, hx]; rfl)
        rw [hg]
        by_cases hk : l[i].a.k = 0
        · rw [(null_zero hcx hk).parts.2.2.2.1]; simp [zeroV, VT.a]
        · simp [hk]
      rw [if_neg h4]
      by_cases h6 : kindS t.a.k = 6
      · rw [if_pos h6]
        rw [if_pos h6] at hvs
        have hi2 : i < v.vs.length := by rw [← hvs.1]; exact hi
        rw [getD_of (List.getElem?_eq_getElem hi2)]
        have hsm := hvs.2 i _ _ hx (List.getElem?_eq_getElem hi2)
        obtain ⟨p1, p2, p3, p4, p5⟩ := hsm.parts
        by_cases hk : l[i].a.k = 0
        · rw [if_pos (by simpa using hk)]
          obtain ⟨q1, q2, q3, q4, q5⟩ := (null_zero hcx hk).parts
          rw [← p1, ← p2, ← p3, ← p4, ← p5, q1, q2, q3, q4, q5]
          simp [zeroB, zeroV, VT.a, VT.l]
        · rw [if_neg (by simpa using hk), ← p1]
          simpa using hk
      rw [if_neg h6]
      have h2 : kindS t.a.k = 2 := by rcases kindS_any t.a.k with h | h | h <;> omega
      rw [if_pos h2] at his
      have hg : v.is.getD i 0 = l[i].a.n := getD_of (by rw [his, List.getElem?_map, hx]; rfl)
      rw [hg]
      by_cases hk : l[i].a.k = 0
      · rw [(null_zero hcx hk).parts.2.1]; simp [zeroV, VT.a]
      · simp [hk]
  have hv : vecS v l.length = 0 := by
    unfold vecS
    rw [← plainS_sm h.ty, hp, if_neg (by simp), if_neg (by omega), Int.toNat_natCast, if_neg (by rw [hform]; simp)]
    exact ckFrom_zero hck _ (Nat.le_refl _)
  refine ⟨hv, ?_⟩
  unfold valsL
  rw [if_pos hv, Int.toNat_natCast]
  refine ⟨by simp, fun i x y hx hy => ?_⟩
  have hi := (List.getElem?_eq_some_iff.1 hy).1
  rw [List.getElem?_map, List.getElem?_range hi] at hx
  cases hx
  exact (hat i y hy).symm
theorem SmL.symm {l m : List VT} (h : SmL l m) : SmL m l := ⟨h.1.symm, fun i x y hx hy => (h.2 i y x hy hx).symm⟩
theorem SmL.trans {l m n : List VT} (h : SmL l m) (h' : SmL m n) : SmL l n := ⟨h.1.trans h'.1, fun i x y hx hy => by
  have hi : i < m.length := by rw [← h.1]; exact (List.getElem?_eq_some_iff.1 hx).1
  exact (h.2 i x m[i] hx (List.getElem?_eq_getElem hi)).trans (h'.2 i m[i] y (List.getElem?_eq_getElem hi) hy)⟩
theorem SmL.refl (l : List VT) : SmL l l := ⟨rfl, fun i x y hx hy => by rw [hx] at hy; cases hy; exact VT.Sm.refl x⟩
theorem nz_smL {t : FT} {l : List VT} (h : ∀ x, x ∈ l → checkS t x = 0) : SmL l (l.map nz) := ⟨by simp, fun i x y hx hy => by
  rw [List.getElem?_map, hx] at hy
  cases hy
  exact nz_sm (h x (mem_of_get? hx))⟩
theorem new_sm {t : FT} {l : List VT} {a b : VecT} (h1 : newS t l = 0 → VecOf t l a) (h2 : newS t l ≠ 0 → a = zeroVec) (h3 : newS t l = 0 → VecOf t (l.map nz) b) (h4 : newS t l ≠ 0 → b = zeroVec) : VecT.Sm a b := by
  by_cases h : newS t l = 0
  · exact (h1 h).sm (h3 h) (nz_smL (newS_ok h).2.2)
  · rw [h2 h, h4 h]
    exact ⟨FT.Sm.refl _, rfl, rfl, rfl, SmL.refl _⟩
theorem VecT.In.more {B B' : Nat} {w : World} {v : VecT} (h : VecT.In B w v) (hB : B ≤ B') : VecT.In B' w v := ⟨h.t.more hB, h.ns.more hB, h.nb, h.is.more hB, h.ib, h.ss.more hB, h.sb, ⟨h.vs.1.more hB, fun x hx => (h.vs.2 x hx).more hB⟩⟩
theorem tabs_more {B B' : Nat} {w : World} (h : Tabs B w) (hB : B ≤ B') : Tabs B' w := ⟨Nat.lt_of_lt_of_le h.1 hB, Nat.lt_of_lt_of_le h.2.1 hB, h.2.2⟩
end Go.Proofs.YtkadahfknccjfaaGreatDoor
