/-
  The law on vectors: what compares vectors and values, at those that are the same but for their place.
-/
import Derived.Test.YtcpbbagppkcilaaDoorQVecN
import Derived.Test.YtcpbbagppkcilaaDoorQSameA
namespace Go.Proofs.YtcpbbagppkcilaaDoor
open Go.RowKit
set_option maxRecDepth 100000 in
set_option maxHeartbeats 1000000 in
theorem eqU_same (A A2 : Option Addr) (cap cap2 len : Nat) (l : List Int) (B : Nat) (w : World) (h1 : CRow (.int .u64) B w A cap l) (h2 : CRow (.int .u64) B w A2 cap2 l) (hB : B ≤ w.heap.size) (hlen : Hid (l.length = len)) :
    Calls Tryd.prog 27 #[.slice A len cap, .slice A2 len cap2] w fun e w' => e = .returned (.bool true) ∧ Below w.heap.size w w' := by
  have hll : len ≤ 9223372036854775807 := by rw [← hlen.out]; exact Nat.le_trans h1.1 h1.2.1
  go_enter Tryd.func27, Tryd.ntmps27
  go_wp2
  go_loopw [13] (fun i wr => ∃ j : Nat, j ≤ len ∧ i = .int .i64 j ∧ Below w.heap.size w wr) (fun i _ => len - (intOf i).toNat)
  case atStart => exact ⟨0, Nat.zero_le _, rfl, Below.refl _ _⟩
  case round =>
    obtain ⟨j, hj, rfl, hbr⟩ := hrel
    by_cases hlt : j < len
    · have hSr := Same.mono (Same.of_below hbr) hB
      obtain ⟨x, ad, hx, rfl, hb, d0⟩ := (h1.keep hSr).get (show j < l.length by rw [hlen.out]; omega)
      obtain ⟨y, ad2, hy, rfl, hb2, c0⟩ := (h2.keep hSr).get (show j < l.length by rw [hlen.out]; omega)
      obtain rfl : x = y := by rw [hx] at hy; cases hy; rfl
      clear h1 h2 hx hy
      go_wp2_with fail
      go_quiet (fail)
      go_wp2
      go_roundw
      case rel => exact ⟨j + 1, by omega, by go_num, hbr.trans ((below_drewNg _ _).mono hbr.size)⟩
      case measure => simp [intOf]; omega
    · go_wp2
      go_ret
      exact ⟨rfl, hbr⟩
set_option maxRecDepth 100000 in
set_option maxHeartbeats 1000000 in
theorem eqI_same (A A2 : Option Addr) (cap cap2 len : Nat) (l : List Int) (B : Nat) (w : World) (h1 : CRow (.int .i64) B w A cap l) (h2 : CRow (.int .i64) B w A2 cap2 l) (hB : B ≤ w.heap.size) (hlen : Hid (l.length = len)) :
    Calls Tryd.prog 28 #[.slice A len cap, .slice A2 len cap2] w fun e w' => e = .returned (.bool true) ∧ Below w.heap.size w w' := by
  have hll : len ≤ 9223372036854775807 := by rw [← hlen.out]; exact Nat.le_trans h1.1 h1.2.1
  go_enter Tryd.func28, Tryd.ntmps28
  go_wp2
  go_loopw [13] (fun i wr => ∃ j : Nat, j ≤ len ∧ i = .int .i64 j ∧ Below w.heap.size w wr) (fun i _ => len - (intOf i).toNat)
  case atStart => exact ⟨0, Nat.zero_le _, rfl, Below.refl _ _⟩
  case round =>
    obtain ⟨j, hj, rfl, hbr⟩ := hrel
    by_cases hlt : j < len
    · have hSr := Same.mono (Same.of_below hbr) hB
      obtain ⟨x, ad, hx, rfl, hb, d0⟩ := (h1.keep hSr).get (show j < l.length by rw [hlen.out]; omega)
      obtain ⟨y, ad2, hy, rfl, hb2, c0⟩ := (h2.keep hSr).get (show j < l.length by rw [hlen.out]; omega)
      obtain rfl : x = y := by rw [hx] at hy; cases hy; rfl
      clear h1 h2 hx hy
      go_wp2_with fail
      go_quiet (fail)
      go_wp2
      go_roundw
      case rel => exact ⟨j + 1, by omega, by go_num, hbr.trans ((below_drewNg _ _).mono hbr.size)⟩
      case measure => simp [intOf]; omega
    · go_wp2
      go_ret
      exact ⟨rfl, hbr⟩
set_option maxRecDepth 100000 in
set_option maxHeartbeats 1000000 in
theorem eqS_same (A A2 : Option Addr) (cap cap2 len : Nat) (l : List ByteArray) (B : Nat) (w : World) (h1 : CRow .string B w A cap l) (h2 : CRow .string B w A2 cap2 l) (hB : B ≤ w.heap.size) (hlen : Hid (l.length = len)) :
    Calls Tryd.prog 29 #[.slice A len cap, .slice A2 len cap2] w fun e w' => e = .returned (.bool true) ∧ Below w.heap.size w w' := by
  have hll : len ≤ 9223372036854775807 := by rw [← hlen.out]; exact Nat.le_trans h1.1 h1.2.1
  go_enter Tryd.func29, Tryd.ntmps29
  go_wp2
  go_loopw [13] (fun i wr => ∃ j : Nat, j ≤ len ∧ i = .int .i64 j ∧ Below w.heap.size w wr) (fun i _ => len - (intOf i).toNat)
  case atStart => exact ⟨0, Nat.zero_le _, rfl, Below.refl _ _⟩
  case round =>
    obtain ⟨j, hj, rfl, hbr⟩ := hrel
    by_cases hlt : j < len
    · have hSr := Same.mono (Same.of_below hbr) hB
      obtain ⟨x, ad, hx, rfl, hb, d0⟩ := (h1.keep hSr).get (show j < l.length by rw [hlen.out]; omega)
      obtain ⟨y, ad2, hy, rfl, hb2, c0⟩ := (h2.keep hSr).get (show j < l.length by rw [hlen.out]; omega)
      obtain rfl : x = y := by rw [hx] at hy; cases hy; rfl
      clear h1 h2 hx hy
      go_wp2_with fail
      go_quiet (fail)
      go_wp2
      go_roundw
      case rel => exact ⟨j + 1, by omega, by go_num, hbr.trans ((below_drewNg _ _).mono hbr.size)⟩
      case measure => simp [intOf]; omega
    · go_wp2
      go_ret
      exact ⟨rfl, hbr⟩
set_option maxRecDepth 100000 in
set_option maxHeartbeats 1000000 in
theorem rCompareRows_sm (A A2 : Option Addr) (cap cap2 : Nat) (l m : List VT) (B : Nat) (w : World) (h1 : VT.Rows B w A cap l) (h2 : VT.Rows B w A2 cap2 m) (hB : B ≤ w.heap.size) (hsm : SmL l m) :
    Calls Tryd.prog 33 #[.slice A l.length cap, .slice A2 m.length cap2] w fun e w' => e = .returned (.int .i64 0) ∧ Below w.heap.size w w' := by
  have i0 : I64 0 := ⟨by omega, by omega⟩
  have i6 : I64 6 := ⟨by omega, by omega⟩
  have hc := Lib.hid (rCompare_sm (.node ⟨6, 0, 0, ⟨#[]⟩, A, cap⟩ l) (.node ⟨6, 0, 0, ⟨#[]⟩, A2, cap2⟩ m) B w (.mk 6 0 0 ⟨#[]⟩ A cap l i6 i0 i0 (Nat.zero_le _) h1.1 h1.2) (.mk 6 0 0 ⟨#[]⟩ A2 cap2 m i6 i0 i0 (Nat.zero_le _) h2.1 h2.2) hB (.mk _ _ _ _ rfl rfl rfl rfl hsm.1 hsm.2))
  clear h1 h2 hsm
  go_enter Tryd.func33, Tryd.ntmps33
  go_wp2_with fail
  refine hc.out.mono ?_
  rintro e w' ⟨rfl, hb⟩
  go_wp2
  go_ret
  exact ⟨rfl, hb⟩
theorem lvalues_sm (A A2 : Option Addr) (cap cap2 : Nat) (l m : List VT) (B : Nat) (w : World) (h1 : VT.Rows B w A cap l) (h2 : VT.Rows B w A2 cap2 m) (hB : B ≤ w.heap.size) (hsm : SmL l m) :
    Calls Tryd.prog 9 #[.slice A l.length cap, .slice A2 m.length cap2] w fun e w' => e = .returned (.bool true) ∧ Below w.heap.size w w' := by
  have hc := Lib.hid (rCompareRows_sm A A2 cap cap2 l m B w h1 h2 hB hsm)
  clear h1 h2 hsm
  go_enter Tryd.func9, Tryd.ntmps9
  go_wp2_with fail
  refine hc.out.mono ?_
  rintro e w' ⟨rfl, hb⟩
  go_wp2
  go_ret
  exact ⟨rfl, hb⟩
/-- Vectors that are the same but for their place. -/
structure VecT.Sm (v u : VecT) : Prop where
  t : FT.Sm v.t u.t
  ns : v.ns = u.ns
  is : v.is = u.is
  ss : v.ss = u.ss
  vs : SmL v.vs u.vs
set_option maxRecDepth 100000 in
set_option maxHeartbeats 4000000 in
theorem lvectors_sm (v u : VecT) (B : Nat) (w : World) (hv : VecT.In B w v) (hu : VecT.In B w u) (hB : B ≤ w.heap.size) (hsm : VecT.Sm v u) :
    Calls Tryd.prog 7 #[.agg #[.int .i64 v.t.a.k, .int .i64 v.t.a.sc, .slice v.t.a.A v.t.l.length v.t.a.cap, .slice v.NA v.ns.length v.ncap, .slice v.IA v.is.length v.icap, .slice v.SA v.ss.length v.scap, .slice v.VA v.vs.length v.vcap], .agg #[.int .i64 u.t.a.k, .int .i64 u.t.a.sc, .slice u.t.a.A u.t.l.length u.t.a.cap, .slice u.NA u.ns.length u.ncap, .slice u.IA u.is.length u.icap, .slice u.SA u.ss.length u.scap, .slice u.VA u.vs.length u.vcap]] w fun e w' => e = .returned (.bool true) ∧ Below w.heap.size w w' := by
  have hvl : v.vs.length ≤ 9223372036854775807 := Nat.le_trans hv.vs.1.1 hv.vs.1.2.1
  obtain ⟨len, hlen⟩ : ∃ n, v.vs.length = n := ⟨_, rfl⟩
  have hlen2 : u.vs.length = len := by rw [← hsm.vs.1]; exact hlen
  rw [hlen] at hvl
  rw [hlen, hlen2]
  obtain ⟨W0, hW0⟩ : ∃ W0, (w.alloc (.cells #[.int .i64 v.t.a.k, .int .i64 v.t.a.sc, .slice v.t.a.A v.t.l.length v.t.a.cap, .slice v.NA v.ns.length v.ncap, .slice v.IA v.is.length v.icap, .slice v.SA v.ss.length v.scap, .slice v.VA len v.vcap] 30)).alloc (.cells #[.int .i64 u.t.a.k, .int .i64 u.t.a.sc, .slice u.t.a.A u.t.l.length u.t.a.cap, .slice u.NA u.ns.length u.ncap, .slice u.IA u.is.length u.icap, .slice u.SA u.ss.length u.scap, .slice u.VA len u.vcap] 30) = W0 := ⟨_, rfl⟩
  have hbw : Below w.heap.size w W0 := by rw [← hW0]; exact bel2 _ _ _
  have hz0 : W0.heap.size = w.heap.size + 2 := by rw [← hW0]; simp
  have P0 : W0.heap[w.heap.size]? = some (.cells #[.int .i64 v.t.a.k, .int .i64 v.t.a.sc, .slice v.t.a.A v.t.l.length v.t.a.cap, .slice v.NA v.ns.length v.ncap, .slice v.IA v.is.length v.icap, .slice v.SA v.ss.length v.scap, .slice v.VA len v.vcap] 30 (0, 0)) := by rw [← hW0, Below.heap_alloc _ _ _ (by simp)]; exact heap_alloc_new w _
  have P1 : W0.heap[w.heap.size + 1]? = some (.cells #[.int .i64 u.t.a.k, .int .i64 u.t.a.sc, .slice u.t.a.A u.t.l.length u.t.a.cap, .slice u.NA u.ns.length u.ncap, .slice u.IA u.is.length u.icap, .slice u.SA u.ss.length u.scap, .slice u.VA len u.vcap] 30 (0, 0)) := by
    rw [← hW0]
    have := heap_alloc_new (w.alloc (.cells #[.int .i64 v.t.a.k, .int .i64 v.t.a.sc, .slice v.t.a.A v.t.l.length v.t.a.cap, .slice v.NA v.ns.length v.ncap, .slice v.IA v.is.length v.icap, .slice v.SA v.ss.length v.scap, .slice v.VA len v.vcap] 30)) (.cells #[.int .i64 u.t.a.k, .int .i64 u.t.a.sc, .slice u.t.a.A u.t.l.length u.t.a.cap, .slice u.NA u.ns.length u.ncap, .slice u.IA u.is.length u.icap, .slice u.SA u.ss.length u.scap, .slice u.VA len u.vcap] 30)
    simpa using this
  have hk : Hid (∀ W, Below W0.heap.size W0 W → Below W0.heap.size W0 W ∧ W.cell? ⟨w.heap.size, 0, none⟩ = some (.int .i64 v.t.a.k) ∧ W.cell? ⟨w.heap.size, 1, none⟩ = some (.int .i64 v.t.a.sc) ∧ W.cell? ⟨w.heap.size, 2, none⟩ = some (.slice v.t.a.A v.t.l.length v.t.a.cap) ∧ W.cell? ⟨w.heap.size, 3, none⟩ = some (.slice v.NA v.ns.length v.ncap) ∧ W.cell? ⟨w.heap.size, 4, none⟩ = some (.slice v.IA v.is.length v.icap) ∧ W.cell? ⟨w.heap.size, 5, none⟩ = some (.slice v.SA v.ss.length v.scap) ∧ W.cell? ⟨w.heap.size, 6, none⟩ = some (.slice v.VA len v.vcap) ∧ W.cell? ⟨w.heap.size + 1, 0, none⟩ = some (.int .i64 u.t.a.k) ∧ W.cell? ⟨w.heap.size + 1, 1, none⟩ = some (.int .i64 u.t.a.sc) ∧ W.cell? ⟨w.heap.size + 1, 2, none⟩ = some (.slice u.t.a.A u.t.l.length u.t.a.cap) ∧ W.cell? ⟨w.heap.size + 1, 3, none⟩ = some (.slice u.NA u.ns.length u.ncap) ∧ W.cell? ⟨w.heap.size + 1, 4, none⟩ = some (.slice u.IA u.is.length u.icap) ∧ W.cell? ⟨w.heap.size + 1, 5, none⟩ = some (.slice u.SA u.ss.length u.scap) ∧ W.cell? ⟨w.heap.size + 1, 6, none⟩ = some (.slice u.VA len u.vcap)) := fun W h => by
    have Q0 := (h.block w.heap.size (by omega)).trans P0
    have Q1 := (h.block (w.heap.size + 1) (by omega)).trans P1
    exact ⟨h, cell_of_row W w.heap.size 0 _ _ _ Q0, cell_of_row W w.heap.size 1 _ _ _ Q0, cell_of_row W w.heap.size 2 _ _ _ Q0, cell_of_row W w.heap.size 3 _ _ _ Q0, cell_of_row W w.heap.size 4 _ _ _ Q0, cell_of_row W w.heap.size 5 _ _ _ Q0, cell_of_row W w.heap.size 6 _ _ _ Q0, cell_of_row W (w.heap.size + 1) 0 _ _ _ Q1, cell_of_row W (w.heap.size + 1) 1 _ _ _ Q1, cell_of_row W (w.heap.size + 1) 2 _ _ _ Q1, cell_of_row W (w.heap.size + 1) 3 _ _ _ Q1, cell_of_row W (w.heap.size + 1) 4 _ _ _ Q1, cell_of_row W (w.heap.size + 1) 5 _ _ _ Q1, cell_of_row W (w.heap.size + 1) 6 _ _ _ Q1⟩
  have hS0 : ∀ W, Below W0.heap.size W0 W → Same B w W ∧ B ≤ W.heap.size := fun W h => by
    have hb := hbw.trans (h.mono (by omega))
    exact ⟨Same.mono (Same.of_below hb) hB, Nat.le_trans hB hb.size⟩
  have h0 := hS0 W0 (Below.refl _ _)
  have hst := Lib.hid (rSameType_sm v.t u.t B W0 (hv.t.keep h0.1) (hu.t.keep h0.1) h0.2 hsm.t)
  have hun : Hid (∀ W, Below W0.heap.size W0 W → Calls Tryd.prog 27 #[.slice v.NA v.ns.length v.ncap, .slice u.NA u.ns.length u.ncap] W fun e w' => e = .returned (.bool true) ∧ Below W0.heap.size W0 w') := fun W h => by
    have h2 := hu.ns
    rw [← hsm.ns] at h2 ⊢
    exact (eqU_same v.NA u.NA v.ncap u.ncap v.ns.length v.ns B W (hv.ns.keep (hS0 W h).1) (h2.keep (hS0 W h).1) (hS0 W h).2 rfl).mono fun e w' ⟨he, hb⟩ => ⟨he, h.trans (hb.mono h.size)⟩
  have hin : Hid (∀ W, Below W0.heap.size W0 W → Calls Tryd.prog 28 #[.slice v.IA v.is.length v.icap, .slice u.IA u.is.length u.icap] W fun e w' => e = .returned (.bool true) ∧ Below W0.heap.size W0 w') := fun W h => by
    have h2 := hu.is
    rw [← hsm.is] at h2 ⊢
    exact (eqI_same v.IA u.IA v.icap u.icap v.is.length v.is B W (hv.is.keep (hS0 W h).1) (h2.keep (hS0 W h).1) (hS0 W h).2 rfl).mono fun e w' ⟨he, hb⟩ => ⟨he, h.trans (hb.mono h.size)⟩
  have hsn : Hid (∀ W, Below W0.heap.size W0 W → Calls Tryd.prog 29 #[.slice v.SA v.ss.length v.scap, .slice u.SA u.ss.length u.scap] W fun e w' => e = .returned (.bool true) ∧ Below W0.heap.size W0 w') := fun W h => by
    have h2 := hu.ss
    rw [← hsm.ss] at h2 ⊢
    exact (eqS_same v.SA u.SA v.scap u.scap v.ss.length v.ss B W (hv.ss.keep (hS0 W h).1) (h2.keep (hS0 W h).1) (hS0 W h).2 rfl).mono fun e w' ⟨he, hb⟩ => ⟨he, h.trans (hb.mono h.size)⟩
  have Hlen := Lib.hid hlen
  have Hlen2 := Lib.hid hlen2
  have HS0 := Lib.hid hS0
  have HW0 := Lib.hid hW0
  have Hz0 := Lib.hid hz0
  have Hv := Lib.hid hv
  have Hu := Lib.hid hu
  have Hsm := Lib.hid hsm
  clear hW0 hz0 P0 P1 hS0 h0 hv hu hsm hlen hlen2
  go_enter Tryd.func7, Tryd.ntmps7
  go_wp2_with fail
  rw [HW0.out]
  refine hst.out.mono ?_
  rintro e w1 ⟨rfl, hb1⟩
  obtain ⟨_, p0, p1, p2, p3, p4, p5, p6, q0, q1, q2, q3, q4, q5, q6⟩ := hk.out w1 hb1
  go_wp2_with fail
  refine (hun.out w1 hb1).mono ?_
  rintro e w2 ⟨rfl, hb2⟩
  clear p0 p1 p2 p3 p4 p5 p6 q0 q1 q2 q3 q4 q5 q6
  obtain ⟨_, p0, p1, p2, p3, p4, p5, p6, q0, q1, q2, q3, q4, q5, q6⟩ := hk.out w2 hb2
  go_wp2_with fail
  refine (hin.out w2 hb2).mono ?_
  rintro e w3 ⟨rfl, hb3⟩
  clear p0 p1 p2 p3 p4 p5 p6 q0 q1 q2 q3 q4 q5 q6
  obtain ⟨_, p0, p1, p2, p3, p4, p5, p6, q0, q1, q2, q3, q4, q5, q6⟩ := hk.out w3 hb3
  go_wp2_with fail
  refine (hsn.out w3 hb3).mono ?_
  rintro e w4 ⟨rfl, hb4⟩
  clear p0 p1 p2 p3 p4 p5 p6 q0 q1 q2 q3 q4 q5 q6
  obtain ⟨_, p0, p1, p2, p3, p4, p5, p6, q0, q1, q2, q3, q4, q5, q6⟩ := hk.out w4 hb4
  go_wp2
  go_loopw [48] (fun i wr => ∃ j : Nat, j ≤ len ∧ i = .int .i64 j ∧ Below W0.heap.size W0 wr) (fun i _ => len - (intOf i).toNat)
  case atStart => exact ⟨0, Nat.zero_le _, rfl, hb4⟩
  case round =>
    obtain ⟨j, hj, rfl, hbr⟩ := hrel
    clear p0 p1 p2 p3 p4 p5 p6 q0 q1 q2 q3 q4 q5 q6
    obtain ⟨_, p0, p1, p2, p3, p4, p5, p6, q0, q1, q2, q3, q4, q5, q6⟩ := hk.out wr hbr
    by_cases hlt : j < len
    · have hSr : Same B w wr := (HS0.out wr hbr).1
      obtain ⟨x, ad, hx, hA, hb, d0, d1, d2, d3, d4⟩ := (Hv.out.vs.1.keep hSr).get (show j < v.vs.length by rw [Hlen.out]; exact hlt)
      obtain ⟨y, ad2, hy, hA2, hb2', c0, c1, c2, c3, c4⟩ := (Hu.out.vs.1.keep hSr).get (show j < u.vs.length by rw [Hlen2.out]; exact hlt)
      rw [hA] at p6
      rw [hA2] at q6
      have hic := Lib.hid (fun W hS hW => rCompare_sm x y B W ((Hv.out.vs.2 x (mem_of_get? hx)).keep hS) ((Hu.out.vs.2 y (mem_of_get? hy)).keep hS) hW (Hsm.out.vs.2 j x y hx hy))
      clear hx hy hA hA2
      go_wp2_with fail
      (generalize hA0 : Act.mk _ _ = A0; refine wp_region_still_tail 10 (by kernel_rfl) (by kernel_rfl) ?_; simp only [List.take_succ_cons, List.take_zero, List.drop_succ_cons, List.drop_zero]; (iterate 10 (refine st_want (by rw [← hA0]; rfl) (fun K hK => ?_); subst hA0; go_simp; generalize hA0 : Act.mk _ _ = A0; refine hK A0 ?_; clear hK K)); refine wpStill_nil ?_; subst hA0)
      change wpList _ _ _ _ _ wr.drew
      go_wp2_with fail
      refine (hic.out wr.drew hSr (HS0.out wr hbr).2).mono ?_
      rintro e w' ⟨rfl, hb9⟩
      go_wp2
      go_roundw
      case rel => exact ⟨j + 1, by omega, by go_num, hbr.drew.trans (hb9.mono hbr.size)⟩
      case measure => simp [intOf]; omega
    · go_wp2
      go_ret
      exact ⟨rfl, hbw.trans (hbr.mono (by have := Hz0.out; omega))⟩
end Go.Proofs.YtcpbbagppkcilaaDoor
