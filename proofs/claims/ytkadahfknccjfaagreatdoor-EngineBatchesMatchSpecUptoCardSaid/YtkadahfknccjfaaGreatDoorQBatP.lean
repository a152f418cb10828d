/-
  Package value: SameType at types that are the same but for their place.
  Package engine: a batch that is right is found right.
-/
import Derived.Test.YtkadahfknccjfaaGreatDoorQLib2
import Derived.Test.YtkadahfknccjfaaGreatDoorQBatH
import Derived.Test.YtkadahfknccjfaaGreatDoorQVecL
import Derived.Test.YtkadahfknccjfaaGreatDoorQLawC
import Derived.Test.YtkadahfknccjfaaGreatDoorQBatL
import Derived.Deep.RegionLaw
import Derived.Deep.DeepCutAuto
namespace Go.Proofs.YtkadahfknccjfaaGreatDoor
open Go.RowKit
def fAgg (t : FT) : Value := .agg #[.int .i64 t.a.id, .string t.a.nm, .bool t.a.nd, .int .i64 t.a.k, .int .i64 t.a.sc, .slice t.a.A t.l.length t.a.cap]
set_option maxRecDepth 100000 in
set_option maxHeartbeats 2000000 in
theorem eqFF_true (g : Nat) (lb : Array Value) (eg : ∀ args w, (callFunc g args).run Tryz.prog w = .ok (.enter g args) w) (l m : List FT) (A A2 : Option Addr) (cap cap2 len B : Nat) (w : World) (hr : FT.Row B w A cap l) (hr2 : FT.Row B w A2 cap2 m) (hB : B ≤ w.heap.size)
    (hlen : Hid (l.length = len)) (hlen2 : Hid (m.length = len))
    (hstep : Hid (∀ (j : Nat) (x y : FT) (W : World), l[j]? = some x → m[j]? = some y → Below w.heap.size w W → Calls Tryz.prog g (#[.agg #[.int .i64 x.a.id, .string x.a.nm, .bool x.a.nd, .int .i64 x.a.k, .int .i64 x.a.sc, .slice x.a.A x.l.length x.a.cap], .agg #[.int .i64 y.a.id, .string y.a.nm, .bool y.a.nd, .int .i64 y.a.k, .int .i64 y.a.sc, .slice y.a.A y.l.length y.a.cap]] ++ lb) W fun e w' => e = .returned (.bool true) ∧ Below w.heap.size w w')) :
    Calls Tryz.prog 68 #[.slice A len cap, .slice A2 len cap2, .func (.func g) #[] lb] w fun e w' => e = .returned (.bool true) ∧ Below w.heap.size w w' := by
  have hll : len ≤ 9223372036854775807 := by rw [← hlen.out]; exact Nat.le_trans hr.1 hr.2.1
  go_enter Tryz.func68, Tryz.ntmps68
  go_wp2
  go_loopw [17] (fun i wr => ∃ j : Nat, j ≤ len ∧ i = .int .i64 j ∧ Below w.heap.size w wr) (fun i _ => len - (intOf i).toNat)
  case atStart => exact ⟨0, Nat.zero_le _, rfl, Below.refl _ _⟩
  case round =>
    obtain ⟨j, hj, rfl, hbr⟩ := hrel
    by_cases hlt : j < len
    · have hSr : Same B w wr := Same.mono (Same.of_below hbr) hB
      obtain ⟨x, ad, hx, rfl, hb, d0, d1, d2, d3, d4, d5⟩ := (hr.keep hSr).get (show j < l.length by rw [hlen.out]; exact hlt)
      obtain ⟨y, ad2, hy, rfl, hb2, c0, c1, c2, c3, c4, c5⟩ := (hr2.keep hSr).get (show j < m.length by rw [hlen2.out]; exact hlt)
      have hadb : (ad2.add (j * 6)).block < wr.heap.size := cell_lt c0
      obtain ⟨o1, ho1⟩ : ∃ o1, Obj.cells #[.int .i64 x.a.id, .string x.a.nm, .bool x.a.nd, .int .i64 x.a.k, .int .i64 x.a.sc, .slice x.a.A x.l.length x.a.cap] 84 = o1 := ⟨_, rfl⟩
      obtain ⟨o2, ho2⟩ : ∃ o2, Obj.cells #[.int .i64 y.a.id, .string y.a.nm, .bool y.a.nd, .int .i64 y.a.k, .int .i64 y.a.sc, .slice y.a.A y.l.length y.a.cap] 84 = o2 := ⟨_, rfl⟩
      have hzr := hbr.size
      have cS := hstep.out j x y ((wr.alloc o1).alloc o2) hx hy ((hbr.alloc hzr o1).alloc (by simp; omega) o2)
      rw [← ho1, ← ho2] at cS
      clear hr hr2 hstep hx hy ho1 ho2 hSr
      have CS := Lib.hid cS
      clear cS
      go_wp2_with (go_at_fn g; refine CS.out.mono ?_; rintro e w' ⟨rfl, hst⟩)
      go_wp2
      go_roundw
      case rel => exact ⟨j + 1, by omega, by go_num, hst⟩
      case measure => simp [intOf]; omega
    · obtain rfl : j = len := by omega
      clear hstep
      go_wp2
      go_ret
      exact ⟨rfl, hbr⟩
set_option maxRecDepth 100000 in
set_option maxHeartbeats 4000000 in
theorem vSameType_sm : ∀ (t u : FT) (B : Nat) (w : World), FT.In B w t → FT.In B w u → B ≤ w.heap.size → FT.Sm t u →
    Calls Tryz.prog 47 #[.agg #[.int .i64 t.a.k, .int .i64 t.a.sc, .slice t.a.A t.l.length t.a.cap], .agg #[.int .i64 u.a.k, .int .i64 u.a.sc, .slice u.a.A u.l.length u.a.cap]] w fun e w' => e = .returned (.bool true) ∧ Below w.heap.size w w' := by
  refine FT.ind fun a l ih u B w hin hinu hB hsm => ?_
  obtain ⟨b, m⟩ := u
  obtain ⟨id, nm, nd, k, sc, A, cap⟩ := a
  obtain ⟨id2, nm2, nd2, k2, sc2, A2, cap2⟩ := b
  obtain ⟨_, _, _, _, hr, hl⟩ := hin.parts
  obtain ⟨_, _, _, _, hr2, hl2⟩ := hinu.parts
  obtain ⟨e1, e2, e3, e4, e5⟩ := hsm.inv
  simp only [FT.a_node, FT.l_node] at hr hr2 e1 e2 ⊢
  subst e1 e2
  obtain ⟨len, hlen⟩ : ∃ len, l.length = len := ⟨_, rfl⟩
  have hlen2 : m.length = len := by rw [← e3]; exact hlen
  rw [hlen, hlen2]
  obtain ⟨W0, hW0⟩ : ∃ W0, (w.alloc (.cells #[.int .i64 k, .int .i64 sc, .slice A len cap] 50)).alloc (.cells #[.int .i64 k, .int .i64 sc, .slice A2 len cap2] 50) = W0 := ⟨_, rfl⟩
  have hbw : Below w.heap.size w W0 := by rw [← hW0]; exact bel2 _ _ _
  have hS0 : Same B w W0 := Same.mono (Same.of_below hbw) hB
  have hclo : Hid (∀ (j : Nat) (x y : FT) (W : World), l[j]? = some x → m[j]? = some y → Below W0.heap.size W0 W → Calls Tryz.prog 69 (#[.agg #[.int .i64 x.a.id, .string x.a.nm, .bool x.a.nd, .int .i64 x.a.k, .int .i64 x.a.sc, .slice x.a.A x.l.length x.a.cap], .agg #[.int .i64 y.a.id, .string y.a.nm, .bool y.a.nd, .int .i64 y.a.k, .int .i64 y.a.sc, .slice y.a.A y.l.length y.a.cap]] ++ #[]) W fun e w' => e = .returned (.bool true) ∧ Below W0.heap.size W0 w') := fun j x y W hx hy hW => by
    obtain ⟨f1, f2, f3⟩ := e4 j x y hx hy
    have f4 := e5 j x y hx hy
    obtain ⟨W1, hW1⟩ : ∃ W1, (W.alloc (.cells #[.int .i64 x.a.id, .string x.a.nm, .bool x.a.nd, .int .i64 x.a.k, .int .i64 x.a.sc, .slice x.a.A x.l.length x.a.cap] 84)).alloc (.cells #[.int .i64 x.a.id, .string x.a.nm, .bool x.a.nd, .int .i64 y.a.k, .int .i64 y.a.sc, .slice y.a.A y.l.length y.a.cap] 84) = W1 := ⟨_, rfl⟩
    have hzW := hW.size
    have hb1 : Below W0.heap.size W0 W1 := by rw [← hW1]; exact (hW.alloc hzW _).alloc (by simp; omega) _
    have hz := hbw.size
    have hSW : Same B w W1 := hS0.trans (Same.mono (Same.of_below hb1) (by omega))
    have hz1 := hb1.size
    have hic := Lib.hid (ih x (mem_of_get? hx) y B W1 ((hl x (mem_of_get? hx)).keep hSW) ((hl2 y (mem_of_get? hy)).keep hSW) (by omega) f4)
    rw [← f1, ← f2, ← f3]
    have HW1 := Lib.hid hW1
    have Hb1 := Lib.hid hb1
    clear hW1 hb1 ih hl hl2 hin hinu hsm e3 e4 e5 f1 f2 f3 hx hy hr hr2 hSW hz1 hW hS0 hbw hW0
    show Calls _ _ #[_, _] _ _
    go_enter Tryz.func69, Tryz.ntmps69
    go_wp2_with fail
    rw [HW1.out]
    refine hic.out.mono ?_
    rintro e w' ⟨rfl, hb⟩
    go_wp2
    go_ret
    exact ⟨rfl, Hb1.out.trans (hb.mono Hb1.out.size)⟩
  have hct := Lib.hid (eqFF_true 69 #[] (enters_of Tryz.func69 (by kernel_rfl) rfl) l m A A2 cap cap2 len B W0 (hr.keep hS0) (hr2.keep hS0) (Nat.le_trans hB hbw.size) hlen hlen2 hclo)
  have HW0 := Lib.hid hW0
  have Hbw := Lib.hid hbw
  clear hW0 hbw hS0 hclo ih hl hl2 hin hinu hsm e3 e4 e5 hr hr2 hlen hlen2
  go_enter Tryz.func47, Tryz.ntmps47
  go_wp2_with fail
  rw [HW0.out]
  refine hct.out.mono ?_
  rintro e w' ⟨rfl, hb⟩
  go_wp2
  go_ret
  exact ⟨rfl, Hbw.out.trans (hb.mono Hbw.out.size)⟩
end Go.Proofs.YtkadahfknccjfaaGreatDoor
namespace Go.Proofs.YtkadahfknccjfaaGreatDoor
open Go.RowKit
set_option maxRecDepth 100000 in
set_option maxHeartbeats 8000000 in
theorem eCheckBatch_ok (TA CA : Option Addr) (tcap ccap n len : Nat) (ts : List FT) (cs : List VecT) (B : Nat) (w : World) (htr : FT.TRow B w TA tcap ts) (hrow : GRow VecT.c 7 B w CA ccap cs) (hin : ∀ v, v ∈ cs → VecT.In B w v) (hT : Tabs B w) (hB : B ≤ w.heap.size)
    (hflen : Hid (ts.length = len)) (hlen : Hid (cs.length = len)) (ht0 : typesS ts = 0) (h120 : len ≤ 120) (hn : n ≤ 1024) (hvec : ∀ v, v ∈ cs → vecS v n = 0) (hty : ∀ (k : Nat) (v : VecT) (t : FT), cs[k]? = some v → ts[k]? = some t → FT.Sm v.t t) :
    Calls Tryz.prog 20 #[.slice TA len tcap, .agg #[.int .i64 n, .slice CA len ccap, .bool true, .slice none 0 0]] w fun e w' => e = .returned (.int .i64 0) ∧ Below w.heap.size w w' := by
  obtain ⟨W0, hW0⟩ : ∃ W0, w.alloc (.cells #[.int .i64 n, .slice CA len ccap, .bool true, .slice none 0 0] 32) = W0 := ⟨_, rfl⟩
  have hbw : Below w.heap.size w W0 := by rw [← hW0]; exact bel1 _ _
  have P0 : W0.heap[w.heap.size]? = some (.cells #[.int .i64 n, .slice CA len ccap, .bool true, .slice none 0 0] 32 (0, 0)) := by rw [← hW0]; exact heap_alloc_new w _
  have hlt0 : w.heap.size < W0.heap.size := (Array.getElem?_eq_some_iff.1 P0).1
  have hk : Hid (∀ W, Below W0.heap.size W0 W → W.cell? ⟨w.heap.size, 0, none⟩ = some (.int .i64 n) ∧ W.cell? ⟨w.heap.size, 1, none⟩ = some (.slice CA len ccap) ∧ W.cell? ⟨w.heap.size, 2, none⟩ = some (.bool true) ∧ W.cell? ⟨w.heap.size, 3, none⟩ = some (.slice none 0 0)) := fun W h => by
    have Q := (h.block w.heap.size hlt0).trans P0
    exact ⟨cell_of_row W _ 0 _ _ _ Q, cell_of_row W _ 1 _ _ _ Q, cell_of_row W _ 2 _ _ _ Q, cell_of_row W _ 3 _ _ _ Q⟩
  have hS0 : ∀ W, Below W0.heap.size W0 W → Same B w W ∧ B ≤ W.heap.size := fun W h => by
    have hb := hbw.trans (h.mono hbw.size)
    exact ⟨Same.mono (Same.of_below hb) hB, Nat.le_trans hB hb.size⟩
  have hct := Lib.hid (echeckTypes_any TA tcap len ts B W0 (htr.keep (hS0 W0 (Below.refl _ _)).1) (hS0 W0 (Below.refl _ _)).2 hflen)
  have n1 : ((n : Int) < 0) = False := by simp
  have n2 : ((1024 : Int) < (n : Int)) = False := by simp; omega
  have HW0 := Lib.hid hW0
  have Hbw := Lib.hid hbw
  have HS0 := Lib.hid hS0
  have Htr := Lib.hid htr
  have Hrow := Lib.hid hrow
  have Hin := Lib.hid hin
  have HT := Lib.hid hT
  have Ht0 := Lib.hid ht0
  have Hvec := Lib.hid hvec
  have Hty := Lib.hid hty
  have Hlt0 := Lib.hid hlt0
  clear hW0 hbw P0 hS0 htr hrow hin hT ht0 hvec hty hlt0
  go_enter Tryz.func20, Tryz.ntmps20
  go_wp2_with fail
  rw [HW0.out]
  refine hct.out.mono ?_
  rintro e w1 ⟨rfl, hb1⟩
  rw [Ht0.out]
  obtain ⟨p0, p1, p2, p3⟩ := hk.out w1 hb1
  clear hct
  go_wp2
  go_loopw [33] (fun i wr => ∃ j : Nat, j ≤ len ∧ i = .int .i64 j ∧ Below W0.heap.size W0 wr) (fun i _ => len - (intOf i).toNat)
  case atStart => exact ⟨0, Nat.zero_le _, rfl, hb1⟩
  case round =>
    clear p0 p1 p2 p3
    obtain ⟨j, hj, rfl, hbr⟩ := hrel
    obtain ⟨p0, p1, p2, p3⟩ := hk.out wr hbr
    by_cases hlt : j < len
    · obtain ⟨v, ad, hx, rfl, hab, hat⟩ := (Hrow.out.keep (HS0.out wr hbr).1).get (show j < cs.length by rw [hlen.out]; exact hlt)
      obtain ⟨t, tad, ht, rfl, htb, f0, f1, f2⟩ := (Htr.out.keep (HS0.out wr hbr).1).get (show j < ts.length by rw [hflen.out]; exact hlt)
      have d0 : wr.cell? (ad.add (j * 7)) = some (.int .i64 v.t.a.k) := hat 0 _ rfl
      have d1 : wr.cell? ⟨(ad.add (j * 7)).block, (ad.add (j * 7)).off + 1, none⟩ = some (.int .i64 v.t.a.sc) := by rw [← add_off2 _ 1 (by decide)]; exact hat 1 _ rfl
      have d2 : wr.cell? ⟨(ad.add (j * 7)).block, (ad.add (j * 7)).off + 2, none⟩ = some (.slice v.t.a.A v.t.l.length v.t.a.cap) := by rw [← add_off2 _ 2 (by decide)]; exact hat 2 _ rfl
      have d3 : wr.cell? ⟨(ad.add (j * 7)).block, (ad.add (j * 7)).off + 3, none⟩ = some (.slice v.NA v.ns.length v.ncap) := by rw [← add_off2 _ 3 (by decide)]; exact hat 3 _ rfl
      have d4 : wr.cell? ⟨(ad.add (j * 7)).block, (ad.add (j * 7)).off + 4, none⟩ = some (.slice v.IA v.is.length v.icap) := by rw [← add_off2 _ 4 (by decide)]; exact hat 4 _ rfl
      have d5 : wr.cell? ⟨(ad.add (j * 7)).block, (ad.add (j * 7)).off + 5, none⟩ = some (.slice v.SA v.ss.length v.scap) := by rw [← add_off2 _ 5 (by decide)]; exact hat 5 _ rfl
      have d6 : wr.cell? ⟨(ad.add (j * 7)).block, (ad.add (j * 7)).off + 6, none⟩ = some (.slice v.VA v.vs.length v.vcap) := by rw [← add_off2 _ 6 (by decide)]; exact hat 6 _ rfl
      obtain ⟨W1, hW1⟩ : ∃ W1, wr.alloc (.cells #[.int .i64 v.t.a.k, .int .i64 v.t.a.sc, .slice v.t.a.A v.t.l.length v.t.a.cap, .slice v.NA v.ns.length v.ncap, .slice v.IA v.is.length v.icap, .slice v.SA v.ss.length v.scap, .slice v.VA v.vs.length v.vcap] 54) = W1 := ⟨_, rfl⟩
      have hb1' : Below wr.heap.size wr W1 := by rw [← hW1]; exact bel1 _ _
      have Q1 : W1.heap[wr.heap.size]? = some (.cells #[.int .i64 v.t.a.k, .int .i64 v.t.a.sc, .slice v.t.a.A v.t.l.length v.t.a.cap, .slice v.NA v.ns.length v.ncap, .slice v.IA v.is.length v.icap, .slice v.SA v.ss.length v.scap, .slice v.VA v.vs.length v.vcap] 54 (0, 0)) := by rw [← hW1]; exact heap_alloc_new wr _
      have hzr := hbr.size
      have hb01 : Below W0.heap.size W0 W1 := hbr.trans (hb1'.mono hzr)
      have hl1 : wr.heap.size < W1.heap.size := (Array.getElem?_eq_some_iff.1 Q1).1
      have hvin := Hin.out v (mem_of_get? hx)
      have hcv := Lib.hid (eCheckVector_any v n B W1 (hvin.keep (HS0.out W1 hb01).1) (HT.out.keep (HS0.out W1 hb01).1) (HS0.out W1 hb01).2)
      have hv0 := Hvec.out v (mem_of_get? hx)
      have hst : Hid (∀ W, Below W0.heap.size W0 W → Calls Tryz.prog 47 #[.agg #[.int .i64 v.t.a.k, .int .i64 v.t.a.sc, .slice v.t.a.A v.t.l.length v.t.a.cap], .agg #[.int .i64 t.a.k, .int .i64 t.a.sc, .slice t.a.A t.l.length t.a.cap]] W fun e w' => e = .returned (.bool true) ∧ Below W.heap.size W w') := fun W h =>
        vSameType_sm v.t t B W (hvin.t.keep (HS0.out W h).1) ((Htr.out.2.2.1 t (mem_of_get? ht)).keep (HS0.out W h).1) (HS0.out W h).2 (Hty.out j v t hx ht)
      obtain ⟨s0, s1, s2, s3⟩ := hk.out W1 hb01
      have HW1 := Lib.hid hW1
      have HQ1 := Lib.hid Q1
      have Hv0 := Lib.hid hv0
      have Hx := Lib.hid hx
      have Hht := Lib.hid ht
      have Hl1 := Lib.hid hl1
      have p0a := fun o => cell_old p0 o
      clear hW1 Q1 hv0 hat hx ht hvin hl1
      go_wp2_with fail
      rw [HW1.out]
      refine hcv.out.mono ?_
      rintro e w2 ⟨rfl, hb2⟩
      rw [Hv0.out]
      have hb02 : Below W0.heap.size W0 w2 := hb01.trans (hb2.mono hb01.size)
      have Q2 := (hb2.block wr.heap.size Hl1.out).trans HQ1.out
      have e0 := cell_of_row w2 wr.heap.size 0 _ _ _ Q2
      have e1 := cell_of_row w2 wr.heap.size 1 _ _ _ Q2
      have e2 := cell_of_row w2 wr.heap.size 2 _ _ _ Q2
      simp at e0 e1 e2
      have hbr2 : Below wr.heap.size wr w2 := hb1'.trans (hb2.mono hb1'.size)
      have htb' : (tad.add (j * 3)).block < wr.heap.size := cell_lt f0
      have k0 := (hbr2.cell (p := tad.add (j * 3)) htb').trans f0
      have k1 := (hbr2.cell (p := ⟨(tad.add (j * 3)).block, (tad.add (j * 3)).off + 1, none⟩) htb').trans f1
      have k2 := (hbr2.cell (p := ⟨(tad.add (j * 3)).block, (tad.add (j * 3)).off + 2, none⟩) htb').trans f2
      have hzz := hb02.size
      clear d0 d1 d2 d3 d4 d5 d6 p0 p1 p2 p3 s0 s1 s2 s3 p0a f0 f1 f2 hcv Q2
      go_wp2
      go_region_law (go_simp; go_at_call 47; (with_reducible refine (hst.out _ ?_).mono ?_); (first | exact Below.drew hb02 | exact hb02); rintro e w4 ⟨rfl, hb4⟩; dsimp only)
      all_goals
        go_wp2
        go_roundw
        case rel => exact ⟨j + 1, by omega, by go_num, hb02.drew.trans (hb4.mono hzz)⟩
        case measure => simp [intOf]; omega
    · obtain rfl : j = len := by omega
      go_wp2
      go_loopw [65] (fun i wr' => i = .int .i64 0 ∧ wr' = wr) (fun _ _ => 0)
      case atStart => exact ⟨rfl, rfl⟩
      case round =>
        obtain ⟨rfl, rfl⟩ := hrel
        go_wp2
        go_ret
        exact ⟨rfl, Hbw.out.trans (hbr.mono Hbw.out.size)⟩
end Go.Proofs.YtkadahfknccjfaaGreatDoor
