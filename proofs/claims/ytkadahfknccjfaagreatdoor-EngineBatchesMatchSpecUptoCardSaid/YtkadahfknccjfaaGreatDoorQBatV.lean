/-
  The law on batches: what compares rows and batches, at those that are the same but for their place.
  The law on batches, walked.
-/
import Derived.Test.YtkadahfknccjfaaGreatDoorQBatI
import Derived.Test.YtkadahfknccjfaaGreatDoorQBatT
namespace Go.Proofs.YtkadahfknccjfaaGreatDoor
open Go.RowKit
set_option maxRecDepth 100000 in
set_option maxHeartbeats 4000000 in
theorem lsame_sm (A A2 : Option Addr) (cap cap2 len : Nat) (l m : List VT) (B : Nat) (w : World) (h1 : VT.RRow B w A cap l) (h2 : VT.RRow B w A2 cap2 m) (hB : B ≤ w.heap.size) (hl : Hid (l.length = len)) (hm : Hid (m.length = len)) (hsm : ∀ (q : Nat) (x y : VT), l[q]? = some x → m[q]? = some y → SmL x.l y.l) :
    Calls Tryz.prog 8 #[.slice A len cap, .slice A2 len cap2] w fun e w' => e = .returned (.bool true) ∧ Below w.heap.size w w' := by
  have hll : len ≤ 9223372036854775807 := by rw [← hl.out]; exact Nat.le_trans h1.1 h1.2.1
  have H1 := Lib.hid h1
  have H2 := Lib.hid h2
  have Hsm := Lib.hid hsm
  clear h1 h2 hsm
  go_enter Tryz.func8, Tryz.ntmps8
  go_wp2
  go_loopw [13] (fun i wr => ∃ j : Nat, j ≤ len ∧ i = .int .i64 j ∧ Below w.heap.size w wr) (fun i _ => len - (intOf i).toNat)
  case atStart => exact ⟨0, Nat.zero_le _, rfl, Below.refl _ _⟩
  case round =>
    obtain ⟨j, hj, rfl, hb⟩ := hrel
    have hS : Same B w wr := Same.mono (Same.of_below hb) hB
    have hz := hb.size
    by_cases hlt : j < len
    · obtain ⟨x, ad, hx, rfl, hab, d0⟩ := (H1.out.keep hS).get (show j < l.length by rw [hl.out]; exact hlt)
      obtain ⟨y, ad2, hy, rfl, hab2, c0⟩ := (H2.out.keep hS).get (show j < m.length by rw [hm.out]; exact hlt)
      have hic := Lib.hid (rCompareRows_sm x.a.A y.a.A x.a.cap y.a.cap x.l y.l B wr.drew ((H1.out.2.2.1 x (mem_of_get? hx)).keep hS) ((H2.out.2.2.1 y (mem_of_get? hy)).keep hS) (Nat.le_trans hB hz) (Hsm.out j x y hx hy))
      clear hx hy hS
      go_wp2_with fail
      (generalize hA0 : Act.mk _ _ = A0; refine wp_region_still_tail 8 (by kernel_rfl) (by kernel_rfl) ?_; simp only [List.take_succ_cons, List.take_zero, List.drop_succ_cons, List.drop_zero]; (iterate 8 (refine st_want (by rw [← hA0]; rfl) (fun K hK => ?_); subst hA0; go_simp; generalize hA0 : Act.mk _ _ = A0; refine hK A0 ?_; clear hK K)); refine wpStill_nil ?_; subst hA0)
      change wpList _ _ _ _ _ wr.drew
      go_wp2_with fail
      refine hic.out.mono ?_
      rintro e w' ⟨rfl, hb2⟩
      go_wp2
      go_roundw
      case rel => exact ⟨j + 1, by omega, by go_num, hb.drew.trans (hb2.mono hz)⟩
      case measure => simp [intOf]; omega
    · obtain rfl : j = len := by omega
      go_wp2
      go_ret
      exact ⟨rfl, hb⟩
set_option maxRecDepth 100000 in
set_option maxHeartbeats 8000000 in
theorem lbatches_sm (CA CA2 : Option Addr) (ccap ccap2 n len : Nat) (cs ds : List VecT) (B : Nat) (w : World) (h1 : GRow VecT.c 7 B w CA ccap cs) (h2 : GRow VecT.c 7 B w CA2 ccap2 ds) (i1 : ∀ v, v ∈ cs → VecT.In B w v) (i2 : ∀ v, v ∈ ds → VecT.In B w v) (hB : B ≤ w.heap.size) (hl : Hid (cs.length = len)) (hm : Hid (ds.length = len)) (hsm : ∀ (k : Nat) (v u : VecT), cs[k]? = some v → ds[k]? = some u → VecT.Sm v u) :
    Calls Tryz.prog 6 #[.agg #[.int .i64 n, .slice CA len ccap, .bool true, .slice none 0 0], .agg #[.int .i64 n, .slice CA2 len ccap2, .bool true, .slice none 0 0]] w fun e w' => e = .returned (.bool true) ∧ Below w.heap.size w w' := by
  have hll : len ≤ 9223372036854775807 := by rw [← hl.out]; exact Nat.le_trans h1.1 h1.2.1
  obtain ⟨W0, hW0⟩ : ∃ W0, (w.alloc (.cells #[.int .i64 n, .slice CA len ccap, .bool true, .slice none 0 0] 32)).alloc (.cells #[.int .i64 n, .slice CA2 len ccap2, .bool true, .slice none 0 0] 32) = W0 := ⟨_, rfl⟩
  have hbw : Below w.heap.size w W0 := by rw [← hW0]; exact bel2 _ _ _
  have P0 : W0.heap[w.heap.size]? = some (.cells #[.int .i64 n, .slice CA len ccap, .bool true, .slice none 0 0] 32 (0, 0)) := by rw [← hW0, Below.heap_alloc _ _ _ (by simp)]; exact heap_alloc_new w _
  have P1 : W0.heap[w.heap.size + 1]? = some (.cells #[.int .i64 n, .slice CA2 len ccap2, .bool true, .slice none 0 0] 32 (0, 0)) := by rw [← hW0]; exact blk_new _ _ _ (by simp)
  have hlt1 : w.heap.size + 1 < W0.heap.size := (Array.getElem?_eq_some_iff.1 P1).1
  have hk : Hid (∀ W, Below W0.heap.size W0 W → (W.cell? ⟨w.heap.size, 0, none⟩ = some (.int .i64 n) ∧ W.cell? ⟨w.heap.size, 1, none⟩ = some (.slice CA len ccap) ∧ W.cell? ⟨w.heap.size, 2, none⟩ = some (.bool true) ∧ W.cell? ⟨w.heap.size, 3, none⟩ = some (.slice none 0 0)) ∧ W.cell? ⟨w.heap.size + 1, 0, none⟩ = some (.int .i64 n) ∧ W.cell? ⟨w.heap.size + 1, 1, none⟩ = some (.slice CA2 len ccap2) ∧ W.cell? ⟨w.heap.size + 1, 2, none⟩ = some (.bool true) ∧ W.cell? ⟨w.heap.size + 1, 3, none⟩ = some (.slice none 0 0)) := fun W h => by
    have Q := (h.block w.heap.size (by omega)).trans P0
    have Q' := (h.block (w.heap.size + 1) hlt1).trans P1
    exact ⟨⟨cell_of_row W _ 0 _ _ _ Q, cell_of_row W _ 1 _ _ _ Q, cell_of_row W _ 2 _ _ _ Q, cell_of_row W _ 3 _ _ _ Q⟩, cell_of_row W _ 0 _ _ _ Q', cell_of_row W _ 1 _ _ _ Q', cell_of_row W _ 2 _ _ _ Q', cell_of_row W _ 3 _ _ _ Q'⟩
  obtain ⟨⟨p0, p1, p2, p3⟩, r0, r1, r2, r3⟩ := hk.out W0 (Below.refl _ _)
  have heq := Lib.hid (eqI_same none none 0 0 0 [] W0.heap.size W0 (CRow.nil _ _ _) (CRow.nil _ _ _) (Nat.le_refl _) rfl)
  have HW0 := Lib.hid hW0
  have Hbw := Lib.hid hbw
  have H1 := Lib.hid h1
  have H2 := Lib.hid h2
  have I1 := Lib.hid i1
  have I2 := Lib.hid i2
  have Hsm := Lib.hid hsm
  clear hW0 hbw P0 P1 h1 h2 i1 i2 hsm hlt1
  go_enter Tryz.func6, Tryz.ntmps6
  go_upto_region 1 with (fail)
  rw [HW0.out]
  go_wp2_with fail
  refine heq.out.mono ?_
  rintro e w1 ⟨rfl, hb1⟩
  clear p0 p1 p2 p3 r0 r1 r2 r3 heq
  obtain ⟨⟨p0, p1, p2, p3⟩, r0, r1, r2, r3⟩ := hk.out w1 hb1
  go_wp2
  go_loopw [38] (fun i wr => ∃ j : Nat, j ≤ len ∧ i = .int .i64 j ∧ Below W0.heap.size W0 wr) (fun i _ => len - (intOf i).toNat)
  case atStart => exact ⟨0, Nat.zero_le _, rfl, hb1⟩
  case round =>
    clear p0 p1 p2 p3 r0 r1 r2 r3
    obtain ⟨j, hj, rfl, hb⟩ := hrel
    obtain ⟨⟨p0, p1, p2, p3⟩, r0, r1, r2, r3⟩ := hk.out wr hb
    have hbwr : Below w.heap.size w wr := Hbw.out.trans (hb.mono Hbw.out.size)
    have hS : Same B w wr := Same.mono (Same.of_below hbwr) hB
    have hz := hb.size
    by_cases hlt : j < len
    · obtain ⟨v, ad, hx, rfl, hab, hat⟩ := (H1.out.keep hS).get (show j < cs.length by rw [hl.out]; exact hlt)
      obtain ⟨u, ad2, hy, rfl, hab2, hat2⟩ := (H2.out.keep hS).get (show j < ds.length by rw [hm.out]; exact hlt)
      have d0 : wr.cell? (ad.add (j * 7)) = some (.int .i64 v.t.a.k) := hat 0 _ rfl
      have d1 : wr.cell? ⟨(ad.add (j * 7)).block, (ad.add (j * 7)).off + 1, none⟩ = some (.int .i64 v.t.a.sc) := by rw [← add_off2 _ 1 (by decide)]; exact hat 1 _ rfl
      have d2 : wr.cell? ⟨(ad.add (j * 7)).block, (ad.add (j * 7)).off + 2, none⟩ = some (.slice v.t.a.A v.t.l.length v.t.a.cap) := by rw [← add_off2 _ 2 (by decide)]; exact hat 2 _ rfl
      have d3 : wr.cell? ⟨(ad.add (j * 7)).block, (ad.add (j * 7)).off + 3, none⟩ = some (.slice v.NA v.ns.length v.ncap) := by rw [← add_off2 _ 3 (by decide)]; exact hat 3 _ rfl
      have d4 : wr.cell? ⟨(ad.add (j * 7)).block, (ad.add (j * 7)).off + 4, none⟩ = some (.slice v.IA v.is.length v.icap) := by rw [← add_off2 _ 4 (by decide)]; exact hat 4 _ rfl
      have d5 : wr.cell? ⟨(ad.add (j * 7)).block, (ad.add (j * 7)).off + 5, none⟩ = some (.slice v.SA v.ss.length v.scap) := by rw [← add_off2 _ 5 (by decide)]; exact hat 5 _ rfl
      have d6 : wr.cell? ⟨(ad.add (j * 7)).block, (ad.add (j * 7)).off + 6, none⟩ = some (.slice v.VA v.vs.length v.vcap) := by rw [← add_off2 _ 6 (by decide)]; exact hat 6 _ rfl
      have c0 : wr.cell? (ad2.add (j * 7)) = some (.int .i64 u.t.a.k) := hat2 0 _ rfl
      have c1 : wr.cell? ⟨(ad2.add (j * 7)).block, (ad2.add (j * 7)).off + 1, none⟩ = some (.int .i64 u.t.a.sc) := by rw [← add_off2 _ 1 (by decide)]; exact hat2 1 _ rfl
      have c2 : wr.cell? ⟨(ad2.add (j * 7)).block, (ad2.add (j * 7)).off + 2, none⟩ = some (.slice u.t.a.A u.t.l.length u.t.a.cap) := by rw [← add_off2 _ 2 (by decide)]; exact hat2 2 _ rfl
      have c3 : wr.cell? ⟨(ad2.add (j * 7)).block, (ad2.add (j * 7)).off + 3, none⟩ = some (.slice u.NA u.ns.length u.ncap) := by rw [← add_off2 _ 3 (by decide)]; exact hat2 3 _ rfl
      have c4 : wr.cell? ⟨(ad2.add (j * 7)).block, (ad2.add (j * 7)).off + 4, none⟩ = some (.slice u.IA u.is.length u.icap) := by rw [← add_off2 _ 4 (by decide)]; exact hat2 4 _ rfl
      have c5 : wr.cell? ⟨(ad2.add (j * 7)).block, (ad2.add (j * 7)).off + 5, none⟩ = some (.slice u.SA u.ss.length u.scap) := by rw [← add_off2 _ 5 (by decide)]; exact hat2 5 _ rfl
      have c6 : wr.cell? ⟨(ad2.add (j * 7)).block, (ad2.add (j * 7)).off + 6, none⟩ = some (.slice u.VA u.vs.length u.vcap) := by rw [← add_off2 _ 6 (by decide)]; exact hat2 6 _ rfl
      have hic := Lib.hid (lvectors_sm v u B wr.drew ((I1.out v (mem_of_get? hx)).keep hS) ((I2.out u (mem_of_get? hy)).keep hS) (Nat.le_trans hB hbwr.size) (Hsm.out j v u hx hy))
      clear hx hy hS hat hat2
      go_wp2_with fail
      (generalize hA0 : Act.mk _ _ = A0; refine wp_region_still_tail 10 (by kernel_rfl) (by kernel_rfl) ?_; simp only [List.take_succ_cons, List.take_zero, List.drop_succ_cons, List.drop_zero]; (iterate 10 (refine st_want (by rw [← hA0]; rfl) (fun K hK => ?_); subst hA0; go_simp; generalize hA0 : Act.mk _ _ = A0; refine hK A0 ?_; clear hK K)); refine wpStill_nil ?_; subst hA0)
      change wpList _ _ _ _ _ wr.drew
      go_wp2_with fail
      refine hic.out.mono ?_
      rintro e w' ⟨rfl, hb2⟩
      go_wp2
      go_roundw
      case rel => exact ⟨j + 1, by omega, by go_num, hb.drew.trans (hb2.mono hz)⟩
      case measure => simp [intOf]; omega
    · obtain rfl : j = len := by omega
      go_wp2
      go_ret
      exact ⟨rfl, hbwr⟩
end Go.Proofs.YtkadahfknccjfaaGreatDoor
namespace Go.Proofs.YtkadahfknccjfaaGreatDoor
open Go.RowKit
theorem TRow_more {B B' : Nat} {w : World} {A : Option Addr} {cap : Nat} {l : List FT} (h : FT.TRow B w A cap l) (hB : B ≤ B') : FT.TRow B' w A cap l :=
  ⟨h.1, h.2.1, fun x hx => (h.2.2.1 x hx).more hB, fun i x hx => by
    obtain ⟨ad, e, hb, hat⟩ := h.2.2.2 i x hx
    exact ⟨ad, e, by omega, hat⟩⟩
theorem RRow_more {B B' : Nat} {w : World} {A : Option Addr} {cap : Nat} {l : List VT} (h : VT.RRow B w A cap l) (hB : B ≤ B') : VT.RRow B' w A cap l :=
  ⟨h.1, h.2.1, fun x hx => ⟨(h.2.2.1 x hx).1.more hB, fun y hy => ((h.2.2.1 x hx).2 y hy).more hB⟩, fun i x hx => by
    obtain ⟨ad, e, hb, hat⟩ := h.2.2.2 i x hx
    exact ⟨ad, e, by omega, hat⟩⟩
theorem BatT.In.more {B B' : Nat} {w : World} {b : BatT} (h : BatT.In B w b) (hB : B ≤ B') : BatT.In B' w b := ⟨h.1.more hB, fun v hv => (h.2 v hv).more hB⟩
theorem BsLen.unique {rows : List VT} {n k k' : Nat} (h : BsLen rows n k) (h' : BsLen rows n k') : k = k' := by
  obtain ⟨a1, a2⟩ := h
  obtain ⟨b1, b2⟩ := h'
  rcases Nat.lt_trichotomy k k' with hlt | he | hlt
  · have : k * n ≤ (k' - 1) * n := Nat.mul_le_mul_right n (by omega)
    omega
  · exact he
  · have : k' * n ≤ (k - 1) * n := Nat.mul_le_mul_right n (by omega)
    omega
theorem batchS_ok {ts : List FT} {rows : List VT} {n : Int} (hok : batchS ts rows n = 0) : typesS ts = 0 ∧ rowsS ts rows = 0 ∧ 1 ≤ n ∧ n ≤ 1024 := by
  unfold batchS at hok
  by_cases h : typesS ts ≠ 0
  · rw [if_pos h] at hok; exact absurd hok h
  rw [if_neg h] at hok
  by_cases h2 : rowsS ts rows ≠ 0
  · rw [if_pos h2] at hok; exact absurd hok h2
  rw [if_neg h2] at hok
  by_cases h3 : n < 1 ∨ 1024 < n
  · rw [if_pos h3] at hok; omega
  · exact ⟨Classical.not_not.1 h, Classical.not_not.1 h2, by omega, by omega⟩
theorem bats_sm {ts : List FT} {rows : List VT} {n : Nat} {bs bs2 : List BatT} (H : RowsOk ts rows) (h1 : BsOf id ts rows n bs) (h2 : BsOf (List.map nz) ts rows n bs2) {i : Nat} {b c : BatT} (hb : bs[i]? = some b) (hc : bs2[i]? = some c) :
    b.n = c.n ∧ b.cs.length = ts.length ∧ c.cs.length = ts.length ∧ ∀ (k : Nat) (v u : VecT), b.cs[k]? = some v → c.cs[k]? = some u → VecT.Sm v u := by
  obtain ⟨e1, e2, e3⟩ := h1 i b hb
  obtain ⟨f1, f2, f3⟩ := h2 i c hc
  refine ⟨e1.trans f1.symm, e2, f2, fun k v u hv hu => ?_⟩
  obtain ⟨t, ht, hvo⟩ := e3 k v hv
  obtain ⟨t', ht', huo⟩ := f3 k u hu
  rw [ht] at ht'
  cases ht'
  exact VecOf.sm (l := Col (chunkAt rows n i) k) hvo huo (nz_smL (col_check (H.chunk n i) ht))
set_option maxRecDepth 100000 in
set_option maxHeartbeats 8000000 in
theorem lawE_any (TA RA : Option Addr) (tcap rcap flen len : Nat) (n : Int) (ts : List FT) (rows : List VT) (B : Nat) (w : World) (htr : FT.TRow B w TA tcap ts) (hr : VT.RRow B w RA rcap rows) (hT : Tabs B w) (hB : B ≤ w.heap.size) (hflen : Hid (ts.length = flen)) (hlen : Hid (rows.length = len)) (hmax : len ≤ 1048576) :
    Calls Tryz.prog 3 #[.slice TA flen tcap, .slice RA len rcap, .int .i64 n] w fun e w' => e = .returned (.bool true) ∧ Below w.heap.size w w' := by
  have hA := Lib.hid (eBatches_any TA RA tcap rcap flen len n ts rows B w htr hr hT hB hflen hlen hmax)
  have hS : ∀ W, Below w.heap.size w W → Same B w W ∧ B ≤ W.heap.size := fun W h => ⟨Same.mono (Same.of_below h) hB, Nat.le_trans hB h.size⟩
  have hR := Lib.hid (fun W (h : Below w.heap.size w W) => rBatches_any TA RA tcap rcap flen len n ts rows B W (htr.keep (hS W h).1) (hr.keep (hS W h).1) (hT.keep (hS W h).1) (hS W h).2 hflen hlen hmax)
  have HS := Lib.hid hS
  have Htr := Lib.hid htr
  have Hr := Lib.hid hr
  have HT := Lib.hid hT
  clear htr hr hT hS
  by_cases h0 : batchS ts rows n = 0
  rotate_left
  · have n0 : (batchS ts rows n != 0) = true := by simpa using h0
    have H0 := Lib.hid h0
    clear h0
    go_enter Tryz.func3, Tryz.ntmps3
    go_wp2_with fail
    refine hA.out.mono ?_
    rintro e w1 ⟨A, cap, bs, rfl, hb1, _, _, hno⟩
    obtain rfl := hno H0.out
    clear hno
    go_wp2_with fail
    refine (hR.out w1 hb1).mono ?_
    rintro e w2 ⟨A2, cap2, bs2, rfl, hb2, _, _, hno⟩
    obtain rfl := hno H0.out
    have hbF : Below w.heap.size w w2 := hb1.trans (hb2.mono hb1.size)
    clear hno
    go_wp2
    go_loopw [39] (fun i wr => i = .int .i64 0 ∧ wr = w2) (fun _ _ => 0)
    case atStart => exact ⟨rfl, rfl⟩
    case round =>
      obtain ⟨rfl, rfl⟩ := hrel
      go_wp2
      go_ret
      exact ⟨rfl, hbF⟩
  obtain ⟨ht0, hr0, hn1, hn2⟩ := batchS_ok h0
  obtain ⟨size, rfl⟩ : ∃ m : Nat, n = (m : Int) := ⟨n.toNat, by omega⟩
  have hok : RowsOk ts rows := rowsS_ok hr0
  have H0 := Lib.hid h0
  have Ht0 := Lib.hid ht0
  have Hok := Lib.hid hok
  clear h0 ht0 hr0 hok
  go_enter Tryz.func3, Tryz.ntmps3
  go_wp2_with fail
  refine hA.out.mono ?_
  rintro e w1 ⟨A, cap, bs, rfl, hb1, hmod1, hok1, _⟩
  rw [H0.out]
  obtain ⟨hof1, hbl1⟩ := hok1 H0.out
  obtain ⟨g1, in1⟩ := hmod1 w1 (Keeps.refl _ _) (HS.out w1 hb1).1
  rw [Int.toNat_natCast] at hof1 hbl1
  have Hof1 := Lib.hid hof1
  have Hbl1 := Lib.hid hbl1
  have Hg1 := Lib.hid g1
  have Hin1 := Lib.hid in1
  clear hmod1 hok1 hof1 hbl1 g1 in1 hA
  go_wp2_with fail
  refine (hR.out w1 hb1).mono ?_
  rintro e w2 ⟨A2, cap2, bs2, rfl, hb2, hmod2, hok2, _⟩
  rw [H0.out]
  obtain ⟨hof2, hbl2⟩ := hok2 H0.out
  obtain ⟨g2, in2⟩ := hmod2 w2 (Keeps.refl _ _) (Same.mono (Same.of_below hb2) (HS.out w1 hb1).2)
  rw [Int.toNat_natCast] at hof2 hbl2
  have hbF : Below w.heap.size w w2 := hb1.trans (hb2.mono hb1.size)
  obtain ⟨K, hK⟩ : ∃ K, bs.length = K := ⟨_, rfl⟩
  have hK2 : bs2.length = K := by rw [← hK]; exact (hbl2.unique Hbl1.out)
  have hKl : K ≤ 9223372036854775807 := by rw [← hK]; exact Nat.le_trans Hg1.out.1 Hg1.out.2.1
  have hG1 : Hid (∀ W, Below w2.heap.size w2 W → GRow BatT.c 4 w2.heap.size W A cap bs ∧ ∀ b, b ∈ bs → BatT.In w2.heap.size W b) := fun W h => by
    have hs : Same w1.heap.size w1 W := (Same.of_below hb2).trans (Same.mono (Same.of_below h) hb2.size)
    exact ⟨(Hg1.out.keep hs).more hb2.size, fun b hb => ((Hin1.out b hb).keep hs).more hb2.size⟩
  have hG2 : Hid (∀ W, Below w2.heap.size w2 W → GRow BatT.c 4 w2.heap.size W A2 cap2 bs2 ∧ ∀ b, b ∈ bs2 → BatT.In w2.heap.size W b) := fun W h => ⟨g2.keep (Same.of_below h), fun b hb => (in2 b hb).keep (Same.of_below h)⟩
  have Hof2 := Lib.hid hof2
  have HK := Lib.hid hK
  have HK2 := Lib.hid hK2
  have HbF := Lib.hid hbF
  rw [hK, hK2]
  clear hmod2 hok2 hof2 hbl2 g2 in2 hK hK2 hbF hR
  go_wp2
  go_loopw [39] (fun i wr => ∃ j : Nat, j ≤ K ∧ i = .int .i64 j ∧ Below w2.heap.size w2 wr) (fun i _ => K - (intOf i).toNat)
  case atStart => exact ⟨0, Nat.zero_le _, rfl, Below.refl _ _⟩
  case round =>
    obtain ⟨j, hj, rfl, hb⟩ := hrel
    obtain ⟨r1, q1⟩ := hG1.out wr hb
    obtain ⟨r2, q2⟩ := hG2.out wr hb
    have hz := hb.size
    have hbwr : Below w.heap.size w wr := HbF.out.trans (hb.mono HbF.out.size)
    by_cases hlt : j < K
    · obtain ⟨b, ad, hx, rfl, hab, hat⟩ := r1.get (show j < bs.length by rw [HK.out]; exact hlt)
      obtain ⟨c, ad2, hy, rfl, hab2, hat2⟩ := r2.get (show j < bs2.length by rw [HK2.out]; exact hlt)
      obtain ⟨e1, e2, e3, e4⟩ := bats_sm Hok.out Hof1.out Hof2.out hx hy
      have s1 := q1 b (mem_of_get? hx)
      have s2 := q2 c (mem_of_get? hy)
      obtain ⟨bn, CA, ccap, cs⟩ := b
      obtain ⟨cn, CA2, ccap2, ds⟩ := c
      simp only at e1 e2 e3 e4
      subst e1
      rw [hflen.out] at e2 e3
      have d0 : wr.cell? (ad.add (j * 4)) = some (.int .i64 bn) := hat 0 _ rfl
      have d1 : wr.cell? ⟨(ad.add (j * 4)).block, (ad.add (j * 4)).off + 1, none⟩ = some (.slice CA flen ccap) := by rw [← add_off2 _ 1 (by decide), ← e2]; exact hat 1 _ rfl
      have d2 : wr.cell? ⟨(ad.add (j * 4)).block, (ad.add (j * 4)).off + 2, none⟩ = some (.bool true) := by rw [← add_off2 _ 2 (by decide)]; exact hat 2 _ rfl
      have d3 : wr.cell? ⟨(ad.add (j * 4)).block, (ad.add (j * 4)).off + 3, none⟩ = some (.slice none 0 0) := by rw [← add_off2 _ 3 (by decide)]; exact hat 3 _ rfl
      have c0 : wr.cell? (ad2.add (j * 4)) = some (.int .i64 bn) := hat2 0 _ rfl
      have c1 : wr.cell? ⟨(ad2.add (j * 4)).block, (ad2.add (j * 4)).off + 1, none⟩ = some (.slice CA2 flen ccap2) := by rw [← add_off2 _ 1 (by decide), ← e3]; exact hat2 1 _ rfl
      have c2 : wr.cell? ⟨(ad2.add (j * 4)).block, (ad2.add (j * 4)).off + 2, none⟩ = some (.bool true) := by rw [← add_off2 _ 2 (by decide)]; exact hat2 2 _ rfl
      have c3 : wr.cell? ⟨(ad2.add (j * 4)).block, (ad2.add (j * 4)).off + 3, none⟩ = some (.slice none 0 0) := by rw [← add_off2 _ 3 (by decide)]; exact hat2 3 _ rfl
      have hic := Lib.hid (lbatches_sm CA CA2 ccap ccap2 bn flen cs ds w2.heap.size wr.drew (s1.1.keep (fun _ _ => rfl)) (s2.1.keep (fun _ _ => rfl)) (fun v hv => (s1.2 v hv).keep (fun _ _ => rfl)) (fun v hv => (s2.2 v hv).keep (fun _ _ => rfl)) hz e2 e3 e4)
      clear hx hy hat hat2 e2 e3 e4 s1 s2 r1 r2 q1 q2
      go_wp2_with fail
      (generalize hA0 : Act.mk _ _ = A0; refine wp_region_still_tail 8 (by kernel_rfl) (by kernel_rfl) ?_; simp only [List.take_succ_cons, List.take_zero, List.drop_succ_cons, List.drop_zero]; (iterate 8 (refine st_want (by rw [← hA0]; rfl) (fun K hK => ?_); subst hA0; go_simp; generalize hA0 : Act.mk _ _ = A0; refine hK A0 ?_; clear hK K)); refine wpStill_nil ?_; subst hA0)
      change wpList _ _ _ _ _ wr.drew
      go_wp2_with fail
      refine hic.out.mono ?_
      rintro e w' ⟨rfl, hb3⟩
      go_wp2
      go_roundw
      case rel => exact ⟨j + 1, by omega, by go_num, hb.drew.trans (hb3.mono hz)⟩
      case measure => simp [intOf]; omega
    · obtain rfl : j = K := by omega
      obtain ⟨t1, t2⟩ := HS.out wr hbwr
      have hbs : B ≤ w2.heap.size := (HS.out w2 HbF.out).2
      have hrs := Lib.hid (eRows_ok TA A tcap cap flen j size ts rows bs w2.heap.size wr (TRow_more (Htr.out.keep t1) hbs) r1 q1 (tabs_more (HT.out.keep t1) hbs) hz hflen HK.out Ht0.out Hok.out (by omega) (by rw [hlen.out]; exact hmax) Hof1.out (by rw [← HK.out]; exact Hbl1.out))
      clear r1 q1 r2 q2
      go_wp2_with fail
      refine hrs.out.mono ?_
      rintro e w4 ⟨A4, cap4, R, rfl, hb4, hR4, hRl, hRs⟩
      have hb4w : Below w.heap.size w w4 := hbwr.trans (hb4.mono hbwr.size)
      obtain ⟨t3, t4⟩ := HS.out w4 hb4w
      have hRl' : R.length = len := hRl.trans hlen.out
      have hsm := Lib.hid (lsame_sm A4 RA cap4 rcap len R rows w4.heap.size w4 hR4 (RRow_more (Hr.out.keep t3) t4) (Nat.le_refl _) hRl' hlen (fun q x y hx hy => (hRs q x y hx hy).symm))
      rw [hRl']
      clear hR4 hRl hRs hRl' hrs
      go_wp2_with fail
      refine hsm.out.mono ?_
      rintro e w5 ⟨rfl, hb5⟩
      go_wp2
      go_ret
      exact ⟨rfl, hb4w.trans (hb5.mono hb4w.size)⟩
end Go.Proofs.YtkadahfknccjfaaGreatDoor
