/-
  The reference of package plan: sameKeys, sameAggs.
-/
import Derived.Test.YthijagpnpcpcbaaGreatQGtD
namespace Go.Proofs.YthijagpnpcpcbaaGreat
open Go.RowKit Go.Sort
theorem wpQuiet_load_sg {P : Program} {C : World → Prop} {ops : Array Oper} {rest : List Oper} {o : Oper} {a : Act} {Q : Act → Prop} (hw : Region.wanted o (yielded ops a.tmps) = true) (t : TypeId) (x : Operand) (ho : o.op = .load t x) (d : TypeDesc)
    (hu : P.underlying t = some d) (hd : d.isRow = true) (ad : Addr) (cs : List Value) (hi : (P.info? t).map (·.size) = some cs.length) (hx : a.eval x = .pointer (some ad)) (hc : ∀ w, C w → ∀ j u, cs[j]? = some u → w.cell? (ad.add j) = some u)
    (h : wpQuiet P ops C Q rest (a.put o.dst (.agg cs.toArray))) : wpQuiet P ops C Q (o :: rest) a := by
  refine wpQuiet_step fun K hK => ?_
  rw [if_pos hw]
  refine ⟨.agg cs.toArray, fun w hw => ?_, hK _ h⟩
  unfold Oper.quietAt execOp
  simp only [ho, hx, Sem.run_bind, run_loadAt_st w t d ad cs (hc w hw) hu hd hi, Result.andThen_ok]
  exact ⟨rfl, rfl⟩
theorem ulen2 {α : Type} : ∀ {l : List α}, l.length = 2 → ∃ a b, l = [a, b]
  | [a, b], _ => ⟨a, b, rfl⟩
/-- An aggregate, taken apart. -/
theorem UIn.ag {S : Nat → Prop} {w : World} {d : DT} (h : UIn S w .agg d) : ∃ (k p : Int) (ds : Bool) (A : Option Addr) (cap : Nat) (l : List DT) (B : Option Addr) (bcap : Nat) (m : List DT), d = .node [.int .i64 k, .int .i64 p, .bool ds, .slice A l.length cap, .slice B m.length bcap] [l, m] ∧ (I64 k ∧ I64 p) ∧
    DRow S w 14 A cap l ∧ (∀ x, x ∈ l → UIn S w .expr x) ∧ DRow S w 14 B bcap m ∧ ∀ x, x ∈ m → UIn S w .expr x := by
  cases h with
  | mk _ c kk hl h1 hok hk hr hx =>
    obtain ⟨l, m, rfl⟩ := ulen2 hk
    obtain ⟨k, p, ds, v3, v4, rfl, ok⟩ := hok
    obtain ⟨A, cap, e, r⟩ := hr 0 3 .expr l rfl rfl
    obtain ⟨B, bcap, e2, r2⟩ := hr 1 4 .expr m rfl rfl
    simp at e e2
    subst e e2
    exact ⟨k, p, ds, A, cap, l, B, bcap, m, rfl, ok, r, hx 0 3 .expr l rfl rfl, r2, hx 1 4 .expr m rfl rfl⟩
theorem USm.ag {k k2 p p2 : Int} {ds ds2 : Bool} {v v' v2 v2' : Value} {l m l2 m2 : List DT} (h : USm .agg (.node [.int .i64 k, .int .i64 p, .bool ds, v, v'] [l, m]) (.node [.int .i64 k2, .int .i64 p2, .bool ds2, v2, v2'] [l2, m2])) : k = k2 ∧ p = p2 ∧ ds = ds2 ∧ USL .expr l l2 ∧ USL .expr m m2 := by
  cases h with
  | mk _ _ _ _ _ hc he hk hl hx =>
    have h0 := he 0 (by intro s hs; simp [Uy.sl] at hs)
    have h1 := he 1 (by intro s hs; simp [Uy.sl] at hs)
    have h2 := he 2 (by intro s hs; simp [Uy.sl] at hs)
    simp at h0 h1 h2
    exact ⟨h0, h1, h2, ⟨hl 0 l l2 rfl rfl, hx 0 3 .expr l l2 rfl rfl rfl⟩, hl 1 m m2 rfl rfl, hx 1 4 .expr m m2 rfl rfl rfl⟩
/-- A key, taken apart. -/
theorem UIn.ky {S : Nat → Prop} {w : World} {d : DT} (h : UIn S w .key d) : UIn S w .expr (keyE d) ∧ ∃ dn fi : Bool, d.c[14]? = some (.bool dn) ∧ d.c[15]? = some (.bool fi) := by
  cases h with
  | mk _ c kk hl h1 hok hk hr hx =>
    obtain ⟨a, v6, v11, v12, v13, dn, fi, rfl, ok⟩ := hok
    refine ⟨.mk .expr _ kk rfl (fun u hu => h1 u (List.mem_of_mem_take hu)) ⟨a, v6, v11, v12, v13, rfl, ok⟩ hk (fun i o s m h2 h3 => ?_) hx, dn, fi, rfl, rfl⟩
    obtain ⟨A, cap, e, r⟩ := hr i o s m h2 h3
    refine ⟨A, cap, ?_, r⟩
    have ho : o < 14 := by
      have : (o, s) ∈ Uy.sl .expr := List.mem_of_getElem? h2
      simp [Uy.sl] at this
      omega
    show ([_, _, _, _, _, _, _, _, _, _, _, _, _, _, _, _].take 14)[o]? = _
    rw [List.getElem?_take, if_pos ho]
    exact e
theorem USm.ky {x y : DT} (h : USm .key x y) : USm .expr (keyE x) (keyE y) ∧ x.c[14]? = y.c[14]? ∧ x.c[15]? = y.c[15]? := by
  cases h with
  | mk _ c c' kk kk' hc he hk hl hx =>
    refine ⟨.mk .expr _ _ kk kk' (by simp [DT.c, hc]) (fun j hj => ?_) hk hl hx, he 14 (by intro s hs; simp [Uy.sl] at hs), he 15 (by intro s hs; simp [Uy.sl] at hs)⟩
    show (c.take 14)[j]? = (c'.take 14)[j]?
    rw [List.getElem?_take, List.getElem?_take]
    split
    · exact he j hj
    · rfl
theorem keyE_n (x : DT) : (keyE x).n = x.n := by
  obtain ⟨c, k⟩ := x
  show (DT.node (c.take 14) k).n = _
  rw [DT.n_node, DT.n_node]
set_option maxRecDepth 100000 in
set_option maxHeartbeats 8000000 in
theorem rsameAggs_any (l m : List DT) (A A2 : Option Addr) (cap cap2 : Nat) (w : World) (hlm : USL .agg l m) (rl : DRow (Lv w) w 5 A cap l) (il : ∀ x, x ∈ l → UIn (Lv w) w .agg x) (rm : DRow (Lv w) w 5 A2 cap2 m) (im : ∀ x, x ∈ m → UIn (Lv w) w .agg x)
    (hcal : ∀ x, x ∈ l → ∀ z, z ∈ x.kid 0 ∨ z ∈ x.kid 1 → SmC 7 .expr z) : Calls Tryz.prog 45 #[.slice A l.length cap, .slice A2 m.length cap2] w (Tru w) := by
  obtain ⟨len, hlen⟩ : ∃ q, l.length = q := ⟨_, rfl⟩
  have hlen2 : m.length = len := by rw [← hlm.1]; exact hlen
  have hll := rl.len_le
  rw [hlen] at hll ⊢
  rw [hlen2]
  have Rl := Lib.hid rl
  have Rm := Lib.hid rm
  have Il := Lib.hid il
  have Im := Lib.hid im
  have Hlm := Lib.hid hlm
  have Hlen := Lib.hid hlen
  have Hlen2 := Lib.hid hlen2
  have Hcal := Lib.hid hcal
  clear rl rm il im hlm hlen hlen2 hcal
  go_enter Tryz.func45, Tryz.ntmps45
  go_wp2
  go_loopw [13] (fun i wr => ∃ j : Nat, j ≤ len ∧ i = .int .i64 j ∧ Below w.heap.size w wr) (fun i _ => len - (intOf i).toNat)
  case atStart => exact ⟨0, Nat.zero_le _, rfl, Below.refl _ _⟩
  case round =>
    obtain ⟨j, hj, rfl, hzr⟩ := hrel
    by_cases hlt : j < len
    · obtain ⟨x, ad, hx, rfl, hb, hat⟩ := (Rl.out.below hzr).get (show j < l.length by rw [Hlen.out]; exact hlt)
      obtain ⟨y, ad2, hy, rfl, hb2, hat2⟩ := (Rm.out.below hzr).get (show j < m.length by rw [Hlen2.out]; exact hlt)
      have hxm := mem_of_get? hx
      have hsm := Hlm.out.2 j x y hx hy
      obtain ⟨k, p, ds, A', cap', az, B', bcap', fz, rfl, _, ra, ia, rf, jf⟩ := ((Il.out x hxm).blw hzr).ag
      obtain ⟨k2, p2, ds2, A2', cap2', az2, B2', bcap2', fz2, rfl, _, ra2, ia2, rf2, jf2⟩ := ((Im.out y (mem_of_get? hy)).blw hzr).ag
      obtain ⟨rfl, rfl, rfl, h3, h4⟩ := hsm.ag
      have hc1 : Hid (∀ d os, Calls Tryz.prog 44 #[.slice A' az.length cap', .slice A2' az2.length cap2'] (grow (redrawn wr d) os) fun e w'' => e = .returned (.bool true) ∧ ∃ p : Regrown, w'' = grow (redrawn wr p.d) p.os) := fun d os => by
        have hb := below_regrown wr d os
        exact Calls.regrown_of (rsameExprs_any az az2 A' A2' cap' cap2' _ h3 (ra.below hb) (fun x hx => (ia x hx).blw hb) (ra2.below hb) (fun x hx => (ia2 x hx).blw hb) fun x hx => Hcal.out _ hxm x (.inl hx))
      have hc2 : Hid (∀ d os, Calls Tryz.prog 44 #[.slice B' fz.length bcap', .slice B2' fz2.length bcap2'] (grow (redrawn wr d) os) fun e w'' => e = .returned (.bool true) ∧ ∃ p : Regrown, w'' = grow (redrawn wr p.d) p.os) := fun d os => by
        have hb := below_regrown wr d os
        exact Calls.regrown_of (rsameExprs_any fz fz2 B' B2' bcap' bcap2' _ h4 (rf.below hb) (fun x hx => (jf x hx).blw hb) (rf2.below hb) (fun x hx => (jf2 x hx).blw hb) fun x hx => Hcal.out _ hxm x (.inr hx))
      have d0 := cell_regrown (show wr.cell? (ad.add (j * 5)) = some (.int .i64 k) from hat 0 _ rfl)
      have d1 := cell_regrown (show wr.cell? ⟨(ad.add (j * 5)).block, (ad.add (j * 5)).off + 1, none⟩ = some (.int .i64 p) from hat 1 _ rfl)
      have d2 := cell_regrown (show wr.cell? ⟨(ad.add (j * 5)).block, (ad.add (j * 5)).off + 2, none⟩ = some (.bool ds) from hat 2 _ rfl)
      have d3 := cell_regrown (show wr.cell? ⟨(ad.add (j * 5)).block, (ad.add (j * 5)).off + 3, none⟩ = some (.slice A' az.length cap') from hat 3 _ rfl)
      have d4 := cell_regrown (show wr.cell? ⟨(ad.add (j * 5)).block, (ad.add (j * 5)).off + 4, none⟩ = some (.slice B' fz.length bcap') from hat 4 _ rfl)
      have c0 := cell_regrown (show wr.cell? (ad2.add (j * 5)) = some (.int .i64 k) from hat2 0 _ rfl)
      have c1 := cell_regrown (show wr.cell? ⟨(ad2.add (j * 5)).block, (ad2.add (j * 5)).off + 1, none⟩ = some (.int .i64 p) from hat2 1 _ rfl)
      have c2 := cell_regrown (show wr.cell? ⟨(ad2.add (j * 5)).block, (ad2.add (j * 5)).off + 2, none⟩ = some (.bool ds) from hat2 2 _ rfl)
      have c3 := cell_regrown (show wr.cell? ⟨(ad2.add (j * 5)).block, (ad2.add (j * 5)).off + 3, none⟩ = some (.slice A2' az2.length cap2') from hat2 3 _ rfl)
      have c4 := cell_regrown (show wr.cell? ⟨(ad2.add (j * 5)).block, (ad2.add (j * 5)).off + 4, none⟩ = some (.slice B2' fz2.length bcap2') from hat2 4 _ rfl)
      clear hx hy hat hat2 hsm hxm h3 h4 ra ia rf jf ra2 ia2 rf2 jf2
      go_upto_region 6 with (fail)
      refine wp_region_quiet_below (by kernel_rfl) (by kernel_rfl) ?_
      repeat (quiet_step (with_reducible first | exact hc1.out _ _ | exact hc2.out _ _))
      refine wpQuiet_nil ?_
      intro _ hw'
      obtain ⟨⟨dq, osq⟩, hw''⟩ := hw'
      subst hw''
      have hb3 := below_regrown wr dq osq
      have hw1 : Sort.grow (redrawn wr (Regrown.mk dq osq).d) (Regrown.mk dq osq).os = Sort.grow (redrawn wr dq) osq := rfl
      rw [hw1]
      clear hw1 hc1 hc2 d0 d1 d2 d3 d4 c0 c1 c2 c3 c4
      generalize Sort.grow (redrawn wr dq) osq = W2 at hb3 ⊢
      go_wp2
      go_roundw
      case rel => exact ⟨j + 1, by omega, by go_num, hzr.trans (hb3.mono hzr.size)⟩
      case measure => simp [intOf]; omega
    · obtain rfl : j = len := by omega
      go_wp2
      go_ret
      exact ⟨rfl, hzr⟩
set_option maxRecDepth 100000 in
set_option maxHeartbeats 8000000 in
theorem rsameKeys_any (l m : List DT) (A A2 : Option Addr) (cap cap2 : Nat) (w : World) (hlm : USL .key l m) (rl : DRow (Lv w) w 16 A cap l) (il : ∀ x, x ∈ l → UIn (Lv w) w .key x) (rm : DRow (Lv w) w 16 A2 cap2 m) (im : ∀ x, x ∈ m → UIn (Lv w) w .key x)
    (hcal : ∀ x, x ∈ l → SmC 7 .expr (keyE x)) : Calls Tryz.prog 47 #[.slice A l.length cap, .slice A2 m.length cap2] w (Tru w) := by
  obtain ⟨len, hlen⟩ : ∃ q, l.length = q := ⟨_, rfl⟩
  have hlen2 : m.length = len := by rw [← hlm.1]; exact hlen
  have hll := rl.len_le
  rw [hlen] at hll ⊢
  rw [hlen2]
  have Rl := Lib.hid rl
  have Rm := Lib.hid rm
  have Il := Lib.hid il
  have Im := Lib.hid im
  have Hlm := Lib.hid hlm
  have Hlen := Lib.hid hlen
  have Hlen2 := Lib.hid hlen2
  have Hcal := Lib.hid hcal
  clear rl rm il im hlm hlen hlen2 hcal
  go_enter Tryz.func47, Tryz.ntmps47
  go_wp2
  go_loopw [13] (fun i wr => ∃ j : Nat, j ≤ len ∧ i = .int .i64 j ∧ Below w.heap.size w wr) (fun i _ => len - (intOf i).toNat)
  case atStart => exact ⟨0, Nat.zero_le _, rfl, Below.refl _ _⟩
  case round =>
    obtain ⟨j, hj, rfl, hzr⟩ := hrel
    by_cases hlt : j < len
    · obtain ⟨x, ad, hx, rfl, hb, hat⟩ := (Rl.out.below hzr).get (show j < l.length by rw [Hlen.out]; exact hlt)
      obtain ⟨y, ad2, hy, rfl, hb2, hat2⟩ := (Rm.out.below hzr).get (show j < m.length by rw [Hlen2.out]; exact hlt)
      have hxm := mem_of_get? hx
      obtain ⟨hse, e14, e15⟩ := (Hlm.out.2 j x y hx hy).ky
      obtain ⟨hxi, dn, fi, x14, x15⟩ := ((Il.out x hxm).blw hzr).ky
      obtain ⟨hyi, _, _, _, _⟩ := ((Im.out y (mem_of_get? hy)).blw hzr).ky
      have hsz1 : Hid ((Tryz.prog.info? 31).map (·.size) = some (keyE x).c.length) := by show _ = _; rw [hxi.len]; exact uSizeExpr
      have hsz2 : Hid ((Tryz.prog.info? 31).map (·.size) = some (keyE y).c.length) := by show _ = _; rw [hyi.len]; exact uSizeExpr
      have hcm : Hid (∀ d os, Calls Tryz.prog 7 #[.agg (keyE x).c.toArray, .agg (keyE y).c.toArray] (grow (redrawn wr d) os) fun e w'' => e = .returned (.bool true) ∧ ∃ p : Regrown, w'' = grow (redrawn wr p.d) p.os) := fun d os =>
        Calls.regrown_of (Hcal.out x hxm (keyE y) _ hse (hxi.blw (below_regrown wr d os)) (hyi.blw (below_regrown wr d os)))
      have pre : ∀ (z : DT) (i : Nat) (u : Value), (keyE z).c[i]? = some u → z.c[i]? = some u := fun z i u hu => by
        have : (z.c.take 14)[i]? = some u := hu
        rw [List.getElem?_take] at this
        split at this
        · exact this
        · cases this
      have l1 : Hid (∀ W, (∃ p : Regrown, W = grow (redrawn wr p.d) p.os) → ∀ i u, (keyE x).c[i]? = some u → W.cell? ((ad.add (j * 16)).add i) = some u) := fun W ⟨p, e⟩ i u hu => by rw [e]; exact cell_regrown (at_add hat i u (pre x i u hu)) _ _
      have l2 : Hid (∀ W, (∃ p : Regrown, W = grow (redrawn wr p.d) p.os) → ∀ i u, (keyE y).c[i]? = some u → W.cell? ((ad2.add (j * 16)).add i) = some u) := fun W ⟨p, e⟩ i u hu => by rw [e]; exact cell_regrown (at_add hat2 i u (pre y i u hu)) _ _
      have d14 := cell_regrown (show wr.cell? ⟨(ad.add (j * 16)).block, (ad.add (j * 16)).off + 14, none⟩ = some (.bool dn) from hat 14 _ x14)
      have d15 := cell_regrown (show wr.cell? ⟨(ad.add (j * 16)).block, (ad.add (j * 16)).off + 15, none⟩ = some (.bool fi) from hat 15 _ x15)
      have c14 := cell_regrown (show wr.cell? ⟨(ad2.add (j * 16)).block, (ad2.add (j * 16)).off + 14, none⟩ = some (.bool dn) from hat2 14 _ (e14.symm.trans x14))
      have c15 := cell_regrown (show wr.cell? ⟨(ad2.add (j * 16)).block, (ad2.add (j * 16)).off + 15, none⟩ = some (.bool fi) from hat2 15 _ (e15.symm.trans x15))
      clear hx hy hat hat2 hxi hyi hse hxm pre e14 e15 x14 x15
      go_upto_region 6 with (fail)
      refine wp_region_quiet_below (by kernel_rfl) (by kernel_rfl) ?_
      repeat (first
        | (refine wpQuiet_load_sg (by rfl) 31 _ rfl _ Tryz.underlying31 rfl (ad.add (j * 16)) (keyE x).c hsz1.out rfl l1.out ?_)
        | (refine wpQuiet_load_sg (by rfl) 31 _ rfl _ Tryz.underlying31 rfl (ad2.add (j * 16)) (keyE y).c hsz2.out rfl l2.out ?_)
        | quiet_step (with_reducible first | exact hcm.out _ _))
      refine wpQuiet_nil ?_
      intro _ hw'
      obtain ⟨⟨dq, osq⟩, hw''⟩ := hw'
      subst hw''
      have hb3 := below_regrown wr dq osq
      have hw1 : Sort.grow (redrawn wr (Regrown.mk dq osq).d) (Regrown.mk dq osq).os = Sort.grow (redrawn wr dq) osq := rfl
      rw [hw1]
      clear hw1 hcm l1 l2 d14 d15 c14 c15
      generalize Sort.grow (redrawn wr dq) osq = W2 at hb3 ⊢
      go_wp2
      go_roundw
      case rel => exact ⟨j + 1, by omega, by go_num, hzr.trans (hb3.mono hzr.size)⟩
      case measure => simp [intOf]; omega
    · obtain rfl : j = len := by omega
      go_wp2
      go_ret
      exact ⟨rfl, hzr⟩
end Go.Proofs.YthijagpnpcpcbaaGreat

