/-
  The reference of package plan: sameType, sameTypes.
  The reference of package plan: sameTypes, sameExprs, sameKeys, sameAggs.
-/
import Derived.Test.YthijagpnpcpcbaaGreatQGtB
namespace Go.Proofs.YthijagpnpcpcbaaGreat
open Go.RowKit Go.Sort
/-- A field, taken apart. -/
theorem UIn.fld {S : Nat → Prop} {w : World} {d : DT} (h : UIn S w .field d) : ∃ (id k sc : Int) (nm : ByteArray) (nd : Bool) (A : Option Addr) (cap : Nat) (l : List DT), d = .node [.int .i64 id, .string nm, .bool nd, .int .i64 k, .int .i64 sc, .slice A l.length cap] [l] ∧ (I64 id ∧ nm.size ≤ maxLen ∧ I64 k ∧ I64 sc) ∧ DRow S w 6 A cap l ∧ ∀ x, x ∈ l → UIn S w .field x := by
  cases h with
  | mk _ c kk hl h1 hok hk hr hx =>
    obtain ⟨l, rfl⟩ := ulen1 hk
    obtain ⟨id, nm, nd, k, sc, v5, rfl, ok⟩ := hok
    obtain ⟨A, cap, e, r⟩ := hr 0 5 .field l rfl rfl
    simp at e
    subst e
    exact ⟨id, k, sc, nm, nd, A, cap, l, rfl, ok, r, hx 0 5 .field l rfl rfl⟩
theorem USm.fld {id id2 k k2 sc sc2 : Int} {nm nm2 : ByteArray} {nd nd2 : Bool} {v v2 : Value} {l m : List DT} (h : USm .field (.node [.int .i64 id, .string nm, .bool nd, .int .i64 k, .int .i64 sc, v] [l]) (.node [.int .i64 id2, .string nm2, .bool nd2, .int .i64 k2, .int .i64 sc2, v2] [m])) : id = id2 ∧ nm = nm2 ∧ nd = nd2 ∧ k = k2 ∧ sc = sc2 ∧ USL .field l m := by
  cases h with
  | mk _ _ _ _ _ hc he hk hl hx =>
    have h0 := he 0 (by intro s hs; simp [Uy.sl] at hs)
    have h1 := he 1 (by intro s hs; simp [Uy.sl] at hs)
    have h2 := he 2 (by intro s hs; simp [Uy.sl] at hs)
    have h3 := he 3 (by intro s hs; simp [Uy.sl] at hs)
    have h4 := he 4 (by intro s hs; simp [Uy.sl] at hs)
    simp at h0 h1 h2 h3 h4
    exact ⟨h0, h1, h2, h3, h4, hl 0 l m rfl rfl, hx 0 5 .field l m rfl rfl rfl⟩
/-- A type, taken apart. -/
theorem UIn.typ {S : Nat → Prop} {w : World} {d : DT} (h : UIn S w .type d) : ∃ (k sc : Int) (A : Option Addr) (cap : Nat) (l : List DT), d = .node [.int .i64 k, .int .i64 sc, .slice A l.length cap] [l] ∧ (I64 k ∧ I64 sc) ∧ DRow S w 6 A cap l ∧ ∀ x, x ∈ l → UIn S w .field x := by
  cases h with
  | mk _ c kk hl h1 hok hk hr hx =>
    obtain ⟨l, rfl⟩ := ulen1 hk
    obtain ⟨k, sc, v2, rfl, ok⟩ := hok
    obtain ⟨A, cap, e, r⟩ := hr 0 2 .field l rfl rfl
    simp at e
    subst e
    exact ⟨k, sc, A, cap, l, rfl, ok, r, hx 0 2 .field l rfl rfl⟩
theorem USm.typ {k k2 sc sc2 : Int} {v v2 : Value} {l m : List DT} (h : USm .type (.node [.int .i64 k, .int .i64 sc, v] [l]) (.node [.int .i64 k2, .int .i64 sc2, v2] [m])) : k = k2 ∧ sc = sc2 ∧ USL .field l m := by
  cases h with
  | mk _ _ _ _ _ hc he hk hl hx =>
    have h0 := he 0 (by intro s hs; simp [Uy.sl] at hs)
    have h1 := he 1 (by intro s hs; simp [Uy.sl] at hs)
    simp at h0 h1
    exact ⟨h0, h1, hl 0 l m rfl rfl, hx 0 2 .field l m rfl rfl rfl⟩
set_option maxRecDepth 100000 in
set_option maxHeartbeats 4000000 in
/-- Types whose fields are those of a struct. -/
theorem rsameType_at : ∀ (d : DT) (l m : List DT) (k sc : Int) (A A2 : Option Addr) (cap cap2 : Nat) (w : World), d.k = [l] → USL .field l m → DRow (Lv w) w 6 A cap l → (∀ x, x ∈ l → UIn (Lv w) w .field x) → DRow (Lv w) w 6 A2 cap2 m → (∀ x, x ∈ m → UIn (Lv w) w .field x) →
    Calls Tryz.prog 23 #[.agg #[.int .i64 k, .int .i64 sc, .slice A l.length cap], .agg #[.int .i64 k, .int .i64 sc, .slice A2 m.length cap2]] w fun e w' => e = .returned (.bool true) ∧ Below w.heap.size w w' := by
  refine DT.ind fun c kk ih l m k sc A A2 cap cap2 w hd hlm rl il rm im => ?_
  have hih := Lib.hid (ih l (by rw [show kk = [l] from hd]; simp))
  obtain ⟨len, hlen⟩ : ∃ q, l.length = q := ⟨_, rfl⟩
  have hlen2 : m.length = len := by rw [← hlm.1]; exact hlen
  have hll := rl.len_le
  rw [hlen] at hll ⊢
  rw [hlen2]
  obtain ⟨W0, hW0⟩ : ∃ W0, (w.alloc (.cells #[.int .i64 k, .int .i64 sc, .slice A len cap] 24)).alloc (.cells #[.int .i64 k, .int .i64 sc, .slice A2 len cap2] 24) = W0 := ⟨_, rfl⟩
  have hbw : Below w.heap.size w W0 := by rw [← hW0]; exact bel2 _ _ _
  have hz0 : W0.heap.size = w.heap.size + 2 := by rw [← hW0]; simp
  have p0 : W0.cell? ⟨w.heap.size, 0, none⟩ = some (.int .i64 k) := by rw [← hW0]; simp
  have p1 : W0.cell? ⟨w.heap.size, 1, none⟩ = some (.int .i64 sc) := by rw [← hW0]; simp
  have p2 : W0.cell? ⟨w.heap.size, 2, none⟩ = some (.slice A len cap) := by rw [← hW0]; simp
  have q0 : W0.cell? ⟨w.heap.size + 1, 0, none⟩ = some (.int .i64 k) := by rw [← hW0]; simp
  have q1 : W0.cell? ⟨w.heap.size + 1, 1, none⟩ = some (.int .i64 sc) := by rw [← hW0]; simp
  have q2 : W0.cell? ⟨w.heap.size + 1, 2, none⟩ = some (.slice A2 len cap2) := by rw [← hW0]; simp
  have hk2 : Hid (∀ W, Below W0.heap.size W0 W → W.cell? ⟨w.heap.size + 1, 2, none⟩ = some (.slice A2 len cap2)) := fun W h =>
    (h.cell (p := ⟨w.heap.size + 1, 2, none⟩) (by show w.heap.size + 1 < _; omega)).trans q2
  have HW0 := Lib.hid hW0
  have Hbw := Lib.hid hbw
  have Hz0 := Lib.hid hz0
  have Rl := Lib.hid rl
  have Rm := Lib.hid rm
  have Il := Lib.hid il
  have Im := Lib.hid im
  have Hlm := Lib.hid hlm
  have Hlen := Lib.hid hlen
  have Hlen2 := Lib.hid hlen2
  clear hW0 hbw hz0 rl rm il im hlm hlen hlen2 ih hd
  go_enter Tryz.func23, Tryz.ntmps23
  go_upto_region 1 with (fail)
  rw [HW0.out]
  go_wp2
  clear p0 p1 p2 q0 q1 q2
  go_loopw [32] (fun i wr => ∃ j : Nat, j ≤ len ∧ i = .int .i64 j ∧ Below W0.heap.size W0 wr) (fun i _ => len - (intOf i).toNat)
  case atStart => exact ⟨0, Nat.zero_le _, rfl, Below.refl _ _⟩
  case round =>
    obtain ⟨j, hj, rfl, hbr⟩ := hrel
    have Hbr := Lib.hid hbr
    have hzr : Below w.heap.size w wr := Hbw.out.trans (hbr.mono (by have := Hz0.out; omega))
    clear hbr
    by_cases hlt : j < len
    · obtain ⟨x, ad, hx, rfl, hb, hat⟩ := (Rl.out.below hzr).get (show j < l.length by rw [Hlen.out]; exact hlt)
      obtain ⟨y, ad2, hy, rfl, hb2, hat2⟩ := (Rm.out.below hzr).get (show j < m.length by rw [Hlen2.out]; exact hlt)
      have hxm := mem_of_get? hx
      have hsm := Hlm.out.2 j x y hx hy
      obtain ⟨id, k', sc', nm, nd, A', cap', l', rfl, _, rl', il'⟩ := ((Il.out x hxm).blw hzr).fld
      obtain ⟨id2, k2', sc2', nm2, nd2, A2', cap2', m', rfl, _, rm', im'⟩ := ((Im.out y (mem_of_get? hy)).blw hzr).fld
      obtain ⟨rfl, rfl, rfl, rfl, rfl, hlm'⟩ := hsm.fld
      obtain ⟨W4, hW4⟩ : ∃ W4, (wr.alloc (.cells #[.int .i64 id, .string nm, .bool nd, .int .i64 k', .int .i64 sc', .slice A' l'.length cap'] 79)).alloc (.cells #[.int .i64 id, .string nm, .bool nd, .int .i64 k', .int .i64 sc', .slice A2' m'.length cap2'] 79) = W4 := ⟨_, rfl⟩
      have hb4 : Below wr.heap.size wr W4 := by rw [← hW4]; exact bel2 _ _ _
      have hcm := Lib.hid (hih.out _ hxm l' m' k' sc' A' A2' cap' cap2' W4 rfl hlm' (rl'.below hb4) (fun x hx => (il' x hx).blw hb4) (rm'.below hb4) (fun x hx => (im' x hx).blw hb4))
      have d0 : wr.cell? (ad.add (j * 6)) = some (.int .i64 id) := hat 0 _ rfl
      have d1 : wr.cell? ⟨(ad.add (j * 6)).block, (ad.add (j * 6)).off + 1, none⟩ = some (.string nm) := hat 1 _ rfl
      have d2 : wr.cell? ⟨(ad.add (j * 6)).block, (ad.add (j * 6)).off + 2, none⟩ = some (.bool nd) := hat 2 _ rfl
      have d3 : wr.cell? ⟨(ad.add (j * 6)).block, (ad.add (j * 6)).off + 3, none⟩ = some (.int .i64 k') := hat 3 _ rfl
      have d4 : wr.cell? ⟨(ad.add (j * 6)).block, (ad.add (j * 6)).off + 4, none⟩ = some (.int .i64 sc') := hat 4 _ rfl
      have d5 : wr.cell? ⟨(ad.add (j * 6)).block, (ad.add (j * 6)).off + 5, none⟩ = some (.slice A' l'.length cap') := hat 5 _ rfl
      have c0 := cell_old (hat2 0 _ rfl) (.cells #[.int .i64 id, .string nm, .bool nd, .int .i64 k', .int .i64 sc', .slice A' l'.length cap'] 79)
      have c1 := cell_old (hat2 1 _ rfl) (.cells #[.int .i64 id, .string nm, .bool nd, .int .i64 k', .int .i64 sc', .slice A' l'.length cap'] 79)
      have c2 := cell_old (hat2 2 _ rfl) (.cells #[.int .i64 id, .string nm, .bool nd, .int .i64 k', .int .i64 sc', .slice A' l'.length cap'] 79)
      have c3 := cell_old (hat2 3 _ rfl) (.cells #[.int .i64 id, .string nm, .bool nd, .int .i64 k', .int .i64 sc', .slice A' l'.length cap'] 79)
      have c4 := cell_old (hat2 4 _ rfl) (.cells #[.int .i64 id, .string nm, .bool nd, .int .i64 k', .int .i64 sc', .slice A' l'.length cap'] 79)
      have c5 := cell_old (hat2 5 _ rfl) (.cells #[.int .i64 id, .string nm, .bool nd, .int .i64 k', .int .i64 sc', .slice A' l'.length cap'] 79)
      simp only [Nat.reduceEqDiff, if_false, if_true] at c0 c1 c2 c3 c4 c5
      have g2 := cell_old (hk2.out wr Hbr.out) (.cells #[.int .i64 id, .string nm, .bool nd, .int .i64 k', .int .i64 sc', .slice A' l'.length cap'] 79)
      have HW4 := Lib.hid hW4
      have Hb4 := Lib.hid hb4
      clear hx hy hat hat2 hsm hxm hlm' rl' il' rm' im' hW4 hb4
      go_wp2_with fail
      rw [HW4.out]
      refine hcm.out.mono ?_
      rintro e w' ⟨rfl, hb5⟩
      clear d0 d1 d2 d3 d4 d5 c0 c1 c2 c3 c4 c5 g2
      go_wp2
      go_roundw
      case rel => exact ⟨j + 1, by omega, by go_num, Hbr.out.trans ((Hb4.out.trans (hb5.mono Hb4.out.size)).mono Hbr.out.size)⟩
      case measure => simp [intOf]; omega
    · obtain rfl : j = len := by omega
      go_wp2
      go_ret
      exact ⟨rfl, hzr⟩
theorem rsameType_sm (x y : DT) (w : World) (hs : USm .type x y) (hx : UIn (Lv w) w .type x) (hy : UIn (Lv w) w .type y) :
    Calls Tryz.prog 23 #[.agg x.c.toArray, .agg y.c.toArray] w fun e w' => e = .returned (.bool true) ∧ Below w.heap.size w w' := by
  obtain ⟨k, sc, A, cap, l, rfl, _, rl, il⟩ := hx.typ
  obtain ⟨k2, sc2, A2, cap2, m, rfl, _, rm, im⟩ := hy.typ
  obtain ⟨rfl, rfl, hlm⟩ := hs.typ
  exact rsameType_at (.node [] [l]) l m k sc A A2 cap cap2 w rfl hlm rl il rm im
theorem uSizeType : (Tryz.prog.info? 24).map (·.size) = some 3 := by kernel_rfl
end Go.Proofs.YthijagpnpcpcbaaGreat
namespace Go.Proofs.YthijagpnpcpcbaaGreat
open Go.RowKit Go.Sort
/-- It is true. -/
def Tru (w : World) (e : Ending) (w' : World) : Prop := e = .returned (.bool true) ∧ Below w.heap.size w w'
/-- What is said of a comparison of two structs that are the same. -/
def SmC (f : FuncId) (t : Uy) (x : DT) : Prop := ∀ y w, USm t x y → UIn (Lv w) w t x → UIn (Lv w) w t y → Calls Tryz.prog f #[.agg x.c.toArray, .agg y.c.toArray] w (Tru w)
theorem uSizeExpr : (Tryz.prog.info? 31).map (·.size) = some 14 := by kernel_rfl
theorem uSizeRel : (Tryz.prog.info? 59).map (·.size) = some 14 := by kernel_rfl
set_option maxRecDepth 100000 in
set_option maxHeartbeats 4000000 in
theorem rsameTypes_any (l m : List DT) (A A2 : Option Addr) (cap cap2 : Nat) (w : World) (hlm : USL .type l m) (rl : DRow (Lv w) w 3 A cap l) (il : ∀ x, x ∈ l → UIn (Lv w) w .type x) (rm : DRow (Lv w) w 3 A2 cap2 m) (im : ∀ x, x ∈ m → UIn (Lv w) w .type x)
    (hcal : ∀ x, x ∈ l → SmC 23 .type x) : Calls Tryz.prog 42 #[.slice A l.length cap, .slice A2 m.length cap2] w (Tru w) := by
  obtain ⟨len, hlen⟩ : ∃ q, l.length = q := ⟨_, rfl⟩
  have hlen2 : m.length = len := by rw [← hlm.1]; exact hlen
  have hll := rl.len_le
  rw [hlen] at hll ⊢
  rw [hlen2]
  have Rl := Lib.hid rl
  have Rm := Lib.hid rm
  have Il := Lib.hid il
  have Im := Lib.hid im
  have Hlm := Lib.hid hlm
  have Hlen := Lib.hid hlen
  have Hlen2 := Lib.hid hlen2
  have Hcal := Lib.hid hcal
  clear rl rm il im hlm hlen hlen2 hcal
  go_enter Tryz.func42, Tryz.ntmps42
  go_wp2
  go_loopw [13] (fun i wr => ∃ j : Nat, j ≤ len ∧ i = .int .i64 j ∧ Below w.heap.size w wr) (fun i _ => len - (intOf i).toNat)
  case atStart => exact ⟨0, Nat.zero_le _, rfl, Below.refl _ _⟩
  case round =>
    obtain ⟨j, hj, rfl, hzr⟩ := hrel
    by_cases hlt : j < len
    · obtain ⟨x, ad, hx, rfl, hb, hat⟩ := (Rl.out.below hzr).get (show j < l.length by rw [Hlen.out]; exact hlt)
      obtain ⟨y, ad2, hy, rfl, hb2, hat2⟩ := (Rm.out.below hzr).get (show j < m.length by rw [Hlen2.out]; exact hlt)
      have hxi := (Il.out x (mem_of_get? hx)).blw hzr
      have hyi := (Im.out y (mem_of_get? hy)).blw hzr
      have hsz1 : Hid ((Tryz.prog.info? 24).map (·.size) = some x.c.length) := by show _ = _; rw [hxi.len]; exact uSizeType
      have hsz2 : Hid ((Tryz.prog.info? 24).map (·.size) = some y.c.length) := by show _ = _; rw [hyi.len]; exact uSizeType
      have hcm : Hid (∀ d os, Calls Tryz.prog 23 #[.agg x.c.toArray, .agg y.c.toArray] (grow (redrawn wr d) os) fun e w'' => e = .returned (.bool true) ∧ ∃ p : Regrown, w'' = grow (redrawn wr p.d) p.os) := fun d os =>
        Calls.regrown_of (Hcal.out x (mem_of_get? hx) y _ (Hlm.out.2 j x y hx hy) (hxi.blw (below_regrown wr d os)) (hyi.blw (below_regrown wr d os)))
      have l1 : Hid (∀ W, (∃ p : Regrown, W = grow (redrawn wr p.d) p.os) → ∀ i u, x.c[i]? = some u → W.cell? ((ad.add (j * 3)).add i) = some u) := fun W ⟨p, e⟩ i u hu => by rw [e]; exact cell_regrown (at_add hat i u hu) _ _
      have l2 : Hid (∀ W, (∃ p : Regrown, W = grow (redrawn wr p.d) p.os) → ∀ i u, y.c[i]? = some u → W.cell? ((ad2.add (j * 3)).add i) = some u) := fun W ⟨p, e⟩ i u hu => by rw [e]; exact cell_regrown (at_add hat2 i u hu) _ _
      clear hx hy hat hat2 hxi hyi
      go_upto_region 6 with (fail)
      refine wp_region_quiet_below (by kernel_rfl) (by kernel_rfl) ?_
      repeat (first
        | (refine wpQuiet_load_st rfl 24 _ rfl _ Tryz.underlying24 rfl (ad.add (j * 3)) x.c hsz1.out rfl l1.out ?_)
        | (refine wpQuiet_load_st rfl 24 _ rfl _ Tryz.underlying24 rfl (ad2.add (j * 3)) y.c hsz2.out rfl l2.out ?_)
        | quiet_step (with_reducible first | exact hcm.out _ _))
      refine wpQuiet_nil ?_
      intro _ hw'
      obtain ⟨⟨dq, osq⟩, hw''⟩ := hw'
      subst hw''
      have hb3 := below_regrown wr dq osq
      have hw1 : Sort.grow (redrawn wr (Regrown.mk dq osq).d) (Regrown.mk dq osq).os = Sort.grow (redrawn wr dq) osq := rfl
      rw [hw1]
      clear hw1 hcm l1 l2
      generalize Sort.grow (redrawn wr dq) osq = W2 at hb3 ⊢
      go_wp2
      go_roundw
      case rel => exact ⟨j + 1, by omega, by go_num, hzr.trans (hb3.mono hzr.size)⟩
      case measure => simp [intOf]; omega
    · obtain rfl : j = len := by omega
      go_wp2
      go_ret
      exact ⟨rfl, hzr⟩
set_option maxRecDepth 100000 in
set_option maxHeartbeats 4000000 in
theorem rsameExprs_any (l m : List DT) (A A2 : Option Addr) (cap cap2 : Nat) (w : World) (hlm : USL .expr l m) (rl : DRow (Lv w) w 14 A cap l) (il : ∀ x, x ∈ l → UIn (Lv w) w .expr x) (rm : DRow (Lv w) w 14 A2 cap2 m) (im : ∀ x, x ∈ m → UIn (Lv w) w .expr x)
    (hcal : ∀ x, x ∈ l → SmC 7 .expr x) : Calls Tryz.prog 44 #[.slice A l.length cap, .slice A2 m.length cap2] w (Tru w) := by
  obtain ⟨len, hlen⟩ : ∃ q, l.length = q := ⟨_, rfl⟩
  have hlen2 : m.length = len := by rw [← hlm.1]; exact hlen
  have hll := rl.len_le
  rw [hlen] at hll ⊢
  rw [hlen2]
  have Rl := Lib.hid rl
  have Rm := Lib.hid rm
  have Il := Lib.hid il
  have Im := Lib.hid im
  have Hlm := Lib.hid hlm
  have Hlen := Lib.hid hlen
  have Hlen2 := Lib.hid hlen2
  have Hcal := Lib.hid hcal
  clear rl rm il im hlm hlen hlen2 hcal
  go_enter Tryz.func44, Tryz.ntmps44
  go_wp2
  go_loopw [13] (fun i wr => ∃ j : Nat, j ≤ len ∧ i = .int .i64 j ∧ Below w.heap.size w wr) (fun i _ => len - (intOf i).toNat)
  case atStart => exact ⟨0, Nat.zero_le _, rfl, Below.refl _ _⟩
  case round =>
    obtain ⟨j, hj, rfl, hzr⟩ := hrel
    by_cases hlt : j < len
    · obtain ⟨x, ad, hx, rfl, hb, hat⟩ := (Rl.out.below hzr).get (show j < l.length by rw [Hlen.out]; exact hlt)
      obtain ⟨y, ad2, hy, rfl, hb2, hat2⟩ := (Rm.out.below hzr).get (show j < m.length by rw [Hlen2.out]; exact hlt)
      have hxi := (Il.out x (mem_of_get? hx)).blw hzr
      have hyi := (Im.out y (mem_of_get? hy)).blw hzr
      have hsz1 : Hid ((Tryz.prog.info? 31).map (·.size) = some x.c.length) := by show _ = _; rw [hxi.len]; exact uSizeExpr
      have hsz2 : Hid ((Tryz.prog.info? 31).map (·.size) = some y.c.length) := by show _ = _; rw [hyi.len]; exact uSizeExpr
      have hcm : Hid (∀ d os, Calls Tryz.prog 7 #[.agg x.c.toArray, .agg y.c.toArray] (grow (redrawn wr d) os) fun e w'' => e = .returned (.bool true) ∧ ∃ p : Regrown, w'' = grow (redrawn wr p.d) p.os) := fun d os =>
        Calls.regrown_of (Hcal.out x (mem_of_get? hx) y _ (Hlm.out.2 j x y hx hy) (hxi.blw (below_regrown wr d os)) (hyi.blw (below_regrown wr d os)))
      have l1 : Hid (∀ W, (∃ p : Regrown, W = grow (redrawn wr p.d) p.os) → ∀ i u, x.c[i]? = some u → W.cell? ((ad.add (j * 14)).add i) = some u) := fun W ⟨p, e⟩ i u hu => by rw [e]; exact cell_regrown (at_add hat i u hu) _ _
      have l2 : Hid (∀ W, (∃ p : Regrown, W = grow (redrawn wr p.d) p.os) → ∀ i u, y.c[i]? = some u → W.cell? ((ad2.add (j * 14)).add i) = some u) := fun W ⟨p, e⟩ i u hu => by rw [e]; exact cell_regrown (at_add hat2 i u hu) _ _
      clear hx hy hat hat2 hxi hyi
      go_upto_region 6 with (fail)
      refine wp_region_quiet_below (by kernel_rfl) (by kernel_rfl) ?_
      repeat (first
        | (refine wpQuiet_load_st rfl 31 _ rfl _ Tryz.underlying31 rfl (ad.add (j * 14)) x.c hsz1.out rfl l1.out ?_)
        | (refine wpQuiet_load_st rfl 31 _ rfl _ Tryz.underlying31 rfl (ad2.add (j * 14)) y.c hsz2.out rfl l2.out ?_)
        | quiet_step (with_reducible first | exact hcm.out _ _))
      refine wpQuiet_nil ?_
      intro _ hw'
      obtain ⟨⟨dq, osq⟩, hw''⟩ := hw'
      subst hw''
      have hb3 := below_regrown wr dq osq
      have hw1 : Sort.grow (redrawn wr (Regrown.mk dq osq).d) (Regrown.mk dq osq).os = Sort.grow (redrawn wr dq) osq := rfl
      rw [hw1]
      clear hw1 hcm l1 l2
      generalize Sort.grow (redrawn wr dq) osq = W2 at hb3 ⊢
      go_wp2
      go_roundw
      case rel => exact ⟨j + 1, by omega, by go_num, hzr.trans (hb3.mono hzr.size)⟩
      case measure => simp [intOf]; omega
    · obtain rfl : j = len := by omega
      go_wp2
      go_ret
      exact ⟨rfl, hzr⟩
theorem rsameTypes_sm (l m : List DT) (A A2 : Option Addr) (cap cap2 : Nat) (w : World) (hlm : USL .type l m) (rl : DRow (Lv w) w 3 A cap l) (il : ∀ x, x ∈ l → UIn (Lv w) w .type x) (rm : DRow (Lv w) w 3 A2 cap2 m) (im : ∀ x, x ∈ m → UIn (Lv w) w .type x) :
    Calls Tryz.prog 42 #[.slice A l.length cap, .slice A2 m.length cap2] w (Tru w) :=
  rsameTypes_any l m A A2 cap cap2 w hlm rl il rm im fun x _ y w hs hx hy => rsameType_sm x y w hs hx hy
end Go.Proofs.YthijagpnpcpcbaaGreat

