/-
  The reference of package plan: SameRel, if it is true of what is smaller.
  The reference of package plan: SameExpr is true of trees that are the same. The law's exprs.
-/
import Derived.Test.YthijagpnpcpcbaaGreatQGtG
import Derived.Test.YthijagpnpcpcbaaGreatQGtH
namespace Go.Proofs.YthijagpnpcpcbaaGreat
open Go.RowKit Go.Sort
theorem ulen8 {α : Type} : ∀ {l : List α}, l.length = 8 → ∃ a b c d e f g h, l = [a, b, c, d, e, f, g, h]
  | [a, b, c, d, e, f, g, h], _ => ⟨a, b, c, d, e, f, g, h, rfl⟩
/-- A relation, taken apart. -/
structure ReU (S0 : Nat → Prop) (w : World) (d : DT) (k op : Int) (nm : ByteArray) (all : Bool) (off cnt : Int) (T : Option Addr) (tc : Nat) (tz : List DT) (R : Option Addr) (rc : Nat) (rz : List DT) (I : Option Addr) (ic : Nat) (iz : List DT) (X : Option Addr) (xc : Nat) (xz : List DT) (S : Option Addr) (sc : Nat) (sz : List DT) (G : Option Addr) (gc : Nat) (gz : List DT) (WN : Option Addr) (wc : Nat) (wz : List DT) (K : Option Addr) (kc : Nat) (kz : List DT) : Prop where
  e : d = .node [.int .i64 k, .int .i64 op, .string nm, .bool all, .slice T tz.length tc, .slice R rz.length rc, .slice I iz.length ic, .slice X xz.length xc, .slice S sz.length sc, .slice G gz.length gc, .slice WN wz.length wc, .slice K kz.length kc, .int .i64 off, .int .i64 cnt] [tz, rz, iz, xz, sz, gz, wz, kz]
  ok : I64 k ∧ I64 op ∧ nm.size ≤ maxLen ∧ I64 off ∧ I64 cnt
  rt : DRow S0 w 3 T tc tz
  it : ∀ x, x ∈ tz → UIn S0 w .type x
  rr : DRow S0 w 1 R rc rz
  ir : ∀ x, x ∈ rz → UIn S0 w .row x
  ri : DRow S0 w 14 I ic iz
  ii : ∀ x, x ∈ iz → UIn S0 w .rel x
  rx : DRow S0 w 14 X xc xz
  ix : ∀ x, x ∈ xz → UIn S0 w .expr x
  rs : DRow S0 w 1 S sc sz
  is : ∀ x, x ∈ sz → UIn S0 w .set x
  rg : DRow S0 w 5 G gc gz
  ig : ∀ x, x ∈ gz → UIn S0 w .agg x
  rw : DRow S0 w 12 WN wc wz
  iw : ∀ x, x ∈ wz → UIn S0 w .win x
  rk : DRow S0 w 16 K kc kz
  ik : ∀ x, x ∈ kz → UIn S0 w .key x
theorem UIn.re {S0 : Nat → Prop} {w : World} {d : DT} (h : UIn S0 w .rel d) : ∃ k op nm all off cnt T tc tz R rc rz I ic iz X xc xz S sc sz G gc gz WN wc wz K kc kz, ReU S0 w d k op nm all off cnt T tc tz R rc rz I ic iz X xc xz S sc sz G gc gz WN wc wz K kc kz := by
  cases h with
  | mk _ c kk hl h1 hok hk hr hx =>
    obtain ⟨tz, rz, iz, xz, sz, gz, wz, kz, rfl⟩ := ulen8 hk
    obtain ⟨k, op, nm, all, off, cnt, v4, v5, v6, v7, v8, v9, v10, v11, rfl, ok⟩ := hok
    obtain ⟨T, tc, e0, r0⟩ := hr 0 4 .type tz rfl rfl
    obtain ⟨R, rc, e1, r1⟩ := hr 1 5 .row rz rfl rfl
    obtain ⟨I, ic, e2, r2⟩ := hr 2 6 .rel iz rfl rfl
    obtain ⟨X, xc, e3, r3⟩ := hr 3 7 .expr xz rfl rfl
    obtain ⟨S, sc, e4, r4⟩ := hr 4 8 .set sz rfl rfl
    obtain ⟨G, gc, e5, r5⟩ := hr 5 9 .agg gz rfl rfl
    obtain ⟨WN, wc, e6, r6⟩ := hr 6 10 .win wz rfl rfl
    obtain ⟨K, kc, e7, r7⟩ := hr 7 11 .key kz rfl rfl
    simp at e0 e1 e2 e3 e4 e5 e6 e7
    subst e0 e1 e2 e3 e4 e5 e6 e7
    exact ⟨k, op, nm, all, off, cnt, T, tc, tz, R, rc, rz, I, ic, iz, X, xc, xz, S, sc, sz, G, gc, gz, WN, wc, wz, K, kc, kz, rfl, ok, r0, hx 0 4 .type tz rfl rfl, r1, hx 1 5 .row rz rfl rfl, r2, hx 2 6 .rel iz rfl rfl, r3, hx 3 7 .expr xz rfl rfl, r4, hx 4 8 .set sz rfl rfl, r5, hx 5 9 .agg gz rfl rfl, r6, hx 6 10 .win wz rfl rfl, r7, hx 7 11 .key kz rfl rfl⟩
theorem USm.re {k op off cnt k' op' off' cnt' : Int} {nm nm' : ByteArray} {all all' : Bool} {v0 v1 v2 v3 v4 v5 v6 v7 w0 w1 w2 w3 w4 w5 w6 w7 : Value} {tz rz iz xz sz gz wz kz tz2 rz2 iz2 xz2 sz2 gz2 wz2 kz2 : List DT}
    (h : USm .rel (.node [.int .i64 k, .int .i64 op, .string nm, .bool all, v0, v1, v2, v3, v4, v5, v6, v7, .int .i64 off, .int .i64 cnt] [tz, rz, iz, xz, sz, gz, wz, kz]) (.node [.int .i64 k', .int .i64 op', .string nm', .bool all', w0, w1, w2, w3, w4, w5, w6, w7, .int .i64 off', .int .i64 cnt'] [tz2, rz2, iz2, xz2, sz2, gz2, wz2, kz2])) :
    (k = k' ∧ op = op' ∧ nm = nm' ∧ all = all' ∧ off = off' ∧ cnt = cnt') ∧ USL .type tz tz2 ∧ USL .row rz rz2 ∧ USL .rel iz iz2 ∧ USL .expr xz xz2 ∧ USL .set sz sz2 ∧ USL .agg gz gz2 ∧ USL .win wz wz2 ∧ USL .key kz kz2 := by
  cases h with
  | mk _ _ _ _ _ hc he hk hl hx =>
    have h0 := he 0 (by intro s hs; simp [Uy.sl] at hs)
    have h1 := he 1 (by intro s hs; simp [Uy.sl] at hs)
    have h2 := he 2 (by intro s hs; simp [Uy.sl] at hs)
    have h3 := he 3 (by intro s hs; simp [Uy.sl] at hs)
    have h12 := he 12 (by intro s hs; simp [Uy.sl] at hs)
    have h13 := he 13 (by intro s hs; simp [Uy.sl] at hs)
    simp at h0 h1 h2 h3 h12 h13
    exact ⟨⟨h0, h1, h2, h3, h12, h13⟩, ⟨hl 0 tz tz2 rfl rfl, hx 0 4 .type tz tz2 rfl rfl rfl⟩, ⟨hl 1 rz rz2 rfl rfl, hx 1 5 .row rz rz2 rfl rfl rfl⟩, ⟨hl 2 iz iz2 rfl rfl, hx 2 6 .rel iz iz2 rfl rfl rfl⟩, ⟨hl 3 xz xz2 rfl rfl, hx 3 7 .expr xz xz2 rfl rfl rfl⟩, ⟨hl 4 sz sz2 rfl rfl, hx 4 8 .set sz sz2 rfl rfl rfl⟩, ⟨hl 5 gz gz2 rfl rfl, hx 5 9 .agg gz gz2 rfl rfl rfl⟩, ⟨hl 6 wz wz2 rfl rfl, hx 6 10 .win wz wz2 rfl rfl rfl⟩, hl 7 kz kz2 rfl rfl, hx 7 11 .key kz kz2 rfl rfl rfl⟩
/-- A row of values, of numbers. -/
theorem UIn.ro {S : Nat → Prop} {w : World} {d : DT} (h : UIn S w .row d) : ∃ (A : Option Addr) (cap : Nat) (l : List DT), d = .node [.slice A l.length cap] [l] ∧ DRow S w 5 A cap l ∧ ∀ x, x ∈ l → UIn S w .value x := by
  cases h with
  | mk _ c kk hl h1 hok hk hr hx =>
    obtain ⟨l, rfl⟩ := ulen1 hk
    obtain ⟨v, rfl⟩ := hok
    obtain ⟨A, cap, e, r⟩ := hr 0 0 .value l rfl rfl
    simp at e
    subst e
    exact ⟨A, cap, l, rfl, r, hx 0 0 .value l rfl rfl⟩
theorem UIn.se {S : Nat → Prop} {w : World} {d : DT} (h : UIn S w .set d) : ∃ (A : Option Addr) (cap : Nat) (l : List DT), d = .node [.slice A l.length cap] [l] ∧ DRow S w 1 A cap l ∧ ∀ x, x ∈ l → UIn S w .num x := by
  cases h with
  | mk _ c kk hl h1 hok hk hr hx =>
    obtain ⟨l, rfl⟩ := ulen1 hk
    obtain ⟨v, rfl⟩ := hok
    obtain ⟨A, cap, e, r⟩ := hr 0 0 .num l rfl rfl
    simp at e
    subst e
    exact ⟨A, cap, l, rfl, r, hx 0 0 .num l rfl rfl⟩
theorem USm.ro {v v' : Value} {l m : List DT} (h : USm .row (.node [v] [l]) (.node [v'] [m])) : USL .value l m := by
  cases h with
  | mk _ _ _ _ _ hc he hk hl hx => exact ⟨hl 0 l m rfl rfl, hx 0 0 .value l m rfl rfl rfl⟩
theorem USm.se {v v' : Value} {l m : List DT} (h : USm .set (.node [v] [l]) (.node [v'] [m])) : USL .num l m := by
  cases h with
  | mk _ _ _ _ _ hc he hk hl hx => exact ⟨hl 0 l m rfl rfl, hx 0 0 .num l m rfl rfl rfl⟩
theorem UIn.nu {S : Nat → Prop} {w : World} {d : DT} (h : UIn S w .num d) : ∃ n : Int, d.c = [.int .i64 n] := by
  cases h with
  | mk _ c kk hl h1 hok hk hr hx =>
    obtain ⟨n, rfl, _⟩ := hok
    exact ⟨n, rfl⟩
theorem USm.nu {x y : DT} (h : USm .num x y) : x.c[0]? = y.c[0]? := by
  cases h with
  | mk _ _ _ _ _ hc he hk hl hx => exact he 0 (by intro s hs; simp [Uy.sl] at hs)
set_option maxRecDepth 100000 in
set_option maxHeartbeats 1000000 in
theorem eqSet_any (l m : List DT) (A A2 : Option Addr) (cap cap2 : Nat) (w : World) (hlm : USL .num l m) (rl : DRow (Lv w) w 1 A cap l) (il : ∀ x, x ∈ l → UIn (Lv w) w .num x) (rm : DRow (Lv w) w 1 A2 cap2 m) :
    Calls Tryz.prog 12 #[.slice A l.length cap, .slice A2 m.length cap2] w (Tru w) := by
  obtain ⟨len, hlen⟩ : ∃ q, l.length = q := ⟨_, rfl⟩
  have hlen2 : m.length = len := by rw [← hlm.1]; exact hlen
  have hll := rl.len_le
  rw [hlen] at hll ⊢
  rw [hlen2]
  have Rl := Lib.hid rl
  have Rm := Lib.hid rm
  have Il := Lib.hid il
  have Hlm := Lib.hid hlm
  have Hlen := Lib.hid hlen
  have Hlen2 := Lib.hid hlen2
  clear rl rm il hlm hlen hlen2
  go_enter Tryz.func12, Tryz.ntmps12
  go_wp2
  go_loopw [13] (fun i wr => ∃ j : Nat, j ≤ len ∧ i = .int .i64 j ∧ Below w.heap.size w wr) (fun i _ => len - (intOf i).toNat)
  case atStart => exact ⟨0, Nat.zero_le _, rfl, Below.refl _ _⟩
  case round =>
    obtain ⟨j, hj, rfl, hbr⟩ := hrel
    by_cases hlt : j < len
    · obtain ⟨x, ad, hx, rfl, hb, hat⟩ := (Rl.out.below hbr).get (show j < l.length by rw [Hlen.out]; exact hlt)
      obtain ⟨y, ad2, hy, rfl, hb2, hat2⟩ := (Rm.out.below hbr).get (show j < m.length by rw [Hlen2.out]; exact hlt)
      obtain ⟨n, hn⟩ := (Il.out x (mem_of_get? hx)).nu
      have hyn := (Hlm.out.2 j x y hx hy).nu
      have d0 : wr.cell? (ad.add (j * 1)) = some (.int .i64 n) := hat 0 _ (by rw [hn]; rfl)
      have c0 : wr.cell? (ad2.add (j * 1)) = some (.int .i64 n) := hat2 0 _ (by rw [← hyn, hn]; rfl)
      rw [Nat.mul_one] at d0 c0
      clear hx hy hat hat2 hn hyn
      go_wp2_with fail
      go_quiet (fail)
      go_wp2
      go_roundw
      case rel => exact ⟨j + 1, by omega, by go_num, hbr.trans ((below_dN _ _).mono hbr.size)⟩
      case measure => simp [intOf]; omega
    · go_wp2
      go_ret
      exact ⟨rfl, hbr⟩
set_option maxRecDepth 100000 in
set_option maxHeartbeats 16000000 in
theorem rSameRel_step (x y : DT) (w : World) (hs : USm .rel x y) (hx : UIn (Lv w) w .rel x) (hy : UIn (Lv w) w .rel y) (hci : ∀ z, z ∈ x.kid 2 → SmC 25 .rel z)
    (hce : ∀ z, z ∈ x.kid 3 → SmC 7 .expr z) (hcg : ∀ g, g ∈ x.kid 5 → ∀ z, z ∈ g.kid 0 ∨ z ∈ g.kid 1 → SmC 7 .expr z)
    (hcw : ∀ v, v ∈ x.kid 6 → (∀ z, z ∈ v.kid 0 ∨ z ∈ v.kid 2 → SmC 7 .expr z) ∧ (∀ g, g ∈ v.kid 1 → ∀ z, z ∈ g.kid 0 ∨ z ∈ g.kid 1 → SmC 7 .expr z) ∧ ∀ z, z ∈ v.kid 3 ∨ z ∈ v.kid 4 → SmC 7 .expr (keyE z))
    (hck : ∀ z, z ∈ x.kid 7 → SmC 7 .expr (keyE z)) :
    Calls Tryz.prog 25 #[.agg x.c.toArray, .agg y.c.toArray] w (Tru w) := by
  obtain ⟨k, op, nm, all, off, cnt, T, tc, tz, R, rc, rz, I, ic, iz, X, xc, xz, S, sc, sz, G, gc, gz, WN, wc, wz, K, kc, kz, rfl, ok, rt, it, rr, ir, ri, ii, rx, ix, rs, is, rg, ig, rw, iw, rk, ik⟩ := hx.re
  obtain ⟨k2, op2, nm2, all2, off2, cnt2, T2, tc2, tz2, R2, rc2, rz2, I2, ic2, iz2, X2, xc2, xz2, S2, sc2, sz2, G2, gc2, gz2, WN2, wc2, wz2, K2, kc2, kz2, rfl, ok2, rt2, it2, rr2, ir2, ri2, ii2, rx2, ix2, rs2, is2, rg2, ig2, rw2, iw2, rk2, ik2⟩ := hy.re
  obtain ⟨⟨rfl, rfl, rfl, rfl, rfl, rfl⟩, st, sr, si, sx, ss, sg, sw, sk⟩ := hs.re
  have Hci : Hid (∀ z, z ∈ iz → SmC 25 .rel z) := hci
  clear hs hx hy hci ok ok2
  show Calls _ _ #[.agg #[.int .i64 k, .int .i64 op, .string nm, .bool all, .slice T tz.length tc, .slice R rz.length rc, .slice I iz.length ic, .slice X xz.length xc, .slice S sz.length sc, .slice G gz.length gc, .slice WN wz.length wc, .slice K kz.length kc, .int .i64 off, .int .i64 cnt], .agg #[.int .i64 k, .int .i64 op, .string nm, .bool all, .slice T2 tz2.length tc2, .slice R2 rz2.length rc2, .slice I2 iz2.length ic2, .slice X2 xz2.length xc2, .slice S2 sz2.length sc2, .slice G2 gz2.length gc2, .slice WN2 wz2.length wc2, .slice K2 kz2.length kc2, .int .i64 off, .int .i64 cnt]] _ _
  have Ct : Hid (∀ W, Below w.heap.size w W → Calls Tryz.prog 42 #[.slice T tz.length tc, .slice T2 tz2.length tc2] W (Tru W)) := fun W hb =>
    rsameTypes_sm tz tz2 T T2 tc tc2 W st (rt.below hb) (fun x hx => (it x hx).blw hb) (rt2.below hb) (fun x hx => (it2 x hx).blw hb)
  have Cx : Hid (∀ W, Below w.heap.size w W → Calls Tryz.prog 44 #[.slice X xz.length xc, .slice X2 xz2.length xc2] W (Tru W)) := fun W hb =>
    rsameExprs_any xz xz2 X X2 xc xc2 W sx (rx.below hb) (fun x hx => (ix x hx).blw hb) (rx2.below hb) (fun x hx => (ix2 x hx).blw hb) (fun x hx => hce x hx)
  have Cg : Hid (∀ W, Below w.heap.size w W → Calls Tryz.prog 45 #[.slice G gz.length gc, .slice G2 gz2.length gc2] W (Tru W)) := fun W hb =>
    rsameAggs_any gz gz2 G G2 gc gc2 W sg (rg.below hb) (fun x hx => (ig x hx).blw hb) (rg2.below hb) (fun x hx => (ig2 x hx).blw hb) (fun x hx => hcg x hx)
  have Cw : Hid (∀ W, Below w.heap.size w W → Calls Tryz.prog 46 #[.slice WN wz.length wc, .slice WN2 wz2.length wc2] W (Tru W)) := fun W hb =>
    rsameWindows_any wz wz2 WN WN2 wc wc2 W sw (rw.below hb) (fun x hx => (iw x hx).blw hb) (rw2.below hb) (fun x hx => (iw2 x hx).blw hb) (fun x hx => (hcw x hx).1) (fun x hx => (hcw x hx).2.1) (fun x hx => (hcw x hx).2.2)
  have Ck : Hid (∀ W, Below w.heap.size w W → Calls Tryz.prog 47 #[.slice K kz.length kc, .slice K2 kz2.length kc2] W (Tru W)) := fun W hb =>
    rsameKeys_any kz kz2 K K2 kc kc2 W sk (rk.below hb) (fun x hx => (ik x hx).blw hb) (rk2.below hb) (fun x hx => (ik2 x hx).blw hb) (fun x hx => hck x hx)
  have Rr := Lib.hid rr
  have Jr := Lib.hid ir
  have Rr2 := Lib.hid rr2
  have Jr2 := Lib.hid ir2
  have Sr := Lib.hid sr
  obtain ⟨lr, hlr⟩ : ∃ q, rz.length = q := ⟨_, rfl⟩
  have hlr2 : rz2.length = lr := by rw [← sr.1]; exact hlr
  have hllr := rr.len_le
  have Nr := Lib.hid hlr
  have Nr2 := Lib.hid hlr2
  rw [hlr] at hllr
  have Ri := Lib.hid ri
  have Ji := Lib.hid ii
  have Ri2 := Lib.hid ri2
  have Ji2 := Lib.hid ii2
  have Si := Lib.hid si
  obtain ⟨li, hli⟩ : ∃ q, iz.length = q := ⟨_, rfl⟩
  have hli2 : iz2.length = li := by rw [← si.1]; exact hli
  have hlli := ri.len_le
  have Ni := Lib.hid hli
  have Ni2 := Lib.hid hli2
  rw [hli] at hlli
  have Rs := Lib.hid rs
  have Js := Lib.hid is
  have Rs2 := Lib.hid rs2
  have Js2 := Lib.hid is2
  have Ss := Lib.hid ss
  obtain ⟨ls, hls⟩ : ∃ q, sz.length = q := ⟨_, rfl⟩
  have hls2 : sz2.length = ls := by rw [← ss.1]; exact hls
  have hlls := rs.len_le
  have Ns := Lib.hid hls
  have Ns2 := Lib.hid hls2
  rw [hls] at hlls
  obtain ⟨W0, hW0⟩ : ∃ W0, (w.alloc (.cells #[.int .i64 k, .int .i64 op, .string nm, .bool all, .slice T tz.length tc, .slice R rz.length rc, .slice I iz.length ic, .slice X xz.length xc, .slice S sz.length sc, .slice G gz.length gc, .slice WN wz.length wc, .slice K kz.length kc, .int .i64 off, .int .i64 cnt] 59)).alloc (.cells #[.int .i64 k, .int .i64 op, .string nm, .bool all, .slice T2 tz2.length tc2, .slice R2 rz2.length rc2, .slice I2 iz2.length ic2, .slice X2 xz2.length xc2, .slice S2 sz2.length sc2, .slice G2 gz2.length gc2, .slice WN2 wz2.length wc2, .slice K2 kz2.length kc2, .int .i64 off, .int .i64 cnt] 59) = W0 := ⟨_, rfl⟩
  have hbw : Below w.heap.size w W0 := by rw [← hW0]; exact bel2 _ _ _
  have hz0 : W0.heap.size = w.heap.size + 2 := by rw [← hW0]; simp
  have Q0 : W0.heap[w.heap.size]? = some (.cells #[.int .i64 k, .int .i64 op, .string nm, .bool all, .slice T tz.length tc, .slice R rz.length rc, .slice I iz.length ic, .slice X xz.length xc, .slice S sz.length sc, .slice G gz.length gc, .slice WN wz.length wc, .slice K kz.length kc, .int .i64 off, .int .i64 cnt] 59 (0, 0)) := by rw [← hW0, Below.heap_alloc _ _ _ (by simp)]; exact heap_alloc_new w _
  have Q1 : W0.heap[w.heap.size + 1]? = some (.cells #[.int .i64 k, .int .i64 op, .string nm, .bool all, .slice T2 tz2.length tc2, .slice R2 rz2.length rc2, .slice I2 iz2.length ic2, .slice X2 xz2.length xc2, .slice S2 sz2.length sc2, .slice G2 gz2.length gc2, .slice WN2 wz2.length wc2, .slice K2 kz2.length kc2, .int .i64 off, .int .i64 cnt] 59 (0, 0)) := by
    rw [← hW0]
    have q := heap_alloc_new (w.alloc (.cells #[.int .i64 k, .int .i64 op, .string nm, .bool all, .slice T tz.length tc, .slice R rz.length rc, .slice I iz.length ic, .slice X xz.length xc, .slice S sz.length sc, .slice G gz.length gc, .slice WN wz.length wc, .slice K kz.length kc, .int .i64 off, .int .i64 cnt] 59)) (.cells #[.int .i64 k, .int .i64 op, .string nm, .bool all, .slice T2 tz2.length tc2, .slice R2 rz2.length rc2, .slice I2 iz2.length ic2, .slice X2 xz2.length xc2, .slice S2 sz2.length sc2, .slice G2 gz2.length gc2, .slice WN2 wz2.length wc2, .slice K2 kz2.length kc2, .int .i64 off, .int .i64 cnt] 59)
    have z : (w.alloc (.cells #[.int .i64 k, .int .i64 op, .string nm, .bool all, .slice T tz.length tc, .slice R rz.length rc, .slice I iz.length ic, .slice X xz.length xc, .slice S sz.length sc, .slice G gz.length gc, .slice WN wz.length wc, .slice K kz.length kc, .int .i64 off, .int .i64 cnt] 59)).heap.size = w.heap.size + 1 := by simp
    rw [z] at q
    exact q
  rw [hlr, hli, hls] at Q0 hW0 ⊢
  rw [hlr2, hli2, hls2] at Q1 hW0 ⊢
  have hcells : Hid (∀ W, Below W0.heap.size W0 W → (W.cell? ⟨w.heap.size, 0, none⟩ = some (.int .i64 k) ∧ W.cell? ⟨w.heap.size, 1, none⟩ = some (.int .i64 op) ∧ W.cell? ⟨w.heap.size, 2, none⟩ = some (.string nm) ∧ W.cell? ⟨w.heap.size, 3, none⟩ = some (.bool all) ∧ W.cell? ⟨w.heap.size, 4, none⟩ = some (.slice T tz.length tc) ∧ W.cell? ⟨w.heap.size, 5, none⟩ = some (.slice R lr rc) ∧ W.cell? ⟨w.heap.size, 6, none⟩ = some (.slice I li ic) ∧ W.cell? ⟨w.heap.size, 7, none⟩ = some (.slice X xz.length xc) ∧ W.cell? ⟨w.heap.size, 8, none⟩ = some (.slice S ls sc) ∧ W.cell? ⟨w.heap.size, 9, none⟩ = some (.slice G gz.length gc) ∧ W.cell? ⟨w.heap.size, 10, none⟩ = some (.slice WN wz.length wc) ∧ W.cell? ⟨w.heap.size, 11, none⟩ = some (.slice K kz.length kc) ∧ W.cell? ⟨w.heap.size, 12, none⟩ = some (.int .i64 off) ∧ W.cell? ⟨w.heap.size, 13, none⟩ = some (.int .i64 cnt)) ∧ (W.cell? ⟨w.heap.size + 1, 0, none⟩ = some (.int .i64 k) ∧ W.cell? ⟨w.heap.size + 1, 1, none⟩ = some (.int .i64 op) ∧ W.cell? ⟨w.heap.size + 1, 2, none⟩ = some (.string nm) ∧ W.cell? ⟨w.heap.size + 1, 3, none⟩ = some (.bool all) ∧ W.cell? ⟨w.heap.size + 1, 4, none⟩ = some (.slice T2 tz2.length tc2) ∧ W.cell? ⟨w.heap.size + 1, 5, none⟩ = some (.slice R2 lr rc2) ∧ W.cell? ⟨w.heap.size + 1, 6, none⟩ = some (.slice I2 li ic2) ∧ W.cell? ⟨w.heap.size + 1, 7, none⟩ = some (.slice X2 xz2.length xc2) ∧ W.cell? ⟨w.heap.size + 1, 8, none⟩ = some (.slice S2 ls sc2) ∧ W.cell? ⟨w.heap.size + 1, 9, none⟩ = some (.slice G2 gz2.length gc2) ∧ W.cell? ⟨w.heap.size + 1, 10, none⟩ = some (.slice WN2 wz2.length wc2) ∧ W.cell? ⟨w.heap.size + 1, 11, none⟩ = some (.slice K2 kz2.length kc2) ∧ W.cell? ⟨w.heap.size + 1, 12, none⟩ = some (.int .i64 off) ∧ W.cell? ⟨w.heap.size + 1, 13, none⟩ = some (.int .i64 cnt))) := fun W h => by
    have z0 := (h.block _ (Array.getElem?_eq_some_iff.1 Q0).1).trans Q0
    have z1 := (h.block _ (Array.getElem?_eq_some_iff.1 Q1).1).trans Q1
    simp [World.cell?, z0, z1]
  have Kr : Hid (∀ W, Below W0.heap.size W0 W → W.cell? ⟨w.heap.size, 5, none⟩ = some (.slice R lr rc) ∧ W.cell? ⟨w.heap.size + 1, 5, none⟩ = some (.slice R2 lr rc2)) := fun W h => by
    obtain ⟨⟨e0, e1, e2, e3, e4, e5, e6, e7, e8, e9, e10, e11, e12, e13⟩, f0, f1, f2, f3, f4, f5, f6, f7, f8, f9, f10, f11, f12, f13⟩ := hcells.out W h
    exact ⟨e5, f5⟩
  have Ki : Hid (∀ W, Below W0.heap.size W0 W → W.cell? ⟨w.heap.size, 6, none⟩ = some (.slice I li ic) ∧ W.cell? ⟨w.heap.size + 1, 6, none⟩ = some (.slice I2 li ic2)) := fun W h => by
    obtain ⟨⟨e0, e1, e2, e3, e4, e5, e6, e7, e8, e9, e10, e11, e12, e13⟩, f0, f1, f2, f3, f4, f5, f6, f7, f8, f9, f10, f11, f12, f13⟩ := hcells.out W h
    exact ⟨e6, f6⟩
  have Ks : Hid (∀ W, Below W0.heap.size W0 W → W.cell? ⟨w.heap.size, 8, none⟩ = some (.slice S ls sc) ∧ W.cell? ⟨w.heap.size + 1, 8, none⟩ = some (.slice S2 ls sc2)) := fun W h => by
    obtain ⟨⟨e0, e1, e2, e3, e4, e5, e6, e7, e8, e9, e10, e11, e12, e13⟩, f0, f1, f2, f3, f4, f5, f6, f7, f8, f9, f10, f11, f12, f13⟩ := hcells.out W h
    exact ⟨e8, f8⟩
  have HW0 := Lib.hid hW0
  have Hbw := Lib.hid hbw
  have Hz0 := Lib.hid hz0
  clear hW0 hbw hz0 Q0 Q1 hlr hli hls hlr2 hli2 hls2 hce hcg hcw hck rt rt2 it it2 st rr rr2 ir ir2 sr ri ri2 ii ii2 si rx rx2 ix ix2 sx rs rs2 is is2 ss rg rg2 ig ig2 sg rw rw2 iw iw2 sw rk rk2 ik ik2 sk
  obtain ⟨⟨e0, e1, e2, e3, e4, e5, e6, e7, e8, e9, e10, e11, e12, e13⟩, f0, f1, f2, f3, f4, f5, f6, f7, f8, f9, f10, f11, f12, f13⟩ := hcells.out W0 (Below.refl _ _)
  go_enter Tryz.func25, Tryz.ntmps25
  go_upto_region 1 with (fail)
  rw [HW0.out]
  go_wp2_with fail
  refine (Ct.out _ Hbw.out).mono ?_
  rintro e v0 ⟨rfl, hv0⟩
  have hb1 : Below W0.heap.size W0 v0 := hv0
  clear e0 e1 e2 e3 e4 e5 e6 e7 e8 e9 e10 e11 e12 e13 f0 f1 f2 f3 f4 f5 f6 f7 f8 f9 f10 f11 f12 f13
  obtain ⟨⟨e0, e1, e2, e3, e4, e5, e6, e7, e8, e9, e10, e11, e12, e13⟩, f0, f1, f2, f3, f4, f5, f6, f7, f8, f9, f10, f11, f12, f13⟩ := hcells.out v0 hv0
  go_wp2
  clear e0 e1 e2 e3 e4 e5 e6 e7 e8 e9 e10 e11 e12 e13 f0 f1 f2 f3 f4 f5 f6 f7 f8 f9 f10 f11 f12 f13 hv0
  have Hb1 := Lib.hid hb1
  clear hb1
  go_loopw [86] (fun i wr => ∃ j : Nat, j ≤ lr ∧ i = .int .i64 j ∧ Below W0.heap.size W0 wr) (fun i _ => lr - (intOf i).toNat)
  case atStart => exact ⟨0, Nat.zero_le _, rfl, Hb1.out⟩
  case round =>
    obtain ⟨j, hj, rfl, hbr⟩ := hrel
    have hzr : Below w.heap.size w wr := Hbw.out.trans (hbr.mono (by have := Hz0.out; omega))
    by_cases hlt : j < lr
    · obtain ⟨x, ad, hx, rfl, hb, hat⟩ := (Rr.out.below hzr).get (show j < (rz).length by rw [Nr.out]; exact hlt)
      obtain ⟨y, ad2, hy, rfl, hb2, hat2⟩ := (Rr2.out.below hzr).get (show j < (rz2).length by rw [Nr2.out]; exact hlt)
      obtain ⟨XA, xcap, xs, rfl, rx, ix⟩ := ((Jr.out x (mem_of_get? hx)).blw hzr).ro
      obtain ⟨YA, ycap, ys, rfl, ry, iy⟩ := ((Jr2.out y (mem_of_get? hy)).blw hzr).ro
      have hxy := (Sr.out.2 j _ _ hx hy).ro
      have hcm : Hid (∀ d os, Calls Tryz.prog 43 #[.slice XA xs.length xcap, .slice YA ys.length ycap] (grow (redrawn wr d) os) fun e w'' => e = .returned (.int .i64 0) ∧ ∃ p : Regrown, w'' = grow (redrawn wr p.d) p.os) := fun d os => by
        have hb := below_regrown wr d os
        exact Calls.regrown_of (rCompareRows_u xs ys XA YA xcap ycap _ hxy (rx.below hb) (fun x hx => (ix x hx).blw hb) (ry.below hb) (fun x hx => (iy x hx).blw hb))
      have d0 := cell_regrown (show wr.cell? (ad.add j) = some (.slice XA xs.length xcap) by have := hat 0 _ rfl; rw [Nat.mul_one] at this; exact this)
      have c0 := cell_regrown (show wr.cell? (ad2.add j) = some (.slice YA ys.length ycap) by have := hat2 0 _ rfl; rw [Nat.mul_one] at this; exact this)
      have k1 := cell_regrown (Kr.out wr hbr).1
      have k2 := cell_regrown (Kr.out wr hbr).2
      have Hbr := Lib.hid hbr
      clear hx hy hat hat2 hxy rx ix ry iy hbr
      go_upto_region 6 with (fail)
      (refine wp_region_quiet_below (by kernel_rfl) (by kernel_rfl) ?_; (repeat (quiet_step (with_reducible first | exact hcm.out _ _))); refine wpQuiet_nil ?_; intro _ hw'; obtain ⟨⟨dq, osq⟩, hw''⟩ := hw'; subst hw'')
      have hb3 := below_regrown wr dq osq
      have hw1 : Sort.grow (redrawn wr (Regrown.mk dq osq).d) (Regrown.mk dq osq).os = Sort.grow (redrawn wr dq) osq := rfl
      rw [hw1]
      clear hw1 k1 k2 hcm d0 c0
      generalize Sort.grow (redrawn wr dq) osq = W2 at hb3 ⊢
      go_wp2
      go_roundw
      case rel => exact ⟨j + 1, by omega, by go_num, Hbr.out.trans (hb3.mono Hbr.out.size)⟩
      case measure => simp [intOf]; omega
    · obtain rfl : j = lr := by omega
      skip
      have k6 := (Ki.out wr hbr).1
      have Hbr := Lib.hid hbr
      clear hbr
      go_wp2
      clear k6
      go_loopw [105] (fun i wr => ∃ j : Nat, j ≤ li ∧ i = .int .i64 j ∧ Below W0.heap.size W0 wr) (fun i _ => li - (intOf i).toNat)
      case atStart => exact ⟨0, Nat.zero_le _, rfl, Hbr.out⟩
      case round =>
        obtain ⟨j, hj, rfl, hbr⟩ := hrel
        have hzr : Below w.heap.size w wr := Hbw.out.trans (hbr.mono (by have := Hz0.out; omega))
        by_cases hlt : j < li
        · obtain ⟨x, ad, hx, rfl, hb, hat⟩ := (Ri.out.below hzr).get (show j < (iz).length by rw [Ni.out]; exact hlt)
          obtain ⟨y, ad2, hy, rfl, hb2, hat2⟩ := (Ri2.out.below hzr).get (show j < (iz2).length by rw [Ni2.out]; exact hlt)
          have hxi := (Ji.out x (mem_of_get? hx)).blw hzr
          have hyi := (Ji2.out y (mem_of_get? hy)).blw hzr
          have hsz1 : Hid ((Tryz.prog.info? 59).map (·.size) = some x.c.length) := by show _ = _; rw [hxi.len]; exact uSizeRel
          have hsz2 : Hid ((Tryz.prog.info? 59).map (·.size) = some y.c.length) := by show _ = _; rw [hyi.len]; exact uSizeRel
          have hcm : Hid (∀ d os, Calls Tryz.prog 25 #[.agg x.c.toArray, .agg y.c.toArray] (grow (redrawn wr d) os) fun e w'' => e = .returned (.bool true) ∧ ∃ p : Regrown, w'' = grow (redrawn wr p.d) p.os) := fun d os =>
            Calls.regrown_of (Hci.out x (mem_of_get? hx) y _ (Si.out.2 j x y hx hy) (hxi.blw (below_regrown wr d os)) (hyi.blw (below_regrown wr d os)))
          have l1 : Hid (∀ W, (∃ p : Regrown, W = grow (redrawn wr p.d) p.os) → ∀ i u, x.c[i]? = some u → W.cell? ((ad.add (j * 14)).add i) = some u) := fun W ⟨p, e⟩ i u hu => by rw [e]; exact cell_regrown (at_add hat i u hu) _ _
          have l2 : Hid (∀ W, (∃ p : Regrown, W = grow (redrawn wr p.d) p.os) → ∀ i u, y.c[i]? = some u → W.cell? ((ad2.add (j * 14)).add i) = some u) := fun W ⟨p, e⟩ i u hu => by rw [e]; exact cell_regrown (at_add hat2 i u hu) _ _
          have k1 := cell_regrown (Ki.out wr hbr).1
          have k2 := cell_regrown (Ki.out wr hbr).2
          have Hbr := Lib.hid hbr
          clear hx hy hat hat2 hxi hyi hbr
          go_upto_region 12 with (fail)
          refine wp_region_quiet_below (by kernel_rfl) (by kernel_rfl) ?_
          repeat (first
            | (refine wpQuiet_load_st rfl 59 _ rfl _ Tryz.underlying59 rfl (ad.add (j * 14)) x.c hsz1.out rfl l1.out ?_)
            | (refine wpQuiet_load_st rfl 59 _ rfl _ Tryz.underlying59 rfl (ad2.add (j * 14)) y.c hsz2.out rfl l2.out ?_)
            | quiet_step (with_reducible first | exact hcm.out _ _))
          refine wpQuiet_nil ?_
          intro _ hw'
          obtain ⟨⟨dq, osq⟩, hw''⟩ := hw'
          subst hw''
          have hb3 := below_regrown wr dq osq
          have hw1 : Sort.grow (redrawn wr (Regrown.mk dq osq).d) (Regrown.mk dq osq).os = Sort.grow (redrawn wr dq) osq := rfl
          rw [hw1]
          clear hw1 k1 k2 hcm l1 l2
          generalize Sort.grow (redrawn wr dq) osq = W2 at hb3 ⊢
          go_wp2
          go_roundw
          case rel => exact ⟨j + 1, by omega, by go_num, Hbr.out.trans (hb3.mono Hbr.out.size)⟩
          case measure => simp [intOf]; omega
        · obtain rfl : j = li := by omega
          skip
          have k8 := (Ks.out wr hbr).1
          have Hbr := Lib.hid hbr
          clear hbr
          go_wp2
          clear k8
          go_loopw [124] (fun i wr => ∃ j : Nat, j ≤ ls ∧ i = .int .i64 j ∧ Below W0.heap.size W0 wr) (fun i _ => ls - (intOf i).toNat)
          case atStart => exact ⟨0, Nat.zero_le _, rfl, Hbr.out⟩
          case round =>
            obtain ⟨j, hj, rfl, hbr⟩ := hrel
            have hzr : Below w.heap.size w wr := Hbw.out.trans (hbr.mono (by have := Hz0.out; omega))
            by_cases hlt : j < ls
            · obtain ⟨x, ad, hx, rfl, hb, hat⟩ := (Rs.out.below hzr).get (show j < (sz).length by rw [Ns.out]; exact hlt)
              obtain ⟨y, ad2, hy, rfl, hb2, hat2⟩ := (Rs2.out.below hzr).get (show j < (sz2).length by rw [Ns2.out]; exact hlt)
              obtain ⟨XA, xcap, xs, rfl, rx, ix⟩ := ((Js.out x (mem_of_get? hx)).blw hzr).se
              obtain ⟨YA, ycap, ys, rfl, ry, iy⟩ := ((Js2.out y (mem_of_get? hy)).blw hzr).se
              have hxy := (Ss.out.2 j _ _ hx hy).se
              have hcm : Hid (∀ d os, Calls Tryz.prog 12 #[.slice XA xs.length xcap, .slice YA ys.length ycap] (grow (redrawn wr d) os) fun e w'' => e = .returned (.bool true) ∧ ∃ p : Regrown, w'' = grow (redrawn wr p.d) p.os) := fun d os => by
                have hb := below_regrown wr d os
                exact Calls.regrown_of (eqSet_any xs ys XA YA xcap ycap _ hxy (rx.below hb) (fun x hx => (ix x hx).blw hb) (ry.below hb))
              have d0 := cell_regrown (show wr.cell? (ad.add j) = some (.slice XA xs.length xcap) by have := hat 0 _ rfl; rw [Nat.mul_one] at this; exact this)
              have c0 := cell_regrown (show wr.cell? (ad2.add j) = some (.slice YA ys.length ycap) by have := hat2 0 _ rfl; rw [Nat.mul_one] at this; exact this)
              have k1 := cell_regrown (Ks.out wr hbr).1
              have k2 := cell_regrown (Ks.out wr hbr).2
              have Hbr := Lib.hid hbr
              clear hx hy hat hat2 hxy rx ix ry iy hbr
              go_upto_region 18 with (fail)
              (refine wp_region_quiet_below (by kernel_rfl) (by kernel_rfl) ?_; (repeat (quiet_step (with_reducible first | exact hcm.out _ _))); refine wpQuiet_nil ?_; intro _ hw'; obtain ⟨⟨dq, osq⟩, hw''⟩ := hw'; subst hw'')
              have hb3 := below_regrown wr dq osq
              have hw1 : Sort.grow (redrawn wr (Regrown.mk dq osq).d) (Regrown.mk dq osq).os = Sort.grow (redrawn wr dq) osq := rfl
              rw [hw1]
              clear hw1 k1 k2 hcm d0 c0
              generalize Sort.grow (redrawn wr dq) osq = W2 at hb3 ⊢
              go_wp2
              go_roundw
              case rel => exact ⟨j + 1, by omega, by go_num, Hbr.out.trans (hb3.mono Hbr.out.size)⟩
              case measure => simp [intOf]; omega
            · obtain rfl : j = ls := by omega
              skip
              have Hbr := Lib.hid hbr
              clear hbr
              obtain ⟨⟨e0, e1, e2, e3, e4, e5, e6, e7, e8, e9, e10, e11, e12, e13⟩, f0, f1, f2, f3, f4, f5, f6, f7, f8, f9, f10, f11, f12, f13⟩ := hcells.out wr Hbr.out
              go_wp2_with fail
              refine (Cx.out _ hzr).mono ?_
              rintro e u0 ⟨rfl, hu0⟩
              have hz1 : Below w.heap.size w u0 := hzr.trans (hu0.mono hzr.size)
              have hb1 : Below W0.heap.size W0 u0 := (Hbr.out).trans (hu0.mono (Hbr.out).size)
              clear e0 e1 e2 e3 e4 e5 e6 e7 e8 e9 e10 e11 e12 e13 f0 f1 f2 f3 f4 f5 f6 f7 f8 f9 f10 f11 f12 f13
              obtain ⟨⟨e0, e1, e2, e3, e4, e5, e6, e7, e8, e9, e10, e11, e12, e13⟩, f0, f1, f2, f3, f4, f5, f6, f7, f8, f9, f10, f11, f12, f13⟩ := hcells.out u0 hb1
              go_wp2_with fail
              refine (Cg.out _ hz1).mono ?_
              rintro e u1 ⟨rfl, hu1⟩
              have hz2 : Below w.heap.size w u1 := hz1.trans (hu1.mono hz1.size)
              have hb2 : Below W0.heap.size W0 u1 := (hb1).trans (hu1.mono (hb1).size)
              clear e0 e1 e2 e3 e4 e5 e6 e7 e8 e9 e10 e11 e12 e13 f0 f1 f2 f3 f4 f5 f6 f7 f8 f9 f10 f11 f12 f13
              obtain ⟨⟨e0, e1, e2, e3, e4, e5, e6, e7, e8, e9, e10, e11, e12, e13⟩, f0, f1, f2, f3, f4, f5, f6, f7, f8, f9, f10, f11, f12, f13⟩ := hcells.out u1 hb2
              go_wp2_with fail
              refine (Cw.out _ hz2).mono ?_
              rintro e u2 ⟨rfl, hu2⟩
              have hz3 : Below w.heap.size w u2 := hz2.trans (hu2.mono hz2.size)
              have hb3 : Below W0.heap.size W0 u2 := (hb2).trans (hu2.mono (hb2).size)
              clear e0 e1 e2 e3 e4 e5 e6 e7 e8 e9 e10 e11 e12 e13 f0 f1 f2 f3 f4 f5 f6 f7 f8 f9 f10 f11 f12 f13
              obtain ⟨⟨e0, e1, e2, e3, e4, e5, e6, e7, e8, e9, e10, e11, e12, e13⟩, f0, f1, f2, f3, f4, f5, f6, f7, f8, f9, f10, f11, f12, f13⟩ := hcells.out u2 hb3
              go_wp2_with fail
              refine (Ck.out _ hz3).mono ?_
              rintro e u3 ⟨rfl, hu3⟩
              have hz4 : Below w.heap.size w u3 := hz3.trans (hu3.mono hz3.size)
              have hb4 : Below W0.heap.size W0 u3 := (hb3).trans (hu3.mono (hb3).size)
              clear e0 e1 e2 e3 e4 e5 e6 e7 e8 e9 e10 e11 e12 e13 f0 f1 f2 f3 f4 f5 f6 f7 f8 f9 f10 f11 f12 f13
              obtain ⟨⟨e0, e1, e2, e3, e4, e5, e6, e7, e8, e9, e10, e11, e12, e13⟩, f0, f1, f2, f3, f4, f5, f6, f7, f8, f9, f10, f11, f12, f13⟩ := hcells.out u3 hb4
              go_wp2
              go_ret
              exact ⟨rfl, hz4⟩
end Go.Proofs.YthijagpnpcpcbaaGreat
namespace Go.Proofs.YthijagpnpcpcbaaGreat
open Go.RowKit Go.Sort
theorem nL_sum : ∀ {k : List (List DT)} {m : List DT}, m ∈ k → nL m ≤ (k.map nL).sum
  | a :: k, m, h => by
    rw [List.map_cons, List.sum_cons]
    rcases List.mem_cons.1 h with rfl | h
    · omega
    · have := nL_sum h; omega
theorem kid_n {x z : DT} {i : Nat} (h : z ∈ x.kid i) : z.n < x.n := by
  obtain ⟨c, k⟩ := x
  have hk : z ∈ k.getD i [] := h
  rw [List.getD_eq_getElem?_getD] at hk
  rw [DT.n_node]
  cases hi : k[i]? with
  | none => rw [hi] at hk; cases hk
  | some m =>
    rw [hi] at hk
    have h1 : z.n ≤ nL m := n_mem hk
    have h2 := nL_sum (List.mem_of_getElem? hi)
    omega
theorem same_all : ∀ n : Nat, (∀ x : DT, x.n ≤ n → SmC 7 .expr x) ∧ ∀ x : DT, x.n ≤ n → SmC 25 .rel x
  | 0 => ⟨fun x h => absurd h (by have := x.n_pos; omega), fun x h => absurd h (by have := x.n_pos; omega)⟩
  | n + 1 => by
    obtain ⟨ihe, ihr⟩ := same_all n
    refine ⟨fun x hn y w hs hx hy => ?_, fun x hn y w hs hx hy => ?_⟩
    · exact rSameExpr_step x y w hs hx hy (fun z hz => ihe z (by have := kid_n hz; omega)) (fun z hz => ihr z (by have := kid_n hz; omega))
    · have ag : ∀ {v g : DT} {i : Nat}, v.n ≤ n + 1 → g ∈ v.kid i → ∀ z, z ∈ g.kid 0 ∨ z ∈ g.kid 1 → SmC 7 .expr z := fun {v g i} hv hg z hz => by
        have h1 := kid_n hg
        rcases hz with hz | hz
        · exact ihe z (by have := kid_n hz; omega)
        · exact ihe z (by have := kid_n hz; omega)
      refine rSameRel_step x y w hs hx hy (fun z hz => ihr z (by have := kid_n hz; omega)) (fun z hz => ihe z (by have := kid_n hz; omega)) (fun g hg z hz => ag hn hg z hz) (fun v hv => ⟨fun z hz => ?_, fun g hg z hz => ?_, fun z hz => ?_⟩) (fun z hz => ihe _ (by rw [keyE_n]; have := kid_n hz; omega))
      · have h1 := kid_n hv
        rcases hz with hz | hz
        · exact ihe z (by have := kid_n hz; omega)
        · exact ihe z (by have := kid_n hz; omega)
      · have h1 := kid_n hv
        exact ag (v := v) (by omega) hg z hz
      · have h1 := kid_n hv
        rcases hz with hz | hz
        · exact ihe _ (by rw [keyE_n]; have := kid_n hz; omega)
        · exact ihe _ (by rw [keyE_n]; have := kid_n hz; omega)
theorem rSameExpr_sm (x : DT) : SmC 7 .expr x := (same_all x.n).1 x (Nat.le_refl _)
end Go.Proofs.YthijagpnpcpcbaaGreat

