/-
  The reference of package plan: sameWindows.
-/
import Derived.Test.YthijagpnpcpcbaaGreatQGtE
import Derived.BigRegion
namespace Go.Proofs.YthijagpnpcpcbaaGreat
open Go.RowKit Go.Sort
theorem ulen5 {α : Type} : ∀ {l : List α}, l.length = 5 → ∃ a b c d e, l = [a, b, c, d, e]
  | [a, b, c, d, e], _ => ⟨a, b, c, d, e, rfl⟩
/-- A window function, taken apart. -/
structure WinU (S : Nat → Prop) (w : World) (d : DT) (k n u fk fn tk tn : Int) (A : Option Addr) (ac : Nat) (az : List DT) (B : Option Addr) (gc : Nat) (gz : List DT) (C : Option Addr) (pc : Nat) (pz : List DT) (D : Option Addr) (kc : Nat) (kz : List DT) (E : Option Addr) (tc : Nat) (tz : List DT) : Prop where
  e : d = .node [.int .i64 k, .int .i64 n, .slice A az.length ac, .slice B gz.length gc, .slice C pz.length pc, .slice D kz.length kc, .slice E tz.length tc, .int .i64 u, .int .i64 fk, .int .i64 fn, .int .i64 tk, .int .i64 tn] [az, gz, pz, kz, tz]
  ok : I64 k ∧ I64 n ∧ I64 u ∧ I64 fk ∧ I64 fn ∧ I64 tk ∧ I64 tn
  ra : DRow S w 14 A ac az
  ia : ∀ x, x ∈ az → UIn S w .expr x
  rg : DRow S w 5 B gc gz
  ig : ∀ x, x ∈ gz → UIn S w .agg x
  rp : DRow S w 14 C pc pz
  ip : ∀ x, x ∈ pz → UIn S w .expr x
  rk : DRow S w 16 D kc kz
  ik : ∀ x, x ∈ kz → UIn S w .key x
  rt : DRow S w 16 E tc tz
  it : ∀ x, x ∈ tz → UIn S w .key x
theorem UIn.wi {S : Nat → Prop} {w : World} {d : DT} (h : UIn S w .win d) : ∃ k n u fk fn tk tn A ac az B gc gz C pc pz D kc kz E tc tz, WinU S w d k n u fk fn tk tn A ac az B gc gz C pc pz D kc kz E tc tz := by
  cases h with
  | mk _ c kk hl h1 hok hk hr hx =>
    obtain ⟨az, gz, pz, kz, tz, rfl⟩ := ulen5 hk
    obtain ⟨k, n, v2, v3, v4, v5, v6, u, fk, fn, tk, tn, rfl, ok⟩ := hok
    obtain ⟨A, ac, e1, r1⟩ := hr 0 2 .expr az rfl rfl
    obtain ⟨B, gc, e2, r2⟩ := hr 1 3 .agg gz rfl rfl
    obtain ⟨C, pc, e3, r3⟩ := hr 2 4 .expr pz rfl rfl
    obtain ⟨D, kc, e4, r4⟩ := hr 3 5 .key kz rfl rfl
    obtain ⟨E, tc, e5, r5⟩ := hr 4 6 .key tz rfl rfl
    simp at e1 e2 e3 e4 e5
    subst e1 e2 e3 e4 e5
    exact ⟨k, n, u, fk, fn, tk, tn, A, ac, az, B, gc, gz, C, pc, pz, D, kc, kz, E, tc, tz, rfl, ok, r1, hx 0 2 .expr az rfl rfl, r2, hx 1 3 .agg gz rfl rfl, r3, hx 2 4 .expr pz rfl rfl, r4, hx 3 5 .key kz rfl rfl, r5, hx 4 6 .key tz rfl rfl⟩
theorem USm.wi {k n u fk fn tk tn k' n' u' fk' fn' tk' tn' : Int} {v2 v3 v4 v5 v6 w2 w3 w4 w5 w6 : Value} {az gz pz kz tz az2 gz2 pz2 kz2 tz2 : List DT}
    (h : USm .win (.node [.int .i64 k, .int .i64 n, v2, v3, v4, v5, v6, .int .i64 u, .int .i64 fk, .int .i64 fn, .int .i64 tk, .int .i64 tn] [az, gz, pz, kz, tz]) (.node [.int .i64 k', .int .i64 n', w2, w3, w4, w5, w6, .int .i64 u', .int .i64 fk', .int .i64 fn', .int .i64 tk', .int .i64 tn'] [az2, gz2, pz2, kz2, tz2])) :
    (k = k' ∧ n = n' ∧ u = u' ∧ fk = fk' ∧ fn = fn' ∧ tk = tk' ∧ tn = tn') ∧ USL .expr az az2 ∧ USL .agg gz gz2 ∧ USL .expr pz pz2 ∧ USL .key kz kz2 ∧ USL .key tz tz2 := by
  cases h with
  | mk _ _ _ _ _ hc he hk hl hx =>
    have h0 := he 0 (by intro s hs; simp [Uy.sl] at hs)
    have h1 := he 1 (by intro s hs; simp [Uy.sl] at hs)
    have h7 := he 7 (by intro s hs; simp [Uy.sl] at hs)
    have h8 := he 8 (by intro s hs; simp [Uy.sl] at hs)
    have h9 := he 9 (by intro s hs; simp [Uy.sl] at hs)
    have h10 := he 10 (by intro s hs; simp [Uy.sl] at hs)
    have h11 := he 11 (by intro s hs; simp [Uy.sl] at hs)
    simp at h0 h1 h7 h8 h9 h10 h11
    exact ⟨⟨h0, h1, h7, h8, h9, h10, h11⟩, ⟨hl 0 az az2 rfl rfl, hx 0 2 .expr az az2 rfl rfl rfl⟩, ⟨hl 1 gz gz2 rfl rfl, hx 1 3 .agg gz gz2 rfl rfl rfl⟩, ⟨hl 2 pz pz2 rfl rfl, hx 2 4 .expr pz pz2 rfl rfl rfl⟩, ⟨hl 3 kz kz2 rfl rfl, hx 3 5 .key kz kz2 rfl rfl rfl⟩, hl 4 tz tz2 rfl rfl, hx 4 6 .key tz tz2 rfl rfl rfl⟩
set_option maxRecDepth 100000 in
set_option maxHeartbeats 16000000 in
theorem rsameWindows_any (l m : List DT) (WA WA2 : Option Addr) (cap cap2 : Nat) (w : World) (hlm : USL .win l m) (rl : DRow (Lv w) w 12 WA cap l) (il : ∀ x, x ∈ l → UIn (Lv w) w .win x) (rm : DRow (Lv w) w 12 WA2 cap2 m) (im : ∀ x, x ∈ m → UIn (Lv w) w .win x)
    (hce : ∀ x, x ∈ l → ∀ z, z ∈ x.kid 0 ∨ z ∈ x.kid 2 → SmC 7 .expr z) (hcg : ∀ x, x ∈ l → ∀ g, g ∈ x.kid 1 → ∀ z, z ∈ g.kid 0 ∨ z ∈ g.kid 1 → SmC 7 .expr z) (hck : ∀ x, x ∈ l → ∀ z, z ∈ x.kid 3 ∨ z ∈ x.kid 4 → SmC 7 .expr (keyE z)) :
    Calls Tryz.prog 46 #[.slice WA l.length cap, .slice WA2 m.length cap2] w (Tru w) := by
  obtain ⟨len, hlen⟩ : ∃ q, l.length = q := ⟨_, rfl⟩
  have hlen2 : m.length = len := by rw [← hlm.1]; exact hlen
  have hll := rl.len_le
  rw [hlen] at hll ⊢
  rw [hlen2]
  have Rl := Lib.hid rl
  have Rm := Lib.hid rm
  have Il := Lib.hid il
  have Im := Lib.hid im
  have Hlm := Lib.hid hlm
  have Hlen := Lib.hid hlen
  have Hlen2 := Lib.hid hlen2
  have Hce := Lib.hid hce
  have Hcg := Lib.hid hcg
  have Hck := Lib.hid hck
  clear rl rm il im hlm hlen hlen2 hce hcg hck
  go_enter Tryz.func46, Tryz.ntmps46
  go_wp2
  go_loopw [15] (fun i wr => ∃ j : Nat, j ≤ len ∧ i = .int .i64 j ∧ Below w.heap.size w wr) (fun i _ => len - (intOf i).toNat)
  case atStart => exact ⟨0, Nat.zero_le _, rfl, Below.refl _ _⟩
  case round =>
    obtain ⟨j, hj, rfl, hzr⟩ := hrel
    by_cases hlt : j < len
    · obtain ⟨x, ad, hx, rfl, hb, hat⟩ := (Rl.out.below hzr).get (show j < l.length by rw [Hlen.out]; exact hlt)
      obtain ⟨y, ad2, hy, rfl, hb2, hat2⟩ := (Rm.out.below hzr).get (show j < m.length by rw [Hlen2.out]; exact hlt)
      have hxm := mem_of_get? hx
      have hsm := Hlm.out.2 j x y hx hy
      obtain ⟨k, n, u, fk, fn, tk, tn, A, ac, az, B, gc, gz, C, pc, pz, D, kc, kz, E, tc, tz, rfl, _, ra, ia, rg, ig, rp, ip, rk, ik, rt, it⟩ := ((Il.out x hxm).blw hzr).wi
      obtain ⟨k', n', u', fk', fn', tk', tn', A2, ac2, az2, B2, gc2, gz2, C2, pc2, pz2, D2, kc2, kz2, E2, tc2, tz2, rfl, _, ra2, ia2, rg2, ig2, rp2, ip2, rk2, ik2, rt2, it2⟩ := ((Im.out y (mem_of_get? hy)).blw hzr).wi
      obtain ⟨⟨rfl, rfl, rfl, rfl, rfl, rfl, rfl⟩, s1, s2, s3, s4, s5⟩ := hsm.wi
      have ha : Hid (∀ W, Below wr.heap.size wr W → Calls Tryz.prog 44 #[.slice A az.length ac, .slice A2 az2.length ac2] W (Tru W)) := fun W hb =>
        rsameExprs_any az az2 A A2 ac ac2 W s1 (ra.below hb) (fun x hx => (ia x hx).blw hb) (ra2.below hb) (fun x hx => (ia2 x hx).blw hb) (fun x hx => Hce.out _ hxm x (.inl hx))
      have hg : Hid (∀ W, Below wr.heap.size wr W → Calls Tryz.prog 45 #[.slice B gz.length gc, .slice B2 gz2.length gc2] W (Tru W)) := fun W hb =>
        rsameAggs_any gz gz2 B B2 gc gc2 W s2 (rg.below hb) (fun x hx => (ig x hx).blw hb) (rg2.below hb) (fun x hx => (ig2 x hx).blw hb) (fun x hx => Hcg.out _ hxm x hx)
      have hp : Hid (∀ W, Below wr.heap.size wr W → Calls Tryz.prog 44 #[.slice C pz.length pc, .slice C2 pz2.length pc2] W (Tru W)) := fun W hb =>
        rsameExprs_any pz pz2 C C2 pc pc2 W s3 (rp.below hb) (fun x hx => (ip x hx).blw hb) (rp2.below hb) (fun x hx => (ip2 x hx).blw hb) (fun x hx => Hce.out _ hxm x (.inr hx))
      have hk : Hid (∀ W, Below wr.heap.size wr W → Calls Tryz.prog 47 #[.slice D kz.length kc, .slice D2 kz2.length kc2] W (Tru W)) := fun W hb =>
        rsameKeys_any kz kz2 D D2 kc kc2 W s4 (rk.below hb) (fun x hx => (ik x hx).blw hb) (rk2.below hb) (fun x hx => (ik2 x hx).blw hb) (fun x hx => Hck.out _ hxm x (.inl hx))
      have ht : Hid (∀ W, Below wr.heap.size wr W → Calls Tryz.prog 47 #[.slice E tz.length tc, .slice E2 tz2.length tc2] W (Tru W)) := fun W hb =>
        rsameKeys_any tz tz2 E E2 tc tc2 W s5 (rt.below hb) (fun x hx => (it x hx).blw hb) (rt2.below hb) (fun x hx => (it2 x hx).blw hb) (fun x hx => Hck.out _ hxm x (.inr hx))
      have d0 : wr.cell? (ad.add (j * 12)) = some (.int .i64 k) := hat 0 _ rfl
      have d1 : wr.cell? ⟨(ad.add (j * 12)).block, (ad.add (j * 12)).off + 1, none⟩ = some (.int .i64 n) := hat 1 _ rfl
      have d2 : wr.cell? ⟨(ad.add (j * 12)).block, (ad.add (j * 12)).off + 2, none⟩ = some (.slice A az.length ac) := hat 2 _ rfl
      have d3 : wr.cell? ⟨(ad.add (j * 12)).block, (ad.add (j * 12)).off + 3, none⟩ = some (.slice B gz.length gc) := hat 3 _ rfl
      have d4 : wr.cell? ⟨(ad.add (j * 12)).block, (ad.add (j * 12)).off + 4, none⟩ = some (.slice C pz.length pc) := hat 4 _ rfl
      have d5 : wr.cell? ⟨(ad.add (j * 12)).block, (ad.add (j * 12)).off + 5, none⟩ = some (.slice D kz.length kc) := hat 5 _ rfl
      have d6 : wr.cell? ⟨(ad.add (j * 12)).block, (ad.add (j * 12)).off + 6, none⟩ = some (.slice E tz.length tc) := hat 6 _ rfl
      have d7 : wr.cell? ⟨(ad.add (j * 12)).block, (ad.add (j * 12)).off + 7, none⟩ = some (.int .i64 u) := hat 7 _ rfl
      have d8 : wr.cell? ⟨(ad.add (j * 12)).block, (ad.add (j * 12)).off + 8, none⟩ = some (.int .i64 fk) := hat 8 _ rfl
      have d9 : wr.cell? ⟨(ad.add (j * 12)).block, (ad.add (j * 12)).off + 9, none⟩ = some (.int .i64 fn) := hat 9 _ rfl
      have d10 : wr.cell? ⟨(ad.add (j * 12)).block, (ad.add (j * 12)).off + 10, none⟩ = some (.int .i64 tk) := hat 10 _ rfl
      have d11 : wr.cell? ⟨(ad.add (j * 12)).block, (ad.add (j * 12)).off + 11, none⟩ = some (.int .i64 tn) := hat 11 _ rfl
      have c0 : wr.cell? (ad2.add (j * 12)) = some (.int .i64 k) := hat2 0 _ rfl
      have c1 : wr.cell? ⟨(ad2.add (j * 12)).block, (ad2.add (j * 12)).off + 1, none⟩ = some (.int .i64 n) := hat2 1 _ rfl
      have c2 : wr.cell? ⟨(ad2.add (j * 12)).block, (ad2.add (j * 12)).off + 2, none⟩ = some (.slice A2 az2.length ac2) := hat2 2 _ rfl
      have c3 : wr.cell? ⟨(ad2.add (j * 12)).block, (ad2.add (j * 12)).off + 3, none⟩ = some (.slice B2 gz2.length gc2) := hat2 3 _ rfl
      have c4 : wr.cell? ⟨(ad2.add (j * 12)).block, (ad2.add (j * 12)).off + 4, none⟩ = some (.slice C2 pz2.length pc2) := hat2 4 _ rfl
      have c5 : wr.cell? ⟨(ad2.add (j * 12)).block, (ad2.add (j * 12)).off + 5, none⟩ = some (.slice D2 kz2.length kc2) := hat2 5 _ rfl
      have c6 : wr.cell? ⟨(ad2.add (j * 12)).block, (ad2.add (j * 12)).off + 6, none⟩ = some (.slice E2 tz2.length tc2) := hat2 6 _ rfl
      have c7 : wr.cell? ⟨(ad2.add (j * 12)).block, (ad2.add (j * 12)).off + 7, none⟩ = some (.int .i64 u) := hat2 7 _ rfl
      have c8 : wr.cell? ⟨(ad2.add (j * 12)).block, (ad2.add (j * 12)).off + 8, none⟩ = some (.int .i64 fk) := hat2 8 _ rfl
      have c9 : wr.cell? ⟨(ad2.add (j * 12)).block, (ad2.add (j * 12)).off + 9, none⟩ = some (.int .i64 fn) := hat2 9 _ rfl
      have c10 : wr.cell? ⟨(ad2.add (j * 12)).block, (ad2.add (j * 12)).off + 10, none⟩ = some (.int .i64 tk) := hat2 10 _ rfl
      have c11 : wr.cell? ⟨(ad2.add (j * 12)).block, (ad2.add (j * 12)).off + 11, none⟩ = some (.int .i64 tn) := hat2 11 _ rfl
      have d0a := fun o => cell_old d0 o
      have d0b := fun o o2 => cell_old (cell_old d0 o) o2
      have d1a := fun o => cell_old d1 o
      have d1b := fun o o2 => cell_old (cell_old d1 o) o2
      have d2a := fun o => cell_old d2 o
      have d2b := fun o o2 => cell_old (cell_old d2 o) o2
      have d3a := fun o => cell_old d3 o
      have d3b := fun o o2 => cell_old (cell_old d3 o) o2
      have d4a := fun o => cell_old d4 o
      have d4b := fun o o2 => cell_old (cell_old d4 o) o2
      have d5a := fun o => cell_old d5 o
      have d5b := fun o o2 => cell_old (cell_old d5 o) o2
      have d6a := fun o => cell_old d6 o
      have d6b := fun o o2 => cell_old (cell_old d6 o) o2
      have d7a := fun o => cell_old d7 o
      have d7b := fun o o2 => cell_old (cell_old d7 o) o2
      have d8a := fun o => cell_old d8 o
      have d8b := fun o o2 => cell_old (cell_old d8 o) o2
      have d9a := fun o => cell_old d9 o
      have d9b := fun o o2 => cell_old (cell_old d9 o) o2
      have d10a := fun o => cell_old d10 o
      have d10b := fun o o2 => cell_old (cell_old d10 o) o2
      have d11a := fun o => cell_old d11 o
      have d11b := fun o o2 => cell_old (cell_old d11 o) o2
      have c0a := fun o => cell_old c0 o
      have c0b := fun o o2 => cell_old (cell_old c0 o) o2
      have c1a := fun o => cell_old c1 o
      have c1b := fun o o2 => cell_old (cell_old c1 o) o2
      have c2a := fun o => cell_old c2 o
      have c2b := fun o o2 => cell_old (cell_old c2 o) o2
      have c3a := fun o => cell_old c3 o
      have c3b := fun o o2 => cell_old (cell_old c3 o) o2
      have c4a := fun o => cell_old c4 o
      have c4b := fun o o2 => cell_old (cell_old c4 o) o2
      have c5a := fun o => cell_old c5 o
      have c5b := fun o o2 => cell_old (cell_old c5 o) o2
      have c6a := fun o => cell_old c6 o
      have c6b := fun o o2 => cell_old (cell_old c6 o) o2
      have c7a := fun o => cell_old c7 o
      have c7b := fun o o2 => cell_old (cell_old c7 o) o2
      have c8a := fun o => cell_old c8 o
      have c8b := fun o o2 => cell_old (cell_old c8 o) o2
      have c9a := fun o => cell_old c9 o
      have c9b := fun o o2 => cell_old (cell_old c9 o) o2
      have c10a := fun o => cell_old c10 o
      have c10b := fun o o2 => cell_old (cell_old c10 o) o2
      have c11a := fun o => cell_old c11 o
      have c11b := fun o o2 => cell_old (cell_old c11 o) o2
      clear hx hy hat hat2 hsm hxm s1 s2 s3 s4 s5 ra ia rg ig rp ip rk ik rt it ra2 ia2 rg2 ig2 rp2 ip2 rk2 ik2 rt2 it2
      go_upto_region 6 with (fail)
      go_region
      · clear d0 d0a d0b d1 d1a d1b d2 d2a d2b d3 d3a d3b d4 d4a d4b d5 d5a d5b d6 d6a d6b d7 d7a d7b d8 d8a d8b d9 d9a d9b d10 d10a d10b d11 d11a d11b c0 c0a c0b c1 c1a c1b c2 c2a c2b c3 c3a c3b c4 c4a c4b c5 c5a c5b c6 c6a c6b c7 c7a c7b c8 c8a c8b c9 c9a c9b c10 c10a c10b c11 c11a c11b
        obtain ⟨W1, hW1⟩ : ∃ W1, ((wr.alloc (.cells #[.int .i64 k, .int .i64 n, .slice A az.length ac, .slice B gz.length gc, .slice C pz.length pc, .slice D kz.length kc, .slice E tz.length tc, .int .i64 u, .int .i64 fk, .int .i64 fn, .int .i64 tk, .int .i64 tn] 103)).alloc (.cells #[.int .i64 k, .int .i64 n, .slice A2 az2.length ac2, .slice B2 gz2.length gc2, .slice C2 pz2.length pc2, .slice D2 kz2.length kc2, .slice E2 tz2.length tc2, .int .i64 u, .int .i64 fk, .int .i64 fn, .int .i64 tk, .int .i64 tn] 103)).drew = W1 := ⟨_, rfl⟩
        have hb1 : Below wr.heap.size wr W1 := by rw [← hW1]; exact (bel2 _ _ _).drew
        have Q0 : W1.heap[wr.heap.size]? = some (.cells #[.int .i64 k, .int .i64 n, .slice A az.length ac, .slice B gz.length gc, .slice C pz.length pc, .slice D kz.length kc, .slice E tz.length tc, .int .i64 u, .int .i64 fk, .int .i64 fn, .int .i64 tk, .int .i64 tn] 103 (0, 0)) := by rw [← hW1]; show ((wr.alloc _).alloc _).heap[_]? = _; rw [Below.heap_alloc _ _ _ (by simp)]; exact heap_alloc_new wr _
        have Q1 : W1.heap[wr.heap.size + 1]? = some (.cells #[.int .i64 k, .int .i64 n, .slice A2 az2.length ac2, .slice B2 gz2.length gc2, .slice C2 pz2.length pc2, .slice D2 kz2.length kc2, .slice E2 tz2.length tc2, .int .i64 u, .int .i64 fk, .int .i64 fn, .int .i64 tk, .int .i64 tn] 103 (0, 0)) := by
          rw [← hW1]
          have q := heap_alloc_new (wr.alloc (.cells #[.int .i64 k, .int .i64 n, .slice A az.length ac, .slice B gz.length gc, .slice C pz.length pc, .slice D kz.length kc, .slice E tz.length tc, .int .i64 u, .int .i64 fk, .int .i64 fn, .int .i64 tk, .int .i64 tn] 103)) (.cells #[.int .i64 k, .int .i64 n, .slice A2 az2.length ac2, .slice B2 gz2.length gc2, .slice C2 pz2.length pc2, .slice D2 kz2.length kc2, .slice E2 tz2.length tc2, .int .i64 u, .int .i64 fk, .int .i64 fn, .int .i64 tk, .int .i64 tn] 103)
          have z : (wr.alloc (.cells #[.int .i64 k, .int .i64 n, .slice A az.length ac, .slice B gz.length gc, .slice C pz.length pc, .slice D kz.length kc, .slice E tz.length tc, .int .i64 u, .int .i64 fk, .int .i64 fn, .int .i64 tk, .int .i64 tn] 103)).heap.size = wr.heap.size + 1 := by simp
          rw [z] at q
          exact q
        have hcells : Hid (∀ W, Below W1.heap.size W1 W → (W.cell? ⟨wr.heap.size, 0, none⟩ = some (.int .i64 k) ∧ W.cell? ⟨wr.heap.size, 1, none⟩ = some (.int .i64 n) ∧ W.cell? ⟨wr.heap.size, 2, none⟩ = some (.slice A az.length ac) ∧ W.cell? ⟨wr.heap.size, 3, none⟩ = some (.slice B gz.length gc) ∧ W.cell? ⟨wr.heap.size, 4, none⟩ = some (.slice C pz.length pc) ∧ W.cell? ⟨wr.heap.size, 5, none⟩ = some (.slice D kz.length kc) ∧ W.cell? ⟨wr.heap.size, 6, none⟩ = some (.slice E tz.length tc) ∧ W.cell? ⟨wr.heap.size, 7, none⟩ = some (.int .i64 u) ∧ W.cell? ⟨wr.heap.size, 8, none⟩ = some (.int .i64 fk) ∧ W.cell? ⟨wr.heap.size, 9, none⟩ = some (.int .i64 fn) ∧ W.cell? ⟨wr.heap.size, 10, none⟩ = some (.int .i64 tk) ∧ W.cell? ⟨wr.heap.size, 11, none⟩ = some (.int .i64 tn)) ∧ (W.cell? ⟨wr.heap.size + 1, 0, none⟩ = some (.int .i64 k) ∧ W.cell? ⟨wr.heap.size + 1, 1, none⟩ = some (.int .i64 n) ∧ W.cell? ⟨wr.heap.size + 1, 2, none⟩ = some (.slice A2 az2.length ac2) ∧ W.cell? ⟨wr.heap.size + 1, 3, none⟩ = some (.slice B2 gz2.length gc2) ∧ W.cell? ⟨wr.heap.size + 1, 4, none⟩ = some (.slice C2 pz2.length pc2) ∧ W.cell? ⟨wr.heap.size + 1, 5, none⟩ = some (.slice D2 kz2.length kc2) ∧ W.cell? ⟨wr.heap.size + 1, 6, none⟩ = some (.slice E2 tz2.length tc2) ∧ W.cell? ⟨wr.heap.size + 1, 7, none⟩ = some (.int .i64 u) ∧ W.cell? ⟨wr.heap.size + 1, 8, none⟩ = some (.int .i64 fk) ∧ W.cell? ⟨wr.heap.size + 1, 9, none⟩ = some (.int .i64 fn) ∧ W.cell? ⟨wr.heap.size + 1, 10, none⟩ = some (.int .i64 tk) ∧ W.cell? ⟨wr.heap.size + 1, 11, none⟩ = some (.int .i64 tn))) := fun W h => by
          have z0 := (h.block _ (Array.getElem?_eq_some_iff.1 Q0).1).trans Q0
          have z1 := (h.block _ (Array.getElem?_eq_some_iff.1 Q1).1).trans Q1
          simp [World.cell?, z0, z1]
        have HW1 := Lib.hid hW1
        have Hb1 := Lib.hid hb1
        clear hW1 hb1 Q0 Q1
        rw [HW1.out]
        obtain ⟨⟨e0, e1, e2, e3, e4, e5, e6, e7, e8, e9, e10, e11⟩, f0, f1, f2, f3, f4, f5, f6, f7, f8, f9, f10, f11⟩ := hcells.out W1 (Below.refl _ _)
        go_wp2_with fail
        refine (ha.out _ (Hb1.out.trans ((Below.refl W1.heap.size W1).mono Hb1.out.size))).mono ?_
        rintro e v0 ⟨rfl, hbv0⟩
        have hbb0 : Below W1.heap.size W1 v0 := (Below.refl W1.heap.size W1).trans (hbv0.mono (Below.refl W1.heap.size W1).size)
        clear e0 e1 e2 e3 e4 e5 e6 e7 e8 e9 e10 e11 f0 f1 f2 f3 f4 f5 f6 f7 f8 f9 f10 f11
        obtain ⟨⟨e0, e1, e2, e3, e4, e5, e6, e7, e8, e9, e10, e11⟩, f0, f1, f2, f3, f4, f5, f6, f7, f8, f9, f10, f11⟩ := hcells.out v0 hbb0
        go_wp2_with fail
        refine (hg.out _ (Hb1.out.trans (hbb0.mono Hb1.out.size))).mono ?_
        rintro e v1 ⟨rfl, hbv1⟩
        have hbb1 : Below W1.heap.size W1 v1 := hbb0.trans (hbv1.mono hbb0.size)
        clear e0 e1 e2 e3 e4 e5 e6 e7 e8 e9 e10 e11 f0 f1 f2 f3 f4 f5 f6 f7 f8 f9 f10 f11
        obtain ⟨⟨e0, e1, e2, e3, e4, e5, e6, e7, e8, e9, e10, e11⟩, f0, f1, f2, f3, f4, f5, f6, f7, f8, f9, f10, f11⟩ := hcells.out v1 hbb1
        go_wp2_with fail
        refine (hp.out _ (Hb1.out.trans (hbb1.mono Hb1.out.size))).mono ?_
        rintro e v2 ⟨rfl, hbv2⟩
        have hbb2 : Below W1.heap.size W1 v2 := hbb1.trans (hbv2.mono hbb1.size)
        clear e0 e1 e2 e3 e4 e5 e6 e7 e8 e9 e10 e11 f0 f1 f2 f3 f4 f5 f6 f7 f8 f9 f10 f11
        obtain ⟨⟨e0, e1, e2, e3, e4, e5, e6, e7, e8, e9, e10, e11⟩, f0, f1, f2, f3, f4, f5, f6, f7, f8, f9, f10, f11⟩ := hcells.out v2 hbb2
        go_wp2_with fail
        refine (hk.out _ (Hb1.out.trans (hbb2.mono Hb1.out.size))).mono ?_
        rintro e v3 ⟨rfl, hbv3⟩
        have hbb3 : Below W1.heap.size W1 v3 := hbb2.trans (hbv3.mono hbb2.size)
        clear e0 e1 e2 e3 e4 e5 e6 e7 e8 e9 e10 e11 f0 f1 f2 f3 f4 f5 f6 f7 f8 f9 f10 f11
        obtain ⟨⟨e0, e1, e2, e3, e4, e5, e6, e7, e8, e9, e10, e11⟩, f0, f1, f2, f3, f4, f5, f6, f7, f8, f9, f10, f11⟩ := hcells.out v3 hbb3
        go_wp2_with fail
        refine (ht.out _ (Hb1.out.trans (hbb3.mono Hb1.out.size))).mono ?_
        rintro e v4 ⟨rfl, hbv4⟩
        have hbb4 : Below W1.heap.size W1 v4 := hbb3.trans (hbv4.mono hbb3.size)
        clear e0 e1 e2 e3 e4 e5 e6 e7 e8 e9 e10 e11 f0 f1 f2 f3 f4 f5 f6 f7 f8 f9 f10 f11
        obtain ⟨⟨e0, e1, e2, e3, e4, e5, e6, e7, e8, e9, e10, e11⟩, f0, f1, f2, f3, f4, f5, f6, f7, f8, f9, f10, f11⟩ := hcells.out v4 hbb4
        go_wp2
        go_roundw
        case rel => exact ⟨j + 1, by omega, by go_num, hzr.trans ((Hb1.out.trans (hbb4.mono Hb1.out.size)).mono hzr.size)⟩
        case measure => simp [intOf]; omega
      · clear d0 d0a d0b d1 d1a d1b d2 d2a d2b d3 d3a d3b d4 d4a d4b d5 d5a d5b d6 d6a d6b d7 d7a d7b d8 d8a d8b d9 d9a d9b d10 d10a d10b d11 d11a d11b c0 c0a c0b c1 c1a c1b c2 c2a c2b c3 c3a c3b c4 c4a c4b c5 c5a c5b c6 c6a c6b c7 c7a c7b c8 c8a c8b c9 c9a c9b c10 c10a c10b c11 c11a c11b
        obtain ⟨W1, hW1⟩ : ∃ W1, ((wr.alloc (.cells #[.int .i64 k, .int .i64 n, .slice A2 az2.length ac2, .slice B2 gz2.length gc2, .slice C2 pz2.length pc2, .slice D2 kz2.length kc2, .slice E2 tz2.length tc2, .int .i64 u, .int .i64 fk, .int .i64 fn, .int .i64 tk, .int .i64 tn] 103)).alloc (.cells #[.int .i64 k, .int .i64 n, .slice A az.length ac, .slice B gz.length gc, .slice C pz.length pc, .slice D kz.length kc, .slice E tz.length tc, .int .i64 u, .int .i64 fk, .int .i64 fn, .int .i64 tk, .int .i64 tn] 103)).drew = W1 := ⟨_, rfl⟩
        have hb1 : Below wr.heap.size wr W1 := by rw [← hW1]; exact (bel2 _ _ _).drew
        have Q0 : W1.heap[wr.heap.size]? = some (.cells #[.int .i64 k, .int .i64 n, .slice A2 az2.length ac2, .slice B2 gz2.length gc2, .slice C2 pz2.length pc2, .slice D2 kz2.length kc2, .slice E2 tz2.length tc2, .int .i64 u, .int .i64 fk, .int .i64 fn, .int .i64 tk, .int .i64 tn] 103 (0, 0)) := by rw [← hW1]; show ((wr.alloc _).alloc _).heap[_]? = _; rw [Below.heap_alloc _ _ _ (by simp)]; exact heap_alloc_new wr _
        have Q1 : W1.heap[wr.heap.size + 1]? = some (.cells #[.int .i64 k, .int .i64 n, .slice A az.length ac, .slice B gz.length gc, .slice C pz.length pc, .slice D kz.length kc, .slice E tz.length tc, .int .i64 u, .int .i64 fk, .int .i64 fn, .int .i64 tk, .int .i64 tn] 103 (0, 0)) := by
          rw [← hW1]
          have q := heap_alloc_new (wr.alloc (.cells #[.int .i64 k, .int .i64 n, .slice A2 az2.length ac2, .slice B2 gz2.length gc2, .slice C2 pz2.length pc2, .slice D2 kz2.length kc2, .slice E2 tz2.length tc2, .int .i64 u, .int .i64 fk, .int .i64 fn, .int .i64 tk, .int .i64 tn] 103)) (.cells #[.int .i64 k, .int .i64 n, .slice A az.length ac, .slice B gz.length gc, .slice C pz.length pc, .slice D kz.length kc, .slice E tz.length tc, .int .i64 u, .int .i64 fk, .int .i64 fn, .int .i64 tk, .int .i64 tn] 103)
          have z : (wr.alloc (.cells #[.int .i64 k, .int .i64 n, .slice A2 az2.length ac2, .slice B2 gz2.length gc2, .slice C2 pz2.length pc2, .slice D2 kz2.length kc2, .slice E2 tz2.length tc2, .int .i64 u, .int .i64 fk, .int .i64 fn, .int .i64 tk, .int .i64 tn] 103)).heap.size = wr.heap.size + 1 := by simp
          rw [z] at q
          exact q
        have hcells : Hid (∀ W, Below W1.heap.size W1 W → (W.cell? ⟨wr.heap.size + 1, 0, none⟩ = some (.int .i64 k) ∧ W.cell? ⟨wr.heap.size + 1, 1, none⟩ = some (.int .i64 n) ∧ W.cell? ⟨wr.heap.size + 1, 2, none⟩ = some (.slice A az.length ac) ∧ W.cell? ⟨wr.heap.size + 1, 3, none⟩ = some (.slice B gz.length gc) ∧ W.cell? ⟨wr.heap.size + 1, 4, none⟩ = some (.slice C pz.length pc) ∧ W.cell? ⟨wr.heap.size + 1, 5, none⟩ = some (.slice D kz.length kc) ∧ W.cell? ⟨wr.heap.size + 1, 6, none⟩ = some (.slice E tz.length tc) ∧ W.cell? ⟨wr.heap.size + 1, 7, none⟩ = some (.int .i64 u) ∧ W.cell? ⟨wr.heap.size + 1, 8, none⟩ = some (.int .i64 fk) ∧ W.cell? ⟨wr.heap.size + 1, 9, none⟩ = some (.int .i64 fn) ∧ W.cell? ⟨wr.heap.size + 1, 10, none⟩ = some (.int .i64 tk) ∧ W.cell? ⟨wr.heap.size + 1, 11, none⟩ = some (.int .i64 tn)) ∧ (W.cell? ⟨wr.heap.size, 0, none⟩ = some (.int .i64 k) ∧ W.cell? ⟨wr.heap.size, 1, none⟩ = some (.int .i64 n) ∧ W.cell? ⟨wr.heap.size, 2, none⟩ = some (.slice A2 az2.length ac2) ∧ W.cell? ⟨wr.heap.size, 3, none⟩ = some (.slice B2 gz2.length gc2) ∧ W.cell? ⟨wr.heap.size, 4, none⟩ = some (.slice C2 pz2.length pc2) ∧ W.cell? ⟨wr.heap.size, 5, none⟩ = some (.slice D2 kz2.length kc2) ∧ W.cell? ⟨wr.heap.size, 6, none⟩ = some (.slice E2 tz2.length tc2) ∧ W.cell? ⟨wr.heap.size, 7, none⟩ = some (.int .i64 u) ∧ W.cell? ⟨wr.heap.size, 8, none⟩ = some (.int .i64 fk) ∧ W.cell? ⟨wr.heap.size, 9, none⟩ = some (.int .i64 fn) ∧ W.cell? ⟨wr.heap.size, 10, none⟩ = some (.int .i64 tk) ∧ W.cell? ⟨wr.heap.size, 11, none⟩ = some (.int .i64 tn))) := fun W h => by
          have z0 := (h.block _ (Array.getElem?_eq_some_iff.1 Q0).1).trans Q0
          have z1 := (h.block _ (Array.getElem?_eq_some_iff.1 Q1).1).trans Q1
          simp [World.cell?, z0, z1]
        have HW1 := Lib.hid hW1
        have Hb1 := Lib.hid hb1
        clear hW1 hb1 Q0 Q1
        rw [HW1.out]
        obtain ⟨⟨e0, e1, e2, e3, e4, e5, e6, e7, e8, e9, e10, e11⟩, f0, f1, f2, f3, f4, f5, f6, f7, f8, f9, f10, f11⟩ := hcells.out W1 (Below.refl _ _)
        go_wp2_with fail
        refine (ha.out _ (Hb1.out.trans ((Below.refl W1.heap.size W1).mono Hb1.out.size))).mono ?_
        rintro e v0 ⟨rfl, hbv0⟩
        have hbb0 : Below W1.heap.size W1 v0 := (Below.refl W1.heap.size W1).trans (hbv0.mono (Below.refl W1.heap.size W1).size)
        clear e0 e1 e2 e3 e4 e5 e6 e7 e8 e9 e10 e11 f0 f1 f2 f3 f4 f5 f6 f7 f8 f9 f10 f11
        obtain ⟨⟨e0, e1, e2, e3, e4, e5, e6, e7, e8, e9, e10, e11⟩, f0, f1, f2, f3, f4, f5, f6, f7, f8, f9, f10, f11⟩ := hcells.out v0 hbb0
        go_wp2_with fail
        refine (hg.out _ (Hb1.out.trans (hbb0.mono Hb1.out.size))).mono ?_
        rintro e v1 ⟨rfl, hbv1⟩
        have hbb1 : Below W1.heap.size W1 v1 := hbb0.trans (hbv1.mono hbb0.size)
        clear e0 e1 e2 e3 e4 e5 e6 e7 e8 e9 e10 e11 f0 f1 f2 f3 f4 f5 f6 f7 f8 f9 f10 f11
        obtain ⟨⟨e0, e1, e2, e3, e4, e5, e6, e7, e8, e9, e10, e11⟩, f0, f1, f2, f3, f4, f5, f6, f7, f8, f9, f10, f11⟩ := hcells.out v1 hbb1
        go_wp2_with fail
        refine (hp.out _ (Hb1.out.trans (hbb1.mono Hb1.out.size))).mono ?_
        rintro e v2 ⟨rfl, hbv2⟩
        have hbb2 : Below W1.heap.size W1 v2 := hbb1.trans (hbv2.mono hbb1.size)
        clear e0 e1 e2 e3 e4 e5 e6 e7 e8 e9 e10 e11 f0 f1 f2 f3 f4 f5 f6 f7 f8 f9 f10 f11
        obtain ⟨⟨e0, e1, e2, e3, e4, e5, e6, e7, e8, e9, e10, e11⟩, f0, f1, f2, f3, f4, f5, f6, f7, f8, f9, f10, f11⟩ := hcells.out v2 hbb2
        go_wp2_with fail
        refine (hk.out _ (Hb1.out.trans (hbb2.mono Hb1.out.size))).mono ?_
        rintro e v3 ⟨rfl, hbv3⟩
        have hbb3 : Below W1.heap.size W1 v3 := hbb2.trans (hbv3.mono hbb2.size)
        clear e0 e1 e2 e3 e4 e5 e6 e7 e8 e9 e10 e11 f0 f1 f2 f3 f4 f5 f6 f7 f8 f9 f10 f11
        obtain ⟨⟨e0, e1, e2, e3, e4, e5, e6, e7, e8, e9, e10, e11⟩, f0, f1, f2, f3, f4, f5, f6, f7, f8, f9, f10, f11⟩ := hcells.out v3 hbb3
        go_wp2_with fail
        refine (ht.out _ (Hb1.out.trans (hbb3.mono Hb1.out.size))).mono ?_
        rintro e v4 ⟨rfl, hbv4⟩
        have hbb4 : Below W1.heap.size W1 v4 := hbb3.trans (hbv4.mono hbb3.size)
        clear e0 e1 e2 e3 e4 e5 e6 e7 e8 e9 e10 e11 f0 f1 f2 f3 f4 f5 f6 f7 f8 f9 f10 f11
        obtain ⟨⟨e0, e1, e2, e3, e4, e5, e6, e7, e8, e9, e10, e11⟩, f0, f1, f2, f3, f4, f5, f6, f7, f8, f9, f10, f11⟩ := hcells.out v4 hbb4
        go_wp2
        go_roundw
        case rel => exact ⟨j + 1, by omega, by go_num, hzr.trans ((Hb1.out.trans (hbb4.mono Hb1.out.size)).mono hzr.size)⟩
        case measure => simp [intOf]; omega
    · obtain rfl : j = len := by omega
      go_wp2
      go_ret
      exact ⟨rfl, hzr⟩
end Go.Proofs.YthijagpnpcpcbaaGreat

