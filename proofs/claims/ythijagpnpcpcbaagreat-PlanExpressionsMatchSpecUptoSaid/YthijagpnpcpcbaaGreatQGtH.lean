/-
  The reference of package plan: SameExpr, if it is true of what is smaller.
-/
import Derived.Test.YthijagpnpcpcbaaGreatQGtF
namespace Go.Proofs.YthijagpnpcpcbaaGreat
open Go.RowKit Go.Sort
/-- An expression, taken apart. -/
structure ExU (S : Nat → Prop) (w : World) (d : DT) (a : EQ) (F : Option Addr) (fc : Nat) (fz : List DT) (V : Option Addr) (vc : Nat) (vz : List DT) (A : Option Addr) (ac : Nat) (az : List DT) (B : Option Addr) (sc : Nat) (sz : List DT) : Prop where
  e : d = .node [.int .i64 a.k, .int .i64 a.op, .int .i64 a.up, .int .i64 a.pos, .int .i64 a.tk, .int .i64 a.tsc, .slice F fz.length fc, .int .i64 a.vk, .int .i64 a.vn, .int .i64 a.vsc, .string a.s, .slice V vz.length vc, .slice A az.length ac, .slice B sz.length sc] [fz, vz, az, sz]
  ok : a.Ok
  rf : DRow S w 6 F fc fz
  jf : ∀ x, x ∈ fz → UIn S w .field x
  rv : DRow S w 5 V vc vz
  iv : ∀ x, x ∈ vz → UIn S w .value x
  ra : DRow S w 14 A ac az
  ia : ∀ x, x ∈ az → UIn S w .expr x
  rs : DRow S w 14 B sc sz
  js : ∀ x, x ∈ sz → UIn S w .rel x
theorem UIn.ex {S : Nat → Prop} {w : World} {d : DT} (h : UIn S w .expr d) : ∃ a F fc fz V vc vz A ac az B sc sz, ExU S w d a F fc fz V vc vz A ac az B sc sz := by
  cases h with
  | mk _ c kk hl h1 hok hk hr hx =>
    obtain ⟨fz, vz, az, sz, rfl⟩ := ulen4 hk
    obtain ⟨a, v6, v11, v12, v13, rfl, ok⟩ := hok
    obtain ⟨F, fc, e1, r1⟩ := hr 0 6 .field fz rfl rfl
    obtain ⟨V, vc, e2, r2⟩ := hr 1 11 .value vz rfl rfl
    obtain ⟨A, ac, e3, r3⟩ := hr 2 12 .expr az rfl rfl
    obtain ⟨B, sc, e4, r4⟩ := hr 3 13 .rel sz rfl rfl
    simp at e1 e2 e3 e4
    subst e1 e2 e3 e4
    exact ⟨a, F, fc, fz, V, vc, vz, A, ac, az, B, sc, sz, rfl, ok, r1, hx 0 6 .field fz rfl rfl, r2, hx 1 11 .value vz rfl rfl, r3, hx 2 12 .expr az rfl rfl, r4, hx 3 13 .rel sz rfl rfl⟩
theorem USm.ex {a b : EQ} {v6 v11 v12 v13 w6 w11 w12 w13 : Value} {fz vz az sz fz2 vz2 az2 sz2 : List DT}
    (h : USm .expr (.node [.int .i64 a.k, .int .i64 a.op, .int .i64 a.up, .int .i64 a.pos, .int .i64 a.tk, .int .i64 a.tsc, v6, .int .i64 a.vk, .int .i64 a.vn, .int .i64 a.vsc, .string a.s, v11, v12, v13] [fz, vz, az, sz]) (.node [.int .i64 b.k, .int .i64 b.op, .int .i64 b.up, .int .i64 b.pos, .int .i64 b.tk, .int .i64 b.tsc, w6, .int .i64 b.vk, .int .i64 b.vn, .int .i64 b.vsc, .string b.s, w11, w12, w13] [fz2, vz2, az2, sz2])) :
    a = b ∧ USL .field fz fz2 ∧ USL .value vz vz2 ∧ USL .expr az az2 ∧ USL .rel sz sz2 := by
  cases h with
  | mk _ _ _ _ _ hc he hk hl hx =>
    have h0 := he 0 (by intro s hs; simp [Uy.sl] at hs)
    have h1 := he 1 (by intro s hs; simp [Uy.sl] at hs)
    have h2 := he 2 (by intro s hs; simp [Uy.sl] at hs)
    have h3 := he 3 (by intro s hs; simp [Uy.sl] at hs)
    have h4 := he 4 (by intro s hs; simp [Uy.sl] at hs)
    have h5 := he 5 (by intro s hs; simp [Uy.sl] at hs)
    have h7 := he 7 (by intro s hs; simp [Uy.sl] at hs)
    have h8 := he 8 (by intro s hs; simp [Uy.sl] at hs)
    have h9 := he 9 (by intro s hs; simp [Uy.sl] at hs)
    have h10 := he 10 (by intro s hs; simp [Uy.sl] at hs)
    simp at h0 h1 h2 h3 h4 h5 h7 h8 h9 h10
    refine ⟨?_, ⟨hl 0 fz fz2 rfl rfl, hx 0 6 .field fz fz2 rfl rfl rfl⟩, ⟨hl 1 vz vz2 rfl rfl, hx 1 11 .value vz vz2 rfl rfl rfl⟩, ⟨hl 2 az az2 rfl rfl, hx 2 12 .expr az az2 rfl rfl rfl⟩, hl 3 sz sz2 rfl rfl, hx 3 13 .rel sz sz2 rfl rfl rfl⟩
    obtain ⟨k, op, up, pos, tk, tsc, vk, vn, vsc, s⟩ := a
    obtain ⟨k', op', up', pos', tk', tsc', vk', vn', vsc', s'⟩ := b
    simp only at h0 h1 h2 h3 h4 h5 h7 h8 h9 h10
    subst h0 h1 h2 h3 h4 h5 h7 h8 h9 h10
    rfl
theorem uIn_val {w : World} {k n sc : Int} {s : ByteArray} {A : Option Addr} {cap : Nat} {l : List DT} (h1 : I64 k) (h2 : I64 n) (h3 : I64 sc) (h4 : s.size ≤ maxLen) (hr : DRow (Lv w) w 5 A cap l) (hi : ∀ x, x ∈ l → UIn (Lv w) w .value x) : UIn (Lv w) w .value (.node [.int .i64 k, .int .i64 n, .int .i64 sc, .string s, .slice A l.length cap] [l]) := by
  refine .mk .value _ _ rfl (fun u hu => ?_) ⟨k, n, sc, s, _, rfl, h1, h2, h3, h4⟩ rfl (fun i o t m ht hm => ?_) fun i o t m ht hm x hx => ?_
  · simp at hu
    rcases hu with rfl | rfl | rfl | rfl | rfl <;> rfl
  · cases i with
    | zero => cases ht; cases hm; exact ⟨A, cap, rfl, hr⟩
    | succ i => simp [Uy.sl] at ht
  · cases i with
    | zero => cases ht; cases hm; exact hi x hx
    | succ i => simp [Uy.sl] at ht
theorem uSm_val {k n sc : Int} {s : ByteArray} {v v' : Value} {l m : List DT} (h : USL .value l m) : USm .value (.node [.int .i64 k, .int .i64 n, .int .i64 sc, .string s, v] [l]) (.node [.int .i64 k, .int .i64 n, .int .i64 sc, .string s, v'] [m]) := by
  refine USm.of rfl (fun j hj => ?_) rfl rfl fun i o t m1 m2 ht h1 h2 => ?_
  · match j with
    | 0 => rfl
    | 1 => rfl
    | 2 => rfl
    | 3 => rfl
    | 4 => exact absurd (by simp [Uy.sl]) (hj .value)
    | j + 5 => rfl
  · cases i with
    | zero => cases ht; cases h1; cases h2; exact h
    | succ i => simp [Uy.sl] at ht
set_option maxRecDepth 100000 in
set_option maxHeartbeats 16000000 in
theorem rSameExpr_step (x y : DT) (w : World) (hs : USm .expr x y) (hx : UIn (Lv w) w .expr x) (hy : UIn (Lv w) w .expr y) (hca : ∀ z, z ∈ x.kid 2 → SmC 7 .expr z) (hcs : ∀ z, z ∈ x.kid 3 → SmC 25 .rel z) :
    Calls Tryz.prog 7 #[.agg x.c.toArray, .agg y.c.toArray] w (Tru w) := by
  obtain ⟨a, F, fc, fz, V, vc, vz, A, ac, az, B, sc, sz, rfl, ok, rf, jf, rv, iv, ra, ia, rs, js⟩ := hx.ex
  obtain ⟨a2, F2, fc2, fz2, V2, vc2, vz2, A2, ac2, az2, B2, sc2, sz2, rfl, ok2, rf2, jf2, rv2, iv2, ra2, ia2, rs2, js2⟩ := hy.ex
  obtain ⟨rfl, s1, s2, s3, s4⟩ := hs.ex
  have Hca : Hid (∀ z, z ∈ az → SmC 7 .expr z) := hca
  have Hcs : Hid (∀ z, z ∈ sz → SmC 25 .rel z) := hcs
  clear hs hx hy hca hcs ok2
  show Calls _ _ #[.agg #[.int .i64 a.k, .int .i64 a.op, .int .i64 a.up, .int .i64 a.pos, .int .i64 a.tk, .int .i64 a.tsc, .slice F fz.length fc, .int .i64 a.vk, .int .i64 a.vn, .int .i64 a.vsc, .string a.s, .slice V vz.length vc, .slice A az.length ac, .slice B sz.length sc], .agg #[.int .i64 a.k, .int .i64 a.op, .int .i64 a.up, .int .i64 a.pos, .int .i64 a.tk, .int .i64 a.tsc, .slice F2 fz2.length fc2, .int .i64 a.vk, .int .i64 a.vn, .int .i64 a.vsc, .string a.s, .slice V2 vz2.length vc2, .slice A2 az2.length ac2, .slice B2 sz2.length sc2]] _ _
  have hty : Hid (∀ W, Below w.heap.size w W → Calls Tryz.prog 23 #[.agg #[.int .i64 a.tk, .int .i64 a.tsc, .slice F fz.length fc], .agg #[.int .i64 a.tk, .int .i64 a.tsc, .slice F2 fz2.length fc2]] W (Tru W)) := fun W hb =>
    rsameType_at (.node [] [fz]) fz fz2 a.tk a.tsc F F2 fc fc2 W rfl s1 (rf.below hb) (fun x hx => (jf x hx).blw hb) (rf2.below hb) (fun x hx => (jf2 x hx).blw hb)
  have hva : Hid (∀ W, Below w.heap.size w W → Calls Tryz.prog 24 #[.agg #[.int .i64 a.vk, .int .i64 a.vn, .int .i64 a.vsc, .string a.s, .slice V vz.length vc], .agg #[.int .i64 a.vk, .int .i64 a.vn, .int .i64 a.vsc, .string a.s, .slice V2 vz2.length vc2]] W (Tru W)) := fun W hb =>
    rsameValue_sm (.node [.int .i64 a.vk, .int .i64 a.vn, .int .i64 a.vsc, .string a.s, .slice V vz.length vc] [vz]) (.node [.int .i64 a.vk, .int .i64 a.vn, .int .i64 a.vsc, .string a.s, .slice V2 vz2.length vc2] [vz2]) W (uSm_val s2) (uIn_val ok.2.2.2.2.2.2.1 ok.2.2.2.2.2.2.2.1 ok.2.2.2.2.2.2.2.2.1 ok.2.2.2.2.2.2.2.2.2 (rv.below hb) (fun x hx => (iv x hx).blw hb)) (uIn_val ok.2.2.2.2.2.2.1 ok.2.2.2.2.2.2.2.1 ok.2.2.2.2.2.2.2.2.1 ok.2.2.2.2.2.2.2.2.2 (rv2.below hb) (fun x hx => (iv2 x hx).blw hb))
  have Ra := Lib.hid ra
  have Ra2 := Lib.hid ra2
  have Rs := Lib.hid rs
  have Rs2 := Lib.hid rs2
  have Ia := Lib.hid ia
  have Ia2 := Lib.hid ia2
  have Js := Lib.hid js
  have Js2 := Lib.hid js2
  have S3 := Lib.hid s3
  have S4 := Lib.hid s4
  obtain ⟨la, hla⟩ : ∃ q, az.length = q := ⟨_, rfl⟩
  obtain ⟨ls, hls⟩ : ∃ q, sz.length = q := ⟨_, rfl⟩
  have hla2 : az2.length = la := by rw [← s3.1]; exact hla
  have hls2 : sz2.length = ls := by rw [← s4.1]; exact hls
  have hlla := ra.len_le
  have hlls := rs.len_le
  have Hla := Lib.hid hla
  have Hls := Lib.hid hls
  have Hla2 := Lib.hid hla2
  have Hls2 := Lib.hid hls2
  have hfl := Lib.hid s1.1
  have hvl := Lib.hid s2.1
  rw [hla] at hlla
  rw [hls] at hlls
  obtain ⟨W0, hW0⟩ : ∃ W0, (w.alloc (.cells #[.int .i64 a.k, .int .i64 a.op, .int .i64 a.up, .int .i64 a.pos, .int .i64 a.tk, .int .i64 a.tsc, .slice F fz.length fc, .int .i64 a.vk, .int .i64 a.vn, .int .i64 a.vsc, .string a.s, .slice V vz.length vc, .slice A az.length ac, .slice B sz.length sc] 31)).alloc (.cells #[.int .i64 a.k, .int .i64 a.op, .int .i64 a.up, .int .i64 a.pos, .int .i64 a.tk, .int .i64 a.tsc, .slice F2 fz2.length fc2, .int .i64 a.vk, .int .i64 a.vn, .int .i64 a.vsc, .string a.s, .slice V2 vz2.length vc2, .slice A2 az2.length ac2, .slice B2 sz2.length sc2] 31) = W0 := ⟨_, rfl⟩
  have hbw : Below w.heap.size w W0 := by rw [← hW0]; exact bel2 _ _ _
  have hz0 : W0.heap.size = w.heap.size + 2 := by rw [← hW0]; simp
  have Q0 : W0.heap[w.heap.size]? = some (.cells #[.int .i64 a.k, .int .i64 a.op, .int .i64 a.up, .int .i64 a.pos, .int .i64 a.tk, .int .i64 a.tsc, .slice F fz.length fc, .int .i64 a.vk, .int .i64 a.vn, .int .i64 a.vsc, .string a.s, .slice V vz.length vc, .slice A az.length ac, .slice B sz.length sc] 31 (0, 0)) := by rw [← hW0, Below.heap_alloc _ _ _ (by simp)]; exact heap_alloc_new w _
  have Q1 : W0.heap[w.heap.size + 1]? = some (.cells #[.int .i64 a.k, .int .i64 a.op, .int .i64 a.up, .int .i64 a.pos, .int .i64 a.tk, .int .i64 a.tsc, .slice F2 fz2.length fc2, .int .i64 a.vk, .int .i64 a.vn, .int .i64 a.vsc, .string a.s, .slice V2 vz2.length vc2, .slice A2 az2.length ac2, .slice B2 sz2.length sc2] 31 (0, 0)) := by
    rw [← hW0]
    have q := heap_alloc_new (w.alloc (.cells #[.int .i64 a.k, .int .i64 a.op, .int .i64 a.up, .int .i64 a.pos, .int .i64 a.tk, .int .i64 a.tsc, .slice F fz.length fc, .int .i64 a.vk, .int .i64 a.vn, .int .i64 a.vsc, .string a.s, .slice V vz.length vc, .slice A az.length ac, .slice B sz.length sc] 31)) (.cells #[.int .i64 a.k, .int .i64 a.op, .int .i64 a.up, .int .i64 a.pos, .int .i64 a.tk, .int .i64 a.tsc, .slice F2 fz2.length fc2, .int .i64 a.vk, .int .i64 a.vn, .int .i64 a.vsc, .string a.s, .slice V2 vz2.length vc2, .slice A2 az2.length ac2, .slice B2 sz2.length sc2] 31)
    have z : (w.alloc (.cells #[.int .i64 a.k, .int .i64 a.op, .int .i64 a.up, .int .i64 a.pos, .int .i64 a.tk, .int .i64 a.tsc, .slice F fz.length fc, .int .i64 a.vk, .int .i64 a.vn, .int .i64 a.vsc, .string a.s, .slice V vz.length vc, .slice A az.length ac, .slice B sz.length sc] 31)).heap.size = w.heap.size + 1 := by simp
    rw [z] at q
    exact q
  rw [hla, hls] at Q0 hW0 ⊢
  rw [hla2, hls2] at Q1 hW0 ⊢
  have hcells : Hid (∀ W, Below W0.heap.size W0 W → (W.cell? ⟨w.heap.size, 0, none⟩ = some (.int .i64 a.k) ∧ W.cell? ⟨w.heap.size, 1, none⟩ = some (.int .i64 a.op) ∧ W.cell? ⟨w.heap.size, 2, none⟩ = some (.int .i64 a.up) ∧ W.cell? ⟨w.heap.size, 3, none⟩ = some (.int .i64 a.pos) ∧ W.cell? ⟨w.heap.size, 4, none⟩ = some (.int .i64 a.tk) ∧ W.cell? ⟨w.heap.size, 5, none⟩ = some (.int .i64 a.tsc) ∧ W.cell? ⟨w.heap.size, 6, none⟩ = some (.slice F fz.length fc) ∧ W.cell? ⟨w.heap.size, 7, none⟩ = some (.int .i64 a.vk) ∧ W.cell? ⟨w.heap.size, 8, none⟩ = some (.int .i64 a.vn) ∧ W.cell? ⟨w.heap.size, 9, none⟩ = some (.int .i64 a.vsc) ∧ W.cell? ⟨w.heap.size, 10, none⟩ = some (.string a.s) ∧ W.cell? ⟨w.heap.size, 11, none⟩ = some (.slice V vz.length vc) ∧ W.cell? ⟨w.heap.size, 12, none⟩ = some (.slice A la ac) ∧ W.cell? ⟨w.heap.size, 13, none⟩ = some (.slice B ls sc)) ∧ (W.cell? ⟨w.heap.size + 1, 0, none⟩ = some (.int .i64 a.k) ∧ W.cell? ⟨w.heap.size + 1, 1, none⟩ = some (.int .i64 a.op) ∧ W.cell? ⟨w.heap.size + 1, 2, none⟩ = some (.int .i64 a.up) ∧ W.cell? ⟨w.heap.size + 1, 3, none⟩ = some (.int .i64 a.pos) ∧ W.cell? ⟨w.heap.size + 1, 4, none⟩ = some (.int .i64 a.tk) ∧ W.cell? ⟨w.heap.size + 1, 5, none⟩ = some (.int .i64 a.tsc) ∧ W.cell? ⟨w.heap.size + 1, 6, none⟩ = some (.slice F2 fz2.length fc2) ∧ W.cell? ⟨w.heap.size + 1, 7, none⟩ = some (.int .i64 a.vk) ∧ W.cell? ⟨w.heap.size + 1, 8, none⟩ = some (.int .i64 a.vn) ∧ W.cell? ⟨w.heap.size + 1, 9, none⟩ = some (.int .i64 a.vsc) ∧ W.cell? ⟨w.heap.size + 1, 10, none⟩ = some (.string a.s) ∧ W.cell? ⟨w.heap.size + 1, 11, none⟩ = some (.slice V2 vz2.length vc2) ∧ W.cell? ⟨w.heap.size + 1, 12, none⟩ = some (.slice A2 la ac2) ∧ W.cell? ⟨w.heap.size + 1, 13, none⟩ = some (.slice B2 ls sc2))) := fun W h => by
    have z0 := (h.block _ (Array.getElem?_eq_some_iff.1 Q0).1).trans Q0
    have z1 := (h.block _ (Array.getElem?_eq_some_iff.1 Q1).1).trans Q1
    simp [World.cell?, z0, z1]
  have Hck : Hid (∀ W, Below W0.heap.size W0 W → W.cell? ⟨w.heap.size, 12, none⟩ = some (.slice A la ac) ∧ W.cell? ⟨w.heap.size + 1, 12, none⟩ = some (.slice A2 la ac2)) := fun W h => by
    obtain ⟨⟨e0, e1, e2, e3, e4, e5, e6, e7, e8, e9, e10, e11, e12, e13⟩, f0, f1, f2, f3, f4, f5, f6, f7, f8, f9, f10, f11, f12, f13⟩ := hcells.out W h
    exact ⟨e12, f12⟩
  have Hck2 : Hid (∀ W, Below W0.heap.size W0 W → W.cell? ⟨w.heap.size, 13, none⟩ = some (.slice B ls sc) ∧ W.cell? ⟨w.heap.size + 1, 13, none⟩ = some (.slice B2 ls sc2)) := fun W h => by
    obtain ⟨⟨e0, e1, e2, e3, e4, e5, e6, e7, e8, e9, e10, e11, e12, e13⟩, f0, f1, f2, f3, f4, f5, f6, f7, f8, f9, f10, f11, f12, f13⟩ := hcells.out W h
    exact ⟨e13, f13⟩
  have HW0 := Lib.hid hW0
  have Hbw := Lib.hid hbw
  have Hz0 := Lib.hid hz0
  clear hW0 hbw hz0 Q0 Q1 hla hls hla2 hls2 ra ra2 rs rs2 ia ia2 js js2 s1 s2 s3 s4 rf jf rv iv rf2 jf2 rv2 iv2 ok
  obtain ⟨⟨e0, e1, e2, e3, e4, e5, e6, e7, e8, e9, e10, e11, e12, e13⟩, f0, f1, f2, f3, f4, f5, f6, f7, f8, f9, f10, f11, f12, f13⟩ := hcells.out W0 (Below.refl _ _)
  go_enter Tryz.func7, Tryz.ntmps7
  go_upto_region 1 with (fail)
  rw [HW0.out]
  go_wp2_with fail
  refine (hty.out _ Hbw.out).mono ?_
  rintro e v0 ⟨rfl, hv0⟩
  have hz1 : Below w.heap.size w v0 := Hbw.out.trans (hv0.mono (by have := Hz0.out; omega))
  clear e0 e1 e2 e3 e4 e5 e6 e7 e8 e9 e10 e11 e12 e13 f0 f1 f2 f3 f4 f5 f6 f7 f8 f9 f10 f11 f12 f13
  obtain ⟨⟨e0, e1, e2, e3, e4, e5, e6, e7, e8, e9, e10, e11, e12, e13⟩, f0, f1, f2, f3, f4, f5, f6, f7, f8, f9, f10, f11, f12, f13⟩ := hcells.out v0 hv0
  go_wp2_with fail
  refine (hva.out _ hz1).mono ?_
  rintro e v1 ⟨rfl, hv1⟩
  have hb1 : Below W0.heap.size W0 v1 := hv0.trans (hv1.mono hv0.size)
  clear e0 e1 e2 e3 e4 e5 e6 e7 e8 e9 e10 e11 e12 e13 f0 f1 f2 f3 f4 f5 f6 f7 f8 f9 f10 f11 f12 f13
  obtain ⟨⟨e0, e1, e2, e3, e4, e5, e6, e7, e8, e9, e10, e11, e12, e13⟩, f0, f1, f2, f3, f4, f5, f6, f7, f8, f9, f10, f11, f12, f13⟩ := hcells.out v1 hb1
  go_wp2
  clear e0 e1 e2 e3 e4 e5 e6 e7 e8 e9 e10 e11 e12 e13 f0 f1 f2 f3 f4 f5 f6 f7 f8 f9 f10 f11 f12 f13 hz1 hv0 hv1
  have Hb1 := Lib.hid hb1
  clear hb1
  go_loopw [70] (fun i wr => ∃ j : Nat, j ≤ la ∧ i = .int .i64 j ∧ Below W0.heap.size W0 wr) (fun i _ => la - (intOf i).toNat)
  case atStart => exact ⟨0, Nat.zero_le _, rfl, Hb1.out⟩
  case round =>
    obtain ⟨j, hj, rfl, hbr⟩ := hrel
    have hzr : Below w.heap.size w wr := Hbw.out.trans (hbr.mono (by have := Hz0.out; omega))
    by_cases hlt : j < la
    · obtain ⟨x, ad, hx, rfl, hb, hat⟩ := (Ra.out.below hzr).get (show j < (az).length by rw [Hla.out]; exact hlt)
      obtain ⟨y, ad2, hy, rfl, hb2, hat2⟩ := (Ra2.out.below hzr).get (show j < (az2).length by rw [Hla2.out]; exact hlt)
      have hxi := (Ia.out x (mem_of_get? hx)).blw hzr
      have hyi := (Ia2.out y (mem_of_get? hy)).blw hzr
      have hsz1 : Hid ((Tryz.prog.info? 31).map (·.size) = some x.c.length) := by show _ = _; rw [hxi.len]; exact uSizeExpr
      have hsz2 : Hid ((Tryz.prog.info? 31).map (·.size) = some y.c.length) := by show _ = _; rw [hyi.len]; exact uSizeExpr
      have hcm : Hid (∀ d os, Calls Tryz.prog 7 #[.agg x.c.toArray, .agg y.c.toArray] (grow (redrawn wr d) os) fun e w'' => e = .returned (.bool true) ∧ ∃ p : Regrown, w'' = grow (redrawn wr p.d) p.os) := fun d os =>
        Calls.regrown_of (Hca.out x (mem_of_get? hx) y _ (S3.out.2 j x y hx hy) (hxi.blw (below_regrown wr d os)) (hyi.blw (below_regrown wr d os)))
      have l1 : Hid (∀ W, (∃ p : Regrown, W = grow (redrawn wr p.d) p.os) → ∀ i u, x.c[i]? = some u → W.cell? ((ad.add (j * 14)).add i) = some u) := fun W ⟨p, e⟩ i u hu => by rw [e]; exact cell_regrown (at_add hat i u hu) _ _
      have l2 : Hid (∀ W, (∃ p : Regrown, W = grow (redrawn wr p.d) p.os) → ∀ i u, y.c[i]? = some u → W.cell? ((ad2.add (j * 14)).add i) = some u) := fun W ⟨p, e⟩ i u hu => by rw [e]; exact cell_regrown (at_add hat2 i u hu) _ _
      have k1 := cell_regrown (Hck.out wr hbr).1
      have k2 := cell_regrown (Hck.out wr hbr).2
      have Hbr := Lib.hid hbr
      clear hx hy hat hat2 hxi hyi hbr
      go_upto_region 6 with (fail)
      refine wp_region_quiet_below (by kernel_rfl) (by kernel_rfl) ?_
      repeat (first
        | (refine wpQuiet_load_st rfl 31 _ rfl _ Tryz.underlying31 rfl (ad.add (j * 14)) x.c hsz1.out rfl l1.out ?_)
        | (refine wpQuiet_load_st rfl 31 _ rfl _ Tryz.underlying31 rfl (ad2.add (j * 14)) y.c hsz2.out rfl l2.out ?_)
        | quiet_step (with_reducible first | exact hcm.out _ _))
      refine wpQuiet_nil ?_
      intro _ hw'
      obtain ⟨⟨dq, osq⟩, hw''⟩ := hw'
      subst hw''
      have hb3 := below_regrown wr dq osq
      have hw1 : Sort.grow (redrawn wr (Regrown.mk dq osq).d) (Regrown.mk dq osq).os = Sort.grow (redrawn wr dq) osq := rfl
      rw [hw1]
      clear hw1 k1 k2 hcm l1 l2
      generalize Sort.grow (redrawn wr dq) osq = W2 at hb3 ⊢
      go_wp2
      go_roundw
      case rel => exact ⟨j + 1, by omega, by go_num, Hbr.out.trans (hb3.mono Hbr.out.size)⟩
      case measure => simp [intOf]; omega
    · obtain rfl : j = la := by omega
      skip
      have k12 := (Hck2.out wr hbr).1
      have Hbr := Lib.hid hbr
      clear hbr
      go_wp2
      clear k12
      go_loopw [89] (fun i wr => ∃ j : Nat, j ≤ ls ∧ i = .int .i64 j ∧ Below W0.heap.size W0 wr) (fun i _ => ls - (intOf i).toNat)
      case atStart => exact ⟨0, Nat.zero_le _, rfl, Hbr.out⟩
      case round =>
        obtain ⟨j, hj, rfl, hbr⟩ := hrel
        have hzr : Below w.heap.size w wr := Hbw.out.trans (hbr.mono (by have := Hz0.out; omega))
        by_cases hlt : j < ls
        · obtain ⟨x, ad, hx, rfl, hb, hat⟩ := (Rs.out.below hzr).get (show j < (sz).length by rw [Hls.out]; exact hlt)
          obtain ⟨y, ad2, hy, rfl, hb2, hat2⟩ := (Rs2.out.below hzr).get (show j < (sz2).length by rw [Hls2.out]; exact hlt)
          have hxi := (Js.out x (mem_of_get? hx)).blw hzr
          have hyi := (Js2.out y (mem_of_get? hy)).blw hzr
          have hsz1 : Hid ((Tryz.prog.info? 59).map (·.size) = some x.c.length) := by show _ = _; rw [hxi.len]; exact uSizeRel
          have hsz2 : Hid ((Tryz.prog.info? 59).map (·.size) = some y.c.length) := by show _ = _; rw [hyi.len]; exact uSizeRel
          have hcm : Hid (∀ d os, Calls Tryz.prog 25 #[.agg x.c.toArray, .agg y.c.toArray] (grow (redrawn wr d) os) fun e w'' => e = .returned (.bool true) ∧ ∃ p : Regrown, w'' = grow (redrawn wr p.d) p.os) := fun d os =>
            Calls.regrown_of (Hcs.out x (mem_of_get? hx) y _ (S4.out.2 j x y hx hy) (hxi.blw (below_regrown wr d os)) (hyi.blw (below_regrown wr d os)))
          have l1 : Hid (∀ W, (∃ p : Regrown, W = grow (redrawn wr p.d) p.os) → ∀ i u, x.c[i]? = some u → W.cell? ((ad.add (j * 14)).add i) = some u) := fun W ⟨p, e⟩ i u hu => by rw [e]; exact cell_regrown (at_add hat i u hu) _ _
          have l2 : Hid (∀ W, (∃ p : Regrown, W = grow (redrawn wr p.d) p.os) → ∀ i u, y.c[i]? = some u → W.cell? ((ad2.add (j * 14)).add i) = some u) := fun W ⟨p, e⟩ i u hu => by rw [e]; exact cell_regrown (at_add hat2 i u hu) _ _
          have k1 := cell_regrown (Hck2.out wr hbr).1
          have k2 := cell_regrown (Hck2.out wr hbr).2
          have Hbr := Lib.hid hbr
          clear hx hy hat hat2 hxi hyi hbr
          go_upto_region 12 with (fail)
          refine wp_region_quiet_below (by kernel_rfl) (by kernel_rfl) ?_
          repeat (first
            | (refine wpQuiet_load_st rfl 59 _ rfl _ Tryz.underlying59 rfl (ad.add (j * 14)) x.c hsz1.out rfl l1.out ?_)
            | (refine wpQuiet_load_st rfl 59 _ rfl _ Tryz.underlying59 rfl (ad2.add (j * 14)) y.c hsz2.out rfl l2.out ?_)
            | quiet_step (with_reducible first | exact hcm.out _ _))
          refine wpQuiet_nil ?_
          intro _ hw'
          obtain ⟨⟨dq, osq⟩, hw''⟩ := hw'
          subst hw''
          have hb3 := below_regrown wr dq osq
          have hw1 : Sort.grow (redrawn wr (Regrown.mk dq osq).d) (Regrown.mk dq osq).os = Sort.grow (redrawn wr dq) osq := rfl
          rw [hw1]
          clear hw1 k1 k2 hcm l1 l2
          generalize Sort.grow (redrawn wr dq) osq = W2 at hb3 ⊢
          go_wp2
          go_roundw
          case rel => exact ⟨j + 1, by omega, by go_num, Hbr.out.trans (hb3.mono Hbr.out.size)⟩
          case measure => simp [intOf]; omega
        · obtain rfl : j = ls := by omega
          skip
          go_wp2
          go_ret
          exact ⟨rfl, hzr⟩
end Go.Proofs.YthijagpnpcpcbaaGreat

