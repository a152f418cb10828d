/-
  Plain: whole trees without the slices that hold no expression; the expressions right in a relation.
  Plain: the expressions right in a whole relation; levels that are near.
-/
import Derived.Test.YthijagpnpcpcbaaGreatQGtQd
import Derived.Test.YthijagpnpcpcbaaGreatQNrB
import Derived.Test.YthijagpnpcpcbaaGreatQRmE
namespace Go.Proofs.YthijagpnpcpcbaaGreat
open Go.RowKit Go.Sort
/-- A tree without its types, values, rows and sets. -/
def fg : Nat → Uy → DT → DT
  | N + 1, .expr, .node c k => .node c [(k.getD 2 []).map (fg N .expr), (k.getD 3 []).map (fg N .rel)]
  | N + 1, .key, .node c k => .node c [(k.getD 2 []).map (fg N .expr), (k.getD 3 []).map (fg N .rel)]
  | N + 1, .rel, .node c k => .node c [(k.getD 2 []).map (fg N .rel), (k.getD 3 []).map (fg N .expr), (k.getD 5 []).map (fg N .agg), (k.getD 6 []).map (fg N .win), (k.getD 7 []).map (fg N .key)]
  | N + 1, .agg, .node c k => .node c [(k.getD 0 []).map (fg N .expr), (k.getD 1 []).map (fg N .expr)]
  | N + 1, .win, .node c k => .node c [(k.getD 0 []).map (fg N .expr), (k.getD 1 []).map (fg N .agg), (k.getD 2 []).map (fg N .expr), (k.getD 3 []).map (fg N .key), (k.getD 4 []).map (fg N .key)]
  | _, _, d => d
theorem fg_c (N : Nat) (t : Uy) (d : DT) : (fg N t d).c = d.c := by
  cases d
  cases N <;> cases t <;> rfl
theorem fg_row {S : Nat → Prop} {w : World} {sz cap : Nat} {A : Option Addr} {l : List DT} (h : DRow S w sz A cap l) (N : Nat) (t : Uy) : DRow S w sz A cap (l.map (fg N t)) := by
  refine ⟨by rw [List.length_map]; exact h.1, h.2.1, fun i x hx => ?_⟩
  rw [List.getElem?_map, Option.map_eq_some_iff] at hx
  obtain ⟨y, hy, rfl⟩ := hx
  obtain ⟨ad, e, hb, hat⟩ := h.2.2 i y hy
  exact ⟨ad, e, hb, fun j u hu => hat j u (by rw [fg_c] at hu; exact hu)⟩
theorem fg_nL {N : Nat} {t : Uy} {l : List DT} (h : ∀ x, x ∈ l → (fg N t x).n ≤ x.n) : nL (l.map (fg N t)) ≤ nL l := by
  induction l with
  | nil => exact Nat.le_refl _
  | cons x l ih =>
    rw [List.map_cons, nL_cons, nL_cons]
    have := h x (by simp)
    have := ih fun y hy => h y (List.mem_cons_of_mem _ hy)
    omega
/-- The kind of a tree without them. -/
def Uy.ty : Uy → Option Ty
  | .expr => some .expr
  | .rel => some .rel
  | .agg => some .agg
  | .win => some .win
  | .key => some .key
  | _ => none
theorem In.mkK {S : Nat → Prop} {w : World} {t : Ty} {c : List Value} {k : List (List DT)} (hl : c.length = t.sz) (h1 : ∀ u, u ∈ c → u.oneCell' = true) (hok : t.ok c) (hk : k.length = t.sl.length)
    (h : ∀ (i o : Nat) (s : Ty) (m : List DT), t.sl[i]? = some (o, s) → k[i]? = some m → ∃ A cap, c[o]? = some (.slice A m.length cap) ∧ DRow S w s.sz A cap m ∧ ∀ x, x ∈ m → DT.In S w s x) : DT.In S w t (.node c k) :=
  .mk t c k hl h1 hok hk (fun i o s m a b => by obtain ⟨A, cap, e, r, _⟩ := h i o s m a b; exact ⟨A, cap, e, r⟩) fun i o s m a b => by obtain ⟨_, _, _, _, g⟩ := h i o s m a b; exact g
theorem fg_in {S : Nat → Prop} {w : World} : ∀ (N : Nat) (t : Uy) (s : Ty) (d : DT), t.ty = some s → d.n ≤ N → d.n ≤ 1048576 → UIn S w t d → DT.In S w s (fg N t d) ∧ (fg N t d).n ≤ d.n := by
  intro N
  induction N with
  | zero => intro t s d _ hn; have := d.n_pos; omega
  | succ N ih =>
    intro t s d ht hn hn2 h
    have one := h.ones
    have sub : ∀ (u : Uy) (v : Ty) (l : List DT), u.ty = some v → nL l ≤ N → nL l ≤ 1048576 → (∀ x, x ∈ l → UIn S w u x) → (∀ y, y ∈ l.map (fg N u) → DT.In S w v y) ∧ nL (l.map (fg N u)) ≤ nL l := fun u v l hu hl hl2 hi => by
      have hx : ∀ x, x ∈ l → DT.In S w v (fg N u x) ∧ (fg N u x).n ≤ x.n := fun x hx => by have := n_mem hx; exact ih u v x hu (by omega) (by omega) (hi x hx)
      exact ⟨fun y hy => by obtain ⟨x, hm, rfl⟩ := List.mem_map.1 hy; exact (hx x hm).1, fg_nL fun x hm => (hx x hm).2⟩
    cases t with
    | expr =>
      cases ht
      obtain ⟨a, F, fc, fz, V, vc, vz, A, ac, az, B, sc, sz, he⟩ := h.ex
      obtain rfl := he.e
      rw [DT.n_node] at hn hn2 ⊢
      simp at hn hn2 ⊢
      obtain ⟨i1, l1⟩ := sub .expr .expr az rfl (by omega) (by omega) he.ia
      obtain ⟨i2, l2⟩ := sub .rel .rel sz rfl (by omega) (by omega) he.js
      refine ⟨In.mkK rfl one ⟨⟨a.k, a.op, a.up, a.pos, a.tk, a.tsc, F, fz.length, fc, a.vk, a.vn, a.vsc, a.s, V, vz.length, vc⟩, _, _, rfl, he.ok.1, he.ok.2.1, he.ok.2.2.1, he.ok.2.2.2.1⟩ rfl fun i o s m a b => ?_, ?_⟩
      · match i with
        | 0 => simp [Ty.sl] at a b; obtain ⟨rfl, rfl⟩ := a; subst b; exact ⟨A, ac, by simp, fg_row he.ra _ _, i1⟩
        | 1 => simp [Ty.sl] at a b; obtain ⟨rfl, rfl⟩ := a; subst b; exact ⟨B, sc, by simp, fg_row he.rs _ _, i2⟩
        | i + 2 => simp [Ty.sl] at a
      · simp only [fg, List.getD_cons_succ, List.getD_cons_zero]
        rw [DT.n_node]
        simp
        omega
    | key =>
      cases ht
      obtain ⟨c, dn, fi, k, rfl, hc, hxe⟩ := h.kyx
      obtain ⟨a, F, fc, fz, V, vc, vz, A, ac, az, B, sc, sz, he⟩ := hxe.ex
      injection he.e with e1 e2
      subst e1 e2
      rw [DT.n_node] at hn hn2 ⊢
      simp at hn hn2 ⊢
      obtain ⟨i1, l1⟩ := sub .expr .expr az rfl (by omega) (by omega) he.ia
      obtain ⟨i2, l2⟩ := sub .rel .rel sz rfl (by omega) (by omega) he.js
      refine ⟨In.mkK rfl one ⟨⟨a.k, a.op, a.up, a.pos, a.tk, a.tsc, F, fz.length, fc, a.vk, a.vn, a.vsc, a.s, V, vz.length, vc⟩, _, _, dn, fi, rfl, he.ok.1, he.ok.2.1, he.ok.2.2.1, he.ok.2.2.2.1⟩ rfl fun i o s m a b => ?_, ?_⟩
      · match i with
        | 0 => simp [Ty.sl] at a b; obtain ⟨rfl, rfl⟩ := a; subst b; exact ⟨A, ac, by simp, fg_row he.ra _ _, i1⟩
        | 1 => simp [Ty.sl] at a b; obtain ⟨rfl, rfl⟩ := a; subst b; exact ⟨B, sc, by simp, fg_row he.rs _ _, i2⟩
        | i + 2 => simp [Ty.sl] at a
      · simp only [fg, List.getD_cons_succ, List.getD_cons_zero]
        rw [DT.n_node]
        simp
        omega
    | rel =>
      cases ht
      obtain ⟨k, op, nm, all, off, cnt, T, tc, tz, R, rc, rz, I, ic, iz, X, xc, xz, SS, sc, sz, G, gc, gz, WN, wc', wz, K, kc, kz, he⟩ := h.re
      obtain rfl := he.e
      rw [DT.n_node] at hn hn2 ⊢
      simp at hn hn2 ⊢
      have ht := len_nL tz
      obtain ⟨i1, l1⟩ := sub .rel .rel iz rfl (by omega) (by omega) he.ii
      obtain ⟨i2, l2⟩ := sub .expr .expr xz rfl (by omega) (by omega) he.ix
      obtain ⟨i3, l3⟩ := sub .agg .agg gz rfl (by omega) (by omega) he.ig
      obtain ⟨i4, l4⟩ := sub .win .win wz rfl (by omega) (by omega) he.iw
      obtain ⟨i5, l5⟩ := sub .key .key kz rfl (by omega) (by omega) he.ik
      refine ⟨In.mkK rfl one ⟨⟨k, op, nm, all, T, tz.length, tc, R, rz.length, rc, SS, sz.length, sc, off, cnt⟩, _, _, _, _, _, rfl, he.ok.1, by show tz.length ≤ _; omega⟩ rfl fun i o s m a b => ?_, ?_⟩
      · match i with
        | 0 => simp [Ty.sl] at a b; obtain ⟨rfl, rfl⟩ := a; subst b; exact ⟨I, ic, by simp, fg_row he.ri _ _, i1⟩
        | 1 => simp [Ty.sl] at a b; obtain ⟨rfl, rfl⟩ := a; subst b; exact ⟨X, xc, by simp, fg_row he.rx _ _, i2⟩
        | 2 => simp [Ty.sl] at a b; obtain ⟨rfl, rfl⟩ := a; subst b; exact ⟨G, gc, by simp, fg_row he.rg _ _, i3⟩
        | 3 => simp [Ty.sl] at a b; obtain ⟨rfl, rfl⟩ := a; subst b; exact ⟨WN, wc', by simp, fg_row he.rw _ _, i4⟩
        | 4 => simp [Ty.sl] at a b; obtain ⟨rfl, rfl⟩ := a; subst b; exact ⟨K, kc, by simp, fg_row he.rk _ _, i5⟩
        | i + 5 => simp [Ty.sl] at a
      · simp only [fg, List.getD_cons_succ, List.getD_cons_zero]
        rw [DT.n_node]
        simp
        omega
    | agg =>
      cases ht
      obtain ⟨k, p, ds, A, ac, az, B, bc, bz, rfl, ok, ra, ia, rb, ib⟩ := h.ag
      rw [DT.n_node] at hn hn2 ⊢
      simp at hn hn2 ⊢
      obtain ⟨i1, l1⟩ := sub .expr .expr az rfl (by omega) (by omega) ia
      obtain ⟨i2, l2⟩ := sub .expr .expr bz rfl (by omega) (by omega) ib
      refine ⟨In.mkK rfl one ⟨k, p, ds, _, _, rfl⟩ rfl fun i o s m a b => ?_, ?_⟩
      · match i with
        | 0 => simp [Ty.sl] at a b; obtain ⟨rfl, rfl⟩ := a; subst b; exact ⟨A, ac, by simp, fg_row ra _ _, i1⟩
        | 1 => simp [Ty.sl] at a b; obtain ⟨rfl, rfl⟩ := a; subst b; exact ⟨B, bc, by simp, fg_row rb _ _, i2⟩
        | i + 2 => simp [Ty.sl] at a
      · simp only [fg, List.getD_cons_succ, List.getD_cons_zero]
        rw [DT.n_node]
        simp
        omega
    | win =>
      cases ht
      obtain ⟨k, n, u, fk, fn, tk, tn, A, ac, az, B, gc, gz, C, pc, pz, D, kc, kz, E, tc, tz, he⟩ := h.wi
      obtain rfl := he.e
      rw [DT.n_node] at hn hn2 ⊢
      simp at hn hn2 ⊢
      obtain ⟨i1, l1⟩ := sub .expr .expr az rfl (by omega) (by omega) he.ia
      obtain ⟨i2, l2⟩ := sub .agg .agg gz rfl (by omega) (by omega) he.ig
      obtain ⟨i3, l3⟩ := sub .expr .expr pz rfl (by omega) (by omega) he.ip
      obtain ⟨i4, l4⟩ := sub .key .key kz rfl (by omega) (by omega) he.ik
      obtain ⟨i5, l5⟩ := sub .key .key tz rfl (by omega) (by omega) he.it
      refine ⟨In.mkK rfl one ⟨k, n, _, _, _, _, _, u, fk, fn, tk, tn, rfl⟩ rfl fun i o s m a b => ?_, ?_⟩
      · match i with
        | 0 => simp [Ty.sl] at a b; obtain ⟨rfl, rfl⟩ := a; subst b; exact ⟨A, ac, by simp, fg_row he.ra _ _, i1⟩
        | 1 => simp [Ty.sl] at a b; obtain ⟨rfl, rfl⟩ := a; subst b; exact ⟨B, gc, by simp, fg_row he.rg _ _, i2⟩
        | 2 => simp [Ty.sl] at a b; obtain ⟨rfl, rfl⟩ := a; subst b; exact ⟨C, pc, by simp, fg_row he.rp _ _, i3⟩
        | 3 => simp [Ty.sl] at a b; obtain ⟨rfl, rfl⟩ := a; subst b; exact ⟨D, kc, by simp, fg_row he.rk _ _, i4⟩
        | 4 => simp [Ty.sl] at a b; obtain ⟨rfl, rfl⟩ := a; subst b; exact ⟨E, tc, by simp, fg_row he.rt _ _, i5⟩
        | i + 5 => simp [Ty.sl] at a
      · simp only [fg, List.getD_cons_succ, List.getD_cons_zero]
        rw [DT.n_node]
        simp
        omega
    | _ => cases ht
/-- The expressions right in a whole relation. -/
def aggU (d : DT) : List DT := d.kid 0 ++ d.kid 1
def winU (d : DT) : List DT := d.kid 0 ++ (d.kid 1).flatMap aggU ++ d.kid 2 ++ (d.kid 3 ++ d.kid 4).map keyE
def relU (d : DT) : List DT := d.kid 3 ++ (d.kid 5).flatMap aggU ++ (d.kid 6).flatMap winU ++ (d.kid 7).map keyE
end Go.Proofs.YthijagpnpcpcbaaGreat
namespace Go.Proofs.YthijagpnpcpcbaaGreat
open Go.RowKit Go.Sort
/-- The cells of a list's structs. -/
def cc (l : List DT) : List (List Value) := l.map DT.c
theorem cc_app (l m : List DT) : cc (l ++ m) = cc l ++ cc m := List.map_append
theorem cc_map {f : DT → DT} {l : List DT} (h : ∀ x, x ∈ l → (f x).c = x.c) : cc (l.map f) = cc l := by
  unfold cc
  rw [List.map_map]
  exact List.map_congr_left h
theorem cc_flat {g : DT → DT} {f h : DT → List DT} {l : List DT} (hx : ∀ x, x ∈ l → cc (f (g x)) = cc (h x)) : cc ((l.map g).flatMap f) = cc (l.flatMap h) := by
  induction l with
  | nil => rfl
  | cons x l ih =>
    rw [List.map_cons, List.flatMap_cons, List.flatMap_cons, cc_app, cc_app, hx x (by simp), ih fun y hy => hx y (List.mem_cons_of_mem _ hy)]
theorem cc_flatMap (l : List DT) : l.flatMap DT.c = (cc l).flatten := by unfold cc; rw [List.flatMap_def]
theorem cc_len {l m : List DT} (h : cc l = cc m) : l.length = m.length := by have := congrArg List.length h; simpa [cc] using this
theorem aggE_cc {S : Nat → Prop} {w : World} {N : Nat} {x : DT} (h : UIn S w .agg x) (hn : x.n ≤ N) : cc (aggE (fg N .agg x)) = cc (aggU x) := by
  obtain ⟨k, p, ds, A, ac, az, B, bc, bz, rfl, ok, ra, ia, rb, ib⟩ := h.ag
  cases N with
  | zero => have := (DT.node [Value.int .i64 k, .int .i64 p, .bool ds, .slice A az.length ac, .slice B bz.length bc] [az, bz]).n_pos; omega
  | succ N =>
    show cc (az.map (fg N .expr) ++ bz.map (fg N .expr)) = cc (az ++ bz)
    rw [cc_app, cc_app, cc_map fun x _ => fg_c N _ x, cc_map fun x _ => fg_c N _ x]
theorem keyE_cc {N : Nat} {l : List DT} : cc ((l.map (fg N .key)).map keyE) = cc (l.map keyE) := by
  unfold cc
  rw [List.map_map, List.map_map, List.map_map]
  refine List.map_congr_left fun x _ => ?_
  show (fg N .key x).c.take 14 = x.c.take 14
  rw [fg_c]
theorem winE_cc {S : Nat → Prop} {w : World} {N : Nat} {x : DT} (h : UIn S w .win x) (hn : x.n ≤ N) : cc (winE (fg N .win x)) = cc (winU x) := by
  obtain ⟨k, n, u, fk, fn, tk, tn, A, ac, az, B, gc, gz, C, pc, pz, D, kc, kz, E, tc, tz, he⟩ := h.wi
  obtain rfl := he.e
  rw [DT.n_node] at hn
  simp at hn
  cases N with
  | zero => omega
  | succ N =>
    show cc (az.map (fg N .expr) ++ (gz.map (fg N .agg)).flatMap aggE ++ pz.map (fg N .expr) ++ (kz.map (fg N .key) ++ tz.map (fg N .key)).map keyE) = cc (az ++ gz.flatMap aggU ++ pz ++ (kz ++ tz).map keyE)
    rw [List.map_append, List.map_append]
    simp only [cc_app]
    rw [cc_map fun x _ => fg_c N _ x, cc_map fun x _ => fg_c N _ x, keyE_cc, keyE_cc, cc_flat fun y hy => aggE_cc (he.ig y hy) (by have := n_mem hy; omega)]
theorem relE_cc {S : Nat → Prop} {w : World} {N : Nat} {x : DT} (h : UIn S w .rel x) (hn : x.n ≤ N) : cc (relE (fg N .rel x)) = cc (relU x) := by
  obtain ⟨k, op, nm, all, off, cnt, T, tc, tz, R, rc, rz, I, ic, iz, X, xc, xz, SS, sc, sz, G, gc, gz, WN, wc', wz, K, kc, kz, he⟩ := h.re
  obtain rfl := he.e
  rw [DT.n_node] at hn
  simp at hn
  cases N with
  | zero => omega
  | succ N =>
    show cc (xz.map (fg N .expr) ++ (gz.map (fg N .agg)).flatMap aggE ++ (wz.map (fg N .win)).flatMap winE ++ (kz.map (fg N .key)).map keyE) = cc (xz ++ gz.flatMap aggU ++ wz.flatMap winU ++ kz.map keyE)
    simp only [cc_app]
    rw [cc_map fun x _ => fg_c N _ x, keyE_cc, cc_flat fun y hy => aggE_cc (he.ig y hy) (by have := n_mem hy; omega), cc_flat fun y hy => winE_cc (he.iw y hy) (by have := n_mem hy; omega)]
theorem nL_keyE (l : List DT) : nL (l.map keyE) = nL l := by
  induction l with
  | nil => rfl
  | cons x l ih => rw [List.map_cons, nL_cons, nL_cons, ih, keyE_n]
theorem nL_flat {f : DT → List DT} {l : List DT} (h : ∀ x, x ∈ l → nL (f x) ≤ x.n) : nL (l.flatMap f) ≤ nL l := by
  induction l with
  | nil => exact Nat.le_refl _
  | cons x l ih =>
    rw [List.flatMap_cons, nL_append, nL_cons]
    have := h x (by simp)
    have := ih fun y hy => h y (List.mem_cons_of_mem _ hy)
    omega
theorem aggU_n {S : Nat → Prop} {w : World} {x : DT} (h : UIn S w .agg x) : nL (aggU x) + 1 ≤ x.n := by
  obtain ⟨k, p, ds, A, ac, az, B, bc, bz, rfl, ok, ra, ia, rb, ib⟩ := h.ag
  rw [DT.n_node]
  show nL (az ++ bz) + 1 ≤ _
  rw [nL_append]
  simp
  omega
theorem winU_n {S : Nat → Prop} {w : World} {x : DT} (h : UIn S w .win x) : nL (winU x) + 1 ≤ x.n := by
  obtain ⟨k, n, u, fk, fn, tk, tn, A, ac, az, B, gc, gz, C, pc, pz, D, kc, kz, E, tc, tz, he⟩ := h.wi
  obtain rfl := he.e
  rw [DT.n_node]
  show nL (az ++ gz.flatMap aggU ++ pz ++ (kz ++ tz).map keyE) + 1 ≤ _
  have := nL_flat (f := aggU) (l := gz) fun y hy => by have := aggU_n (he.ig y hy); omega
  simp only [nL_append, nL_keyE]
  simp
  omega
theorem relU_n {S : Nat → Prop} {w : World} {x : DT} (h : UIn S w .rel x) : nL (relU x) + 1 ≤ x.n := by
  obtain ⟨k, op, nm, all, off, cnt, T, tc, tz, R, rc, rz, I, ic, iz, X, xc, xz, SS, sc, sz, G, gc, gz, WN, wc', wz, K, kc, kz, he⟩ := h.re
  obtain rfl := he.e
  rw [DT.n_node]
  show nL (xz ++ gz.flatMap aggU ++ wz.flatMap winU ++ kz.map keyE) + 1 ≤ _
  have := nL_flat (f := aggU) (l := gz) fun y hy => by have := aggU_n (he.ig y hy); omega
  have := nL_flat (f := winU) (l := wz) fun y hy => by have := winU_n (he.iw y hy); omega
  simp only [nL_append, nL_keyE]
  simp
  omega
theorem aggU_in {S : Nat → Prop} {w : World} {x : DT} (h : UIn S w .agg x) : ∀ y, y ∈ aggU x → UIn S w .expr y := by
  obtain ⟨k, p, ds, A, ac, az, B, bc, bz, rfl, ok, ra, ia, rb, ib⟩ := h.ag
  intro y hy
  rcases List.mem_append.1 (show y ∈ az ++ bz from hy) with hy | hy
  · exact ia y hy
  · exact ib y hy
theorem keyE_in {S : Nat → Prop} {w : World} {l : List DT} (h : ∀ x, x ∈ l → UIn S w .key x) : ∀ y, y ∈ l.map keyE → UIn S w .expr y := fun y hy => by
  obtain ⟨x, hx, rfl⟩ := List.mem_map.1 hy
  exact (h x hx).ky.1
theorem winU_in {S : Nat → Prop} {w : World} {x : DT} (h : UIn S w .win x) : ∀ y, y ∈ winU x → UIn S w .expr y := by
  obtain ⟨k, n, u, fk, fn, tk, tn, A, ac, az, B, gc, gz, C, pc, pz, D, kc, kz, E, tc, tz, he⟩ := h.wi
  obtain rfl := he.e
  intro y hy
  rcases List.mem_append.1 (show y ∈ az ++ gz.flatMap aggU ++ pz ++ (kz ++ tz).map keyE from hy) with hy | hy
  · rcases List.mem_append.1 hy with hy | hy
    · rcases List.mem_append.1 hy with hy | hy
      · exact he.ia y hy
      · obtain ⟨z, hz, hy⟩ := List.mem_flatMap.1 hy
        exact aggU_in (he.ig z hz) y hy
    · exact he.ip y hy
  · exact keyE_in (fun z hz => (List.mem_append.1 hz).elim (he.ik z) (he.it z)) y hy
theorem relU_in {S : Nat → Prop} {w : World} {x : DT} (h : UIn S w .rel x) : ∀ y, y ∈ relU x → UIn S w .expr y := by
  obtain ⟨k, op, nm, all, off, cnt, T, tc, tz, R, rc, rz, I, ic, iz, X, xc, xz, SS, sc, sz, G, gc, gz, WN, wc', wz, K, kc, kz, he⟩ := h.re
  obtain rfl := he.e
  intro y hy
  rcases List.mem_append.1 (show y ∈ xz ++ gz.flatMap aggU ++ wz.flatMap winU ++ kz.map keyE from hy) with hy | hy
  · rcases List.mem_append.1 hy with hy | hy
    · rcases List.mem_append.1 hy with hy | hy
      · exact he.ix y hy
      · obtain ⟨z, hz, hy⟩ := List.mem_flatMap.1 hy
        exact aggU_in (he.ig z hz) y hy
    · obtain ⟨z, hz, hy⟩ := List.mem_flatMap.1 hy
      exact winU_in (he.iw z hz) y hy
  · exact keyE_in he.ik y hy
/-- All that is visited is near. -/
def NearV (v : Int × DT) : Prop := -1000000000 ≤ upOf v.2.c ∧ upOf v.2.c ≤ 1000000000
def NearT (t : Uy) (x : DT) : Prop := ∀ (m : Cm) (d : Int) (v : Int × DT), Vs m t d x v → NearV v
theorem near_agg {S : Nat → Prop} {w : World} {x : DT} (h : UIn S w .agg x) (hx : ∀ y, y ∈ aggU x → NearT .expr y) : NearT .agg x := by
  obtain ⟨k, p, ds, A, ac, az, B, bc, bz, rfl, ok, ra, ia, rb, ib⟩ := h.ag
  intro m d v hv
  rcases Vs.ag.1 hv with ⟨q, y, hy, h⟩ | ⟨q, y, hy, h⟩
  · exact hx y (List.mem_append_left _ (List.mem_of_getElem? hy)) m d v h
  · exact hx y (List.mem_append_right _ (List.mem_of_getElem? hy)) m d v h
theorem near_key {S : Nat → Prop} {w : World} {x : DT} (h : UIn S w .key x) (hx : NearT .expr (keyE x)) : NearT .key x := by
  obtain ⟨c, dn, fi, k, rfl, hc, _⟩ := h.kyx
  intro m d v hv
  rw [Vs.ke rfl hc] at hv
  have e : keyE (.node (c ++ [.bool dn, .bool fi]) k) = .node c k := by
    show DT.node ((c ++ _).take 14) k = _
    rw [← hc, List.take_left]
  rw [e] at hx
  exact hx m d v hv
theorem near_win {S : Nat → Prop} {w : World} {x : DT} (h : UIn S w .win x) (hx : ∀ y, y ∈ winU x → NearT .expr y) : NearT .win x := by
  obtain ⟨k, n, u, fk, fn, tk, tn, A, ac, az, B, gc, gz, C, pc, pz, D, kc, kz, E, tc, tz, he⟩ := h.wi
  obtain rfl := he.e
  have hx : ∀ y, y ∈ az ++ gz.flatMap aggU ++ pz ++ (kz ++ tz).map keyE → NearT .expr y := hx
  intro m d v hv
  rcases Vs.wi.1 hv with ⟨q, y, hy, h⟩ | ⟨q, y, hy, h⟩ | ⟨q, y, hy, h⟩ | ⟨q, y, hy, h⟩ | ⟨q, y, hy, h⟩
  · have := List.mem_of_getElem? hy
    exact hx y (by simp [this]) m d v h
  · have := List.mem_of_getElem? hy
    exact near_agg (he.ig y this) (fun z hz => hx z (List.mem_append_left _ (List.mem_append_left _ (List.mem_append_right _ (List.mem_flatMap.2 ⟨y, this, hz⟩))))) m d v h
  · have := List.mem_of_getElem? hy
    exact hx y (by simp [this]) m d v h
  · have := List.mem_of_getElem? hy
    exact near_key (he.ik y this) (hx _ (List.mem_append_right _ (List.mem_map.2 ⟨y, List.mem_append_left _ this, rfl⟩))) m d v h
  · have := List.mem_of_getElem? hy
    exact near_key (he.it y this) (hx _ (List.mem_append_right _ (List.mem_map.2 ⟨y, List.mem_append_right _ this, rfl⟩))) m d v h
/-- A relation of which the inputs and the expressions are near. -/
theorem near_rel {S : Nat → Prop} {w : World} {x : DT} (h : UIn S w .rel x) (hi : ∀ y, y ∈ x.kid 2 → NearT .rel y) (hx : ∀ y, y ∈ relU x → NearT .expr y) : NearT .rel x := by
  obtain ⟨k, op, nm, all, off, cnt, T, tc, tz, R, rc, rz, I, ic, iz, X, xc, xz, SS, sc, sz, G, gc, gz, WN, wc', wz, K, kc, kz, he⟩ := h.re
  obtain rfl := he.e
  have hx : ∀ y, y ∈ xz ++ gz.flatMap aggU ++ wz.flatMap winU ++ kz.map keyE → NearT .expr y := hx
  have hi : ∀ y, y ∈ iz → NearT .rel y := hi
  intro m d v hv
  by_cases h13 : k = 13
  · exact (Vs.no13 (by rw [h13]; rfl) hv).elim
  · rcases (Vs.re (by exact h13)).1 hv with ⟨q, y, hy, h⟩ | ⟨q, y, hy, h⟩ | ⟨q, y, hy, h⟩ | ⟨q, y, hy, h⟩ | ⟨q, y, hy, h⟩
    · exact hi y (List.mem_of_getElem? hy) m _ v h
    · have := List.mem_of_getElem? hy
      exact hx y (by simp [this]) m d v h
    · have := List.mem_of_getElem? hy
      exact near_agg (he.ig y this) (fun z hz => hx z (List.mem_append_left _ (List.mem_append_left _ (List.mem_append_right _ (List.mem_flatMap.2 ⟨y, this, hz⟩))))) m d v h
    · have := List.mem_of_getElem? hy
      exact near_win (he.iw y this) (fun z hz => hx z (List.mem_append_left _ (List.mem_append_right _ (List.mem_flatMap.2 ⟨y, this, hz⟩)))) m d v h
    · have := List.mem_of_getElem? hy
      exact near_key (he.ik y this) (hx _ (List.mem_append_right _ (List.mem_map.2 ⟨y, this, rfl⟩))) m d v h
theorem near_expr {S : Nat → Prop} {w : World} {x : DT} (h : UIn S w .expr x) (h0 : -1000000000 ≤ upOf x.c ∧ upOf x.c ≤ 1000000000) (ha : ∀ y, y ∈ x.kid 2 → NearT .expr y) (hs : ∀ y, y ∈ x.kid 3 → NearT .rel y) : NearT .expr x := by
  obtain ⟨a, F, fc, fz, V, vc, vz, A, ac, az, B, sc, sz, he⟩ := h.ex
  obtain rfl := he.e
  intro m d v hv
  rcases Vs.ex.1 hv with ⟨_, rfl⟩ | ⟨_, ⟨q, y, hy, h⟩ | ⟨q, y, hy, h⟩⟩
  · exact h0
  · exact ha y (List.mem_of_getElem? hy) m d v h
  · exact hs y (List.mem_of_getElem? hy) m _ v h
/-- Shifts to levels further out are not bad where all is near. -/
theorem near_shB {x : DT} {d : Int} (hd : 0 ≤ d) (hd2 : d ≤ 1048576) (h : NearT .expr x) (hdep : ∀ v, Vs (shCm 0 d) .expr 0 x v → 0 ≤ v.1 ∧ v.1 ≤ 1048576) : ¬ shB d x := by
  rintro ⟨u, hu, hb⟩
  obtain ⟨n1, n2⟩ := h _ _ u hu
  obtain ⟨d1, d2⟩ := hdep u hu
  obtain ⟨h1, h2⟩ := hb
  unfold mx0 lvl wrap64 at h1
  unfold wrap64 at h2
  simp at h1
  omega
end Go.Proofs.YthijagpnpcpcbaaGreat

