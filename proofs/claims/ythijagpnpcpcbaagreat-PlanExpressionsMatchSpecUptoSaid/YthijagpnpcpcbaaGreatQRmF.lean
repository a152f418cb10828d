/-
  The reference's mode.expr.
-/
import Derived.Test.YthijagpnpcpcbaaGreatQRmE
import Derived.Deep.DeepCutAuto
namespace Go.Proofs.YthijagpnpcpcbaaGreat
open Go.RowKit Go.Sort
/-- What stands where an expression's parts are made. -/
def RxCut {σ : Type} (M : Mde σ) (d : Int) (c : List Value) (k : List (List DT)) (s : σ) (W : World) (w : World) : Prop :=
  ∃ (s1 : σ) (c1 : List Value), Bq M [(W.heap.size + 1, 31, zEx)] 31 s W W.heap.size (W.heap.size + 2) c1 s1 w ∧ UIn (fun k => k < M.C.B) W .expr (.node c1 k) ∧ Pre M.m .expr d c k c1 ∧ M.vst s s1 1 (fun v => kd c = 2 ∧ v = (d, .node c k)) ∧ (kd c = 2 → M.m.dn d (.node c k) = false)
theorem infoExp_r : (Tryz.prog.info? 31).map (fun i => (i.zero.map (fun z => z.cells.size), i.size, i.bytes)) = some (some 14, 14, 184) := by kernel_rfl
theorem infoRel_r : (Tryz.prog.info? 59).map (fun i => (i.zero.map (fun z => z.cells.size), i.size, i.bytes)) = some (some 14, 14, 248) := by kernel_rfl
theorem lit_ex {a : EQ} {v6 v11 v12 v13 u6 u11 u12 u13 : Value} {j : Nat} (hj : ∀ s, (j, s) ∉ Uy.expr.sl) : [Value.int .i64 a.k, .int .i64 a.op, .int .i64 a.up, .int .i64 a.pos, .int .i64 a.tk, .int .i64 a.tsc, v6, .int .i64 a.vk, .int .i64 a.vn, .int .i64 a.vsc, .string a.s, v11, v12, v13][j]? = [Value.int .i64 a.k, .int .i64 a.op, .int .i64 a.up, .int .i64 a.pos, .int .i64 a.tk, .int .i64 a.tsc, u6, .int .i64 a.vk, .int .i64 a.vn, .int .i64 a.vsc, .string a.s, u11, u12, u13][j]? := by
  match j with | 0 => rfl | 1 => rfl | 2 => rfl | 3 => rfl | 4 => rfl | 5 => rfl | 6 => exact absurd (by simp [Uy.sl]) (hj .field) | 7 => rfl | 8 => rfl | 9 => rfl | 10 => rfl | 11 => exact absurd (by simp [Uy.sl]) (hj .value) | 12 => exact absurd (by simp [Uy.sl]) (hj .expr) | 13 => exact absurd (by simp [Uy.sl]) (hj .rel) | j + 14 => rfl
set_option maxRecDepth 100000 in
set_option maxHeartbeats 8000000 in
theorem rexpr_step (N : Nat) (h1 : RmT 33 .expr N) (h2 : RmT 55 .rel N) : RmT 33 .expr (N + 1) := by
  intro σ M x d s W hn hd hd2 hst hx hcn
  obtain ⟨c, k⟩ := x
  have hB := M.C.base s W hst
  have hcl : c.length = 14 := hx.len
  obtain ⟨u0, u2, _, iu, _⟩ := hx.upAt
  obtain ⟨ki, hkd⟩ : ∃ ki, kd c = ki := ⟨_, rfl⟩
  obtain ⟨up, hup⟩ : ∃ up, upOf c = up := ⟨_, rfl⟩
  have hki : c[0]? = some (.int .i64 ki) := by rw [← hkd]; exact u0
  have hu2 : c[2]? = some (.int .i64 up) := by rw [← hup]; exact u2
  have hall : c.toArray.all (·.oneCell') = true := all_one hx.ones
  show Calls _ _ #[.pointer (some ⟨M.mp, 0, none⟩), .agg c.toArray, .int .i64 d] _ _
  obtain ⟨w1, hw1⟩ : ∃ w1, W.alloc (.cells c.toArray 31) = w1 := ⟨_, rfl⟩
  obtain ⟨w2, hw2⟩ : ∃ w2, w1.alloc (.cells #[.int .i64 0, .int .i64 0, .int .i64 0, .int .i64 0, .int .i64 0, .int .i64 0, .slice none 0 0, .int .i64 0, .int .i64 0, .int .i64 0, .string ⟨#[]⟩, .slice none 0 0, .slice none 0 0, .slice none 0 0] 31) = w2 := ⟨_, rfl⟩
  have hz1 : w1.heap.size = W.heap.size + 1 := by rw [← hw1]; simp
  have hz2 : w2.heap.size = W.heap.size + 2 := by rw [← hw2]; simp [hz1]
  have hq := Bq.new2 (M := M) (cs := c) (zs := zEx) hst hw1 hw2
  obtain ⟨mcs, hkb, hk0⟩ := M.kat s w2 hq.fr.st
  obtain ⟨kn, hkn⟩ : ∃ kn, M.knd = kn := ⟨_, rfl⟩
  rw [hkn] at hk0
  have hdk : M.m.dn d (.node c k) = (decide (kn = 3) && decide (up = d)) := by rw [M.dnk, hkn]; show (_ && decide (upOf c = d)) = _; rw [hup]
  have hce : Hid ((Tryz.prog.info? 31).map (·.size) = some c.length) := by show _ = _; rw [hcl]; exact uI31
  have hcol : kd c = 2 → Hid (Calls Tryz.prog 54 #[.pointer (some ⟨M.mp, 0, none⟩), .agg c.toArray, .int .i64 d] w2 (RColPost M.C M.mem M.cnt M.m d (.node c k) s w2)) := fun hk2 => M.col s w2 d (.node c k) hd (by have := (DT.node c k).n_pos; omega) hq.fr.st (hx.keep (hq.fr.src hst) fun _ h => h) (by have := (DT.node c k).n_pos; omega) hk2 (by have := (DT.node c k).n_pos; omega)
  have kc2 : w2.cell? ⟨W.heap.size, 2, none⟩ = some (.int .i64 up) := by rw [hq.bk.cell]; exact hu2
  have Hq := Lib.hid hq
  have Hx := Lib.hid hx
  have Hcol := Lib.hid hcol
  have Hki := Lib.hid hki
  have Hkd := Lib.hid hkd
  have Hcl := Lib.hid hcl
  have Hall := Lib.hid hall
  have Hst := Lib.hid hst
  have Hkb := Lib.hid hkb
  have Hk0 := Lib.hid hk0
  have Hdk := Lib.hid hdk
  clear hq hx hcol hki hkd hcl hall hst hkb hk0 hdk u0 u2 iu hup hu2 hkn
  go_enter Tryz.func33, Tryz.ntmps33
  go_upto_if 17 with (refine wpList_load_one rfl 3 _ rfl _ Tryz.underlying3 rfl _ 0 _ _ _ rfl Hq.out.bk Hki.out ?_)
  go_cut [] (fun wx => RxCut M d c k s W wx)
  case first =>
    by_cases hk2 : ki = 2
    · subst hk2
      by_cases h3 : kn = 3
      · subst h3
        by_cases hud : up = d
        · have hdn : M.m.dn d (.node c k) = true := by rw [Hdk.out, hud]; simp
          have Hc2 : Hid (Calls Tryz.prog 54 #[.pointer (some ⟨M.mp, 0, none⟩), .agg c.toArray, .int .i64 d] w2 fun e w5 => ∃ (y : DT) (s' : σ), e = .returned (.agg y.c.toArray) ∧ Hid (Bq M [(W.heap.size + 1, 31, zEx)] 31 s W W.heap.size (W.heap.size + 2) c s' w5) ∧ Hid (M.vst s s' 1 fun v => v = (d, .node c k)) ∧ Hid (UIn (Nw M.C w2.heap.size s' w5) w5 .expr y) ∧ Hid (∃ y0, M.m.rs d (.node c k) y0 ∧ USm .expr y0 y) ∧ Hid (y.c.toArray.size = 14) ∧ Hid ((Tryz.prog.info? 31).map (·.size) = some y.c.length) ∧ Hid (y.c.toArray.all (·.oneCell') = true)) := by
            refine (Hcol.out Hkd.out).out.mono ?_
            rintro e w5 ⟨y, s', rfl, hf, hv, hg1, hg2⟩
            have m5 := (Hq.out.call hf).1
            obtain ⟨hy, hr⟩ := hg2 hdn
            have hl := hy.len
            exact ⟨y, s', rfl, m5, hv, hy, hr, by show _ = _; rw [List.size_toArray, hl]; rfl, by show _ = _; rw [hl]; exact uI31, all_one hy.ones⟩
          have Hdn := Lib.hid hdn
          clear hdn
          subst hud
          go_wp2_with (first
            | (refine wpList_load_one rfl 3 _ rfl _ Tryz.underlying3 rfl _ 0 _ _ _ rfl Hkb.out Hk0.out ?_)
            | (refine wpList_load_part rfl 31 _ rfl _ Tryz.underlying31 rfl _ _ _ _ c rfl Hq.out.bk hce.out (by rw [List.drop_zero, List.take_length]) ?_)
            | (go_at_call 54; refine Hc2.out.mono ?_; rintro e w5 ⟨y, s', rfl, m5, hv, hy, hr, y14, yi, y1⟩)
            | (refine wpList_store_blk rfl 31 _ _ rfl _ _ _ _ y.c rfl rfl (m5.out.box (List.mem_singleton.2 rfl)) yi.out (by simpa [zEx] using Nat.le_of_eq y14.out) (by simpa using y1.out) ?_; intro w6 hw6))
          rw [setL_all _ _ (by simpa [zEx] using y14.out)] at hw6
          refine bodyPost_blk rfl (W.heap.size + 1) y.c _ rfl _ hw6.bk Tryz.underlying31 rfl yi.out rfl ?_
          obtain ⟨y0, hr0, hs0⟩ := hr.out
          exact ⟨y, s', rfl, (m5.out.ret hB (by omega) (by omega) hw6).1, hv.out.to (DT.node c k).n_pos fun v => (Vs.done Hkd.out Hdn.out).symm, (hy.out.wrt hw6 (by omega) (by omega)).lower (by omega), .done _ _ y0 y Hkd.out Hdn.out hr0 hs0⟩
        · have hdn : M.m.dn d (.node c k) = false := by rw [Hdk.out]; simp [hud]
          have Hc2 : Hid (Calls Tryz.prog 54 #[.pointer (some ⟨M.mp, 0, none⟩), .agg c.toArray, .int .i64 d] w2 fun e w5 => ∃ (y : DT) (s' : σ), e = .returned (.agg y.c.toArray) ∧ Hid (Bq M [(W.heap.size + 1, 31, zEx)] 31 s W W.heap.size (W.heap.size + 2) c s' w5) ∧ Hid (M.vst s s' 1 fun v => v = (d, .node c k)) ∧ Hid (UIn (fun k => k < M.C.B) w5 .expr y) ∧ Hid (y = .node (M.m.cg d (.node c k)) k) ∧ Hid (y.c.toArray.size = 14) ∧ Hid ((Tryz.prog.info? 31).map (·.size) = some y.c.length) ∧ Hid (y.c.toArray.all (·.oneCell') = true)) := by
            refine (Hcol.out Hkd.out).out.mono ?_
            rintro e w5 ⟨y, s', rfl, hf, hv, hg1, hg2⟩
            have m5 := (Hq.out.call hf).1
            obtain ⟨hr, hy, _⟩ := hg1 hdn
            have hl := hy.len
            exact ⟨y, s', rfl, m5, hv, hy, hr, by show _ = _; rw [List.size_toArray, hl]; rfl, by show _ = _; rw [hl]; exact uI31, all_one hy.ones⟩
          have Hdn := Lib.hid hdn
          clear hdn
          go_wp2_with (first
            | (refine wpList_load_one rfl 3 _ rfl _ Tryz.underlying3 rfl _ 0 _ _ _ rfl Hkb.out Hk0.out ?_)
            | (refine wpList_load_part rfl 31 _ rfl _ Tryz.underlying31 rfl _ _ _ _ c rfl Hq.out.bk hce.out (by rw [List.drop_zero, List.take_length]) ?_)
            | (go_at_call 54; refine Hc2.out.mono ?_; rintro e w5 ⟨y, s', rfl, m5, hv, hy, hr, y14, yi, y1⟩)
            | (refine wpList_store_blk rfl 31 _ _ rfl _ _ _ _ y.c rfl rfl m5.out.bk yi.out (by rw [Hcl.out]; simpa using Nat.le_of_eq y14.out) (by simpa using y1.out) ?_; intro w6 hw6))
          rw [setL_all _ _ (by rw [Hcl.out]; simpa using y14.out)] at hw6
          go_meet
          have h5 := m5.out
          obtain rfl := hr.out
          refine ⟨s', M.m.cg d (.node c k), (h5.set hB hw6).1, hy.out.keep (fun k hk => (h5.fr.src Hst.out k hk).symm) fun _ h => h, ⟨fun _ => ⟨Hdn.out, rfl⟩, fun e => absurd Hkd.out e⟩, hv.out.to (Nat.le_refl _) fun v => ⟨fun e => ⟨Hkd.out, e⟩, fun e => e.2⟩, fun _ => Hdn.out⟩
      · have hdn : M.m.dn d (.node c k) = false := by rw [Hdk.out]; simp [h3]
        have Hc2 : Hid (Calls Tryz.prog 54 #[.pointer (some ⟨M.mp, 0, none⟩), .agg c.toArray, .int .i64 d] w2 fun e w5 => ∃ (y : DT) (s' : σ), e = .returned (.agg y.c.toArray) ∧ Hid (Bq M [(W.heap.size + 1, 31, zEx)] 31 s W W.heap.size (W.heap.size + 2) c s' w5) ∧ Hid (M.vst s s' 1 fun v => v = (d, .node c k)) ∧ Hid (UIn (fun k => k < M.C.B) w5 .expr y) ∧ Hid (y = .node (M.m.cg d (.node c k)) k) ∧ Hid (y.c.toArray.size = 14) ∧ Hid ((Tryz.prog.info? 31).map (·.size) = some y.c.length) ∧ Hid (y.c.toArray.all (·.oneCell') = true)) := by
          refine (Hcol.out Hkd.out).out.mono ?_
          rintro e w5 ⟨y, s', rfl, hf, hv, hg1, hg2⟩
          have m5 := (Hq.out.call hf).1
          obtain ⟨hr, hy, _⟩ := hg1 hdn
          have hl := hy.len
          exact ⟨y, s', rfl, m5, hv, hy, hr, by show _ = _; rw [List.size_toArray, hl]; rfl, by show _ = _; rw [hl]; exact uI31, all_one hy.ones⟩
        have Hdn := Lib.hid hdn
        clear hdn
        go_wp2_with (first
          | (refine wpList_load_one rfl 3 _ rfl _ Tryz.underlying3 rfl _ 0 _ _ _ rfl Hkb.out Hk0.out ?_)
          | (refine wpList_load_part rfl 31 _ rfl _ Tryz.underlying31 rfl _ _ _ _ c rfl Hq.out.bk hce.out (by rw [List.drop_zero, List.take_length]) ?_)
          | (go_at_call 54; refine Hc2.out.mono ?_; rintro e w5 ⟨y, s', rfl, m5, hv, hy, hr, y14, yi, y1⟩)
          | (refine wpList_store_blk rfl 31 _ _ rfl _ _ _ _ y.c rfl rfl m5.out.bk yi.out (by rw [Hcl.out]; simpa using Nat.le_of_eq y14.out) (by simpa using y1.out) ?_; intro w6 hw6))
        rw [setL_all _ _ (by rw [Hcl.out]; simpa using y14.out)] at hw6
        go_meet
        have h5 := m5.out
        obtain rfl := hr.out
        refine ⟨s', M.m.cg d (.node c k), (h5.set hB hw6).1, hy.out.keep (fun k hk => (h5.fr.src Hst.out k hk).symm) fun _ h => h, ⟨fun _ => ⟨Hdn.out, rfl⟩, fun e => absurd Hkd.out e⟩, hv.out.to (Nat.le_refl _) fun v => ⟨fun e => ⟨Hkd.out, e⟩, fun e => e.2⟩, fun _ => Hdn.out⟩
    · have Hk2 := Lib.hid hk2
      go_wp2_with fail
      go_meet
      have hk := Hkd.out
      have hne : kd c ≠ 2 := by rw [hk]; exact Hk2.out
      exact ⟨s, c, Hq.out, Hx.out, ⟨fun e => absurd e hne, fun _ => rfl⟩, Mde.vst.no fun v h => absurd h.1 hne, fun e => absurd e hne⟩
  case rest =>
    obtain ⟨s1, c1, hq1, hc1, hpre, hv1, hdn⟩ := hcut
    obtain ⟨a, F, fc, fz, V, vc, vz, A, ac, az, B, sc, sz, he⟩ := hc1.ex
    injection he.e with e1 e2
    subst e2
    have hcl1 : c1.length = 14 := by rw [e1]; rfl
    have g12 : Hid (c1[12]? = some (.slice A az.length ac)) := by show _ = _; rw [e1]; rfl
    have g13 : Hid (c1[13]? = some (.slice B sz.length sc)) := by show _ = _; rw [e1]; rfl
    rw [DT.n_node] at hn hd2 hcn
    simp at hn hd2 hcn
    have Hn := Lib.hid hn
    have Hd2 := Lib.hid hd2
    have Hcn := Lib.hid hcn
    have He1 := Lib.hid e1
    have He := Lib.hid he
    have Hpre := Lib.hid hpre
    have Hv1 := Lib.hid hv1
    have Hdn := Lib.hid hdn
    have Hq1 := Lib.hid hq1
    have Hd := Lib.hid hd
    have ie := Lib.hid uIle
    have il := Lib.hid uIlrel
    have i5 := Lib.hid uI31
    clear Hcl
    have Hcl := Lib.hid hcl1
    have Hcl0 := Lib.hid hcl1
    obtain ⟨n, hlen⟩ : ∃ n, az.length = n := ⟨_, rfl⟩
    have Hlen := Lib.hid hlen
    clear hq1 hc1 hpre hv1 hdn he e1 hn hd2 hcn hcl1 hlen Hx Hcol Hki Hkd Hall Hq Hkb Hk0 Hdk hce kc2 hz1 hz2 hw1 hw2
    go_upto_region 7 with (first
      | (refine wpList_load_one rfl 28 _ rfl _ Tryz.underlying28 rfl _ 12 _ _ _ rfl Hq1.out.bk g12.out ?_)
      | (refine wpList_store_blk rfl 28 _ _ rfl _ 12 _ _ [.slice none 0 0] rfl rfl Hq1.out.bk ie.out (by rw [Hcl.out]; decide) rfl ?_; intro w5 hw5; have Hw5 := Lib.hid hw5; clear hw5))
    have Hq5 := Lib.hid (Hq1.out.set hB Hw5.out).1
    rw [Hlen.out]
    go_wp2_with fail
    go_loopw [42] (fun i wr => ∃ (j : Nat) (ys : List DT) (s2 : σ) (ov : Value), j ≤ n ∧ i = .int .i64 j ∧ Lq M [(W.heap.size + 1, 31, zEx)] 31 s W W.heap.size (W.heap.size + 2) c1 12 s1 w5 (JSq M .expr (fun _ => d) az s1) (fun _ => Mp M.m .expr d) .expr 31 az j ys s2 ov wr) (fun i _ => n - (intOf i).toNat)
    case atStart => exact ⟨0, [], s1, _, Nat.zero_le _, rfl, Lq.start Hq5.out JSq.start⟩
    case round =>
      obtain ⟨j, ys, s2, ov, hj, rfl, hI⟩ := hrel
      by_cases hlt : j < n
      ·
        obtain ⟨x, ad, hx, rfl, hb, hat⟩ := (He.out.ra.keep (hI.q.fr.src Hst.out) (fun _ h => h)).get (show j < az.length by rw [Hlen.out]; exact hlt)
        have hxi := (He.out.ia x (mem_of_get? hx)).keep (hI.q.fr.src Hst.out) fun _ h => h
        have hx6 := hxi.len
        have HiE : Hid ((Tryz.prog.info? 31).map (·.size) = some x.c.length) := by show _ = _; rw [hx6]; exact uI31
        have HiE2 : Hid ((Tryz.prog.info? 31).map (·.size) = some x.c.toArray.size) := by show _ = _; rw [List.size_toArray, hx6]; exact uI31
        have Hz : Hid (x.c.toArray.size = 14) := by show _ = _; rw [List.size_toArray, hx6]; rfl
        have H1 := Lib.hid (all_one hxi.ones)
        have Hat := Lib.hid (at_add hat)
        obtain ⟨W2, hW2⟩ : ∃ W2, wr.alloc (.cells x.c.toArray 31) = W2 := ⟨_, rfl⟩
        have Hcell : Hid (∀ j u, x.c[j]? = some u → W2.cell? ((⟨wr.heap.size, 0, none⟩ : Addr).add j) = some u) := by show ∀ j u, _ → _; rw [← hW2]; exact new_cellsT wr x.c 31
        have hbW2 : Below wr.heap.size wr W2 := by rw [← hW2]; exact bel1 _ _
        have hxn := n_mem (mem_of_get? hx)
        have hcall : Hid (Calls Tryz.prog 33 #[.pointer (some ⟨M.mp, 0, none⟩), .agg x.c.toArray, .int .i64 (d)] W2 fun e w3 => ∃ (y : DT) (s' : σ), e = .returned (.agg y.c.toArray) ∧ Hid (Fr M.C s2 W2 s' (w3.alloc (.cells y.c.toArray 31))) ∧ Hid (M.vst s2 s' x.n (Vs M.m .expr (d) x)) ∧ Hid (UIn (Nw M.C W2.heap.size s' (w3.alloc (.cells y.c.toArray 31))) (w3.alloc (.cells y.c.toArray 31)) .expr y) ∧ Hid (Mp M.m .expr (d) x y) ∧ Hid (y.c.toArray.size = 14) ∧ Hid ((Tryz.prog.info? 31).map (·.size) = some y.c.length) ∧ Hid (∀ u, u ∈ y.c → u.oneCell' = true) ∧ Hid (y.c.toArray.all (·.oneCell') = true) ∧
            Hid (Lr M 31 W.heap.size c1 12 w5 31 14 j ys ov (w3.alloc (.cells y.c.toArray 31))) ∧ Hid (Bk (w3.alloc (.cells y.c.toArray 31)) w3.heap.size y.c 31)) := by
          have hf2 := Fr.below hI.q.fr.st hbW2
          refine (h1 σ M x (d) s2 W2 (by have := Hn.out; have := Hd2.out; have := Hcn.out; have := Hd.out; have := Hv1.out.2; omega) (by have := Hn.out; have := Hd2.out; have := Hcn.out; have := Hd.out; have := Hv1.out.2; omega) (by have := Hn.out; have := Hd2.out; have := Hcn.out; have := Hd.out; have := Hv1.out.2; omega) hf2.st (hxi.keep (hf2.src hI.q.fr.st) fun _ h => h) ?_).mono ?_
          · have h1 := hI.j.sq.2
            have h2 := nL_take_succ hx
            have h3 := nL_take_le az (j + 1)
            have := Hn.out; have := Hd2.out; have := Hcn.out; have := Hd.out; have := Hv1.out.2
            omega
          · rintro e w3 ⟨y, s', rfl, hf, hv, hy, hr⟩
            skip
            have fa := Fr.below hf.st (bel1 w3 (.cells y.c.toArray 31))
            have hmid : Lr M 31 W.heap.size c1 12 w5 31 (Uy.sz .expr) j ys ov (w3.alloc (.cells y.c.toArray 31)) := hI.mid hbW2 (hf.trans fa)
            refine ⟨y, s', rfl, hf.trans fa, hv, hy.fr fa, hr, ?_, ?_, hy.ones, all_one hy.ones, hmid, Bk.new w3 y.c _⟩
            · show _ = _
              rw [List.size_toArray, hy.len]; rfl
            · show _ = _
              rw [hy.len]; exact uI31
        have Hx := Lib.hid hx
        have HW2 := Lib.hid hW2
        have HbW2 := Lib.hid hbW2
        have HI := Lib.hid hI
        have Hb2 := Lib.hid (hI.q.call (Fr.below hI.q.fr.st hbW2)).1.bk
        have Hov : Hid ((c1.set 12 ov)[12]? = some ov) := by show _ = _; rw [List.getElem?_set_self (by rw [Hcl.out]; decide)]
        have Hcs : Hid (12 + 1 ≤ (c1.set 12 ov).length) := by show _ ≤ _; rw [List.length_set, Hcl.out]; decide
        have hjn : j < 1048576 := by have := len_nL az; have := Hlen.out; have := Hn.out; have := Hd2.out; have := Hcn.out; have := Hd.out; have := Hv1.out.2; omega
        have h3 : Hid (j + 1 ≤ maxLen) := by show _ ≤ _; unfold maxLen; omega
        have h4 : Hid ((j + 1) * 184 ≤ 140737488355328) := by show _ ≤ _; omega
        obtain ⟨i0, hi, hrest⟩ := Option.map_eq_some_iff.1 infoExp_r
        simp only [Prod.mk.injEq] at hrest
        obtain ⟨hz0, isz, iby⟩ := hrest
        obtain ⟨z, iz, hzs⟩ := Option.map_eq_some_iff.1 hz0
        clear hat hxi hx6 hx hW2 hI hbW2 hxn
        go_upto_region 10 with (first | (refine wpList_load_st rfl 31 _ rfl _ Tryz.underlying31 rfl (ad.add (j * 14)) x.c HiE.out rfl Hat.out ?_) | (refine wpList_store_st rfl 31 _ _ rfl _ x.c.toArray HiE2.out Hz.out.symm H1.out rfl rfl ?_))
        rw [HW2.out]
        go_upto_region 11 with (first
          | (refine wpList_load_st rfl 31 _ rfl _ Tryz.underlying31 rfl ⟨wr.heap.size, 0, none⟩ x.c HiE.out rfl Hcell.out ?_)
          | (go_at_call 33; refine hcall.out.mono ?_; rintro e w3 ⟨y, s', rfl, Hf, Hv, Hy, Hr, Hzy, Hyi, H1y, H1a, Hm, Hk3⟩; have Hown3 := Lib.hid Hm.out.own; have Hz3 := Lib.hid Hm.out.sz; have Hbk3 := Lib.hid Hm.out.bk)
          | (refine wpList_store_st rfl 31 _ _ rfl _ y.c.toArray (by simpa using Hyi.out) Hzy.out.symm H1a.out rfl rfl ?_)
          | (fail))
        go_wp2_with (first
          | (refine wpList_load_one rfl 28 _ rfl _ Tryz.underlying28 rfl _ 12 _ _ _ rfl Hbk3.out Hov.out ?_)
          | (refine wpList_load_part rfl 31 _ rfl _ Tryz.underlying31 rfl _ _ _ _ y.c rfl Hk3.out Hyi.out (by rw [List.drop_zero, List.take_length]) ?_)
          | (refine wpList_one_st rfl 28 31 _ rfl i0 Tryz.underlying28 hi _ iz y.c.toArray (isz.trans Hzy.out.symm) (hzs.trans Hzy.out.symm) (by rw [Hzy.out]; decide) (by rw [Hzy.out]; decide) rfl ?_)
          | (at_builtin; refine wpList_append_row _ rfl _ _ 28 rfl w5.heap.size 31 i0 _ 14 184 Tryz.underlying28 hi iz isz iby hzs (by decide) ov _ _ rfl (Hown3.out.alloc _) (some ⟨(w3.alloc (.cells y.c.toArray 31)).heap.size, 0, none⟩) 1 1 y.c rfl (by rw [← List.size_toArray, Hzy.out]) (new_srcK _ _ _) H1y.out h3.out h4.out (Hz3.out _) ?_; intro ov' w4 hown4 hg4 hm4; obtain ⟨A', c', hov⟩ := own_slice hown4; subst hov; have K4 := Lib.hid (Hm.out.grown hg4); have Hown4 := Lib.hid hown4; have Hg4 := Lib.hid hg4; have Hm4 := Lib.hid hm4; clear hown4 hg4 hm4)
          | (refine wpList_store_blk rfl 28 _ _ rfl _ 12 _ _ [.slice A' (j + 1) c'] rfl rfl K4.out ie.out Hcs.out rfl ?_; intro w5' hw5))
        have Hst' := Lib.hid (HI.out.step Hst.out Hx.out HbW2.out Hf.out (HI.out.j.sq.step Hx.out Hv.out) Hy.out Hr.out Hown4.out Hg4.out Hm4.out (by rw [show setL (c1.set 12 ov) 12 [Value.slice A' (j + 1) c'] = (c1.set 12 ov).set 12 (.slice A' (j + 1) c') from rfl, setSet] at hw5; exact hw5))
        clear hw5
        go_wp2_with fail
        go_roundw
        case rel => exact ⟨j + 1, ys ++ [y], s', _, by omega, by simp, Hst'.out⟩
        case measure => simp [intOf]; omega
      · obtain rfl : j = n := by omega
        obtain ⟨A3, cap3, rfl, l3, hlr⟩ := hI.fin Hlen.out
        have R3 := Lib.hid (hlr.upgrade hI.j.rel)
        have V3 := Lib.hid (hI.j.sq.fin Hlen.out)
        have L3 := Lib.hid l3
        obtain ⟨c2, hc2⟩ : ∃ c2, c1.set 12 (.slice A3 az.length cap3) = c2 := ⟨_, rfl⟩
        have hq2 := hI.q
        rw [hc2] at hq2
        have g13' : Hid (c2[13]? = some (.slice B sz.length sc)) := by show _ = _; rw [← hc2, List.getElem?_set_ne (by decide)]; exact g13.out
        have hcl2 : c2.length = 14 := by rw [← hc2, List.length_set]; exact Hcl.out
        have Hq2 := Lib.hid hq2
        have Hc2 := Lib.hid hc2
        clear Hcl
        have Hcl := Lib.hid hcl2
        obtain ⟨m, hlen2⟩ : ∃ m, sz.length = m := ⟨_, rfl⟩
        have Hlen2 := Lib.hid hlen2
        clear hI hlr hq2 hc2 hcl2 hlen2 Hq5 Hw5 l3
        go_upto_region 15 with (first
          | (refine wpList_load_one rfl 29 _ rfl _ Tryz.underlying29 rfl _ 13 _ _ _ rfl Hq2.out.bk g13'.out ?_)
          | (refine wpList_store_blk rfl 29 _ _ rfl _ 13 _ _ [.slice none 0 0] rfl rfl Hq2.out.bk il.out (by rw [Hcl.out]; decide) rfl ?_; intro w6 hw6; have Hw6 := Lib.hid hw6; clear hw6))
        have Hq6 := Lib.hid (Hq2.out.set hB Hw6.out).1
        have R3' := Lib.hid ((Hq2.out.set hB Hw6.out).2 _ _ _ _ _ R3.out)
        rw [Hlen2.out]
        go_wp2_with fail
        go_loopw [62] (fun i wr => ∃ (j : Nat) (ys : List DT) (s3 : σ) (ov : Value), j ≤ m ∧ i = .int .i64 j ∧ Lq M [(W.heap.size + 1, 31, zEx)] 31 s W W.heap.size (W.heap.size + 2) c2 13 s2 w6 (JSq M .rel (fun _ => d + 1) sz s2) (fun _ => Mp M.m .rel (d + 1)) .rel 59 sz j ys s3 ov wr) (fun i _ => m - (intOf i).toNat)
        case atStart => exact ⟨0, [], s2, _, Nat.zero_le _, rfl, Lq.start Hq6.out JSq.start⟩
        case round =>
          obtain ⟨y3, hy3⟩ : ∃ y3, y3 = ys := ⟨_, rfl⟩
          subst hy3
          obtain ⟨j, ys, s3, ov, hj, rfl, hI⟩ := hrel
          by_cases hlt : j < m
          · have hwr : IntKind.i64.wrap (d + 1) = d + 1 := IntWalk.i64_in _ ⟨by have := Hd.out; omega, by have := Hd.out; have := Hd2.out; omega⟩
            obtain ⟨x, ad, hx, rfl, hb, hat⟩ := (He.out.rs.keep (hI.q.fr.src Hst.out) (fun _ h => h)).get (show j < sz.length by rw [Hlen2.out]; exact hlt)
            have hxi := (He.out.js x (mem_of_get? hx)).keep (hI.q.fr.src Hst.out) fun _ h => h
            have hx6 := hxi.len
            have HiE : Hid ((Tryz.prog.info? 59).map (·.size) = some x.c.length) := by show _ = _; rw [hx6]; exact uI59
            have HiE2 : Hid ((Tryz.prog.info? 59).map (·.size) = some x.c.toArray.size) := by show _ = _; rw [List.size_toArray, hx6]; exact uI59
            have Hz : Hid (x.c.toArray.size = 14) := by show _ = _; rw [List.size_toArray, hx6]; rfl
            have H1 := Lib.hid (all_one hxi.ones)
            have Hat := Lib.hid (at_add hat)
            obtain ⟨W2, hW2⟩ : ∃ W2, wr.alloc (.cells x.c.toArray 59) = W2 := ⟨_, rfl⟩
            have Hcell : Hid (∀ j u, x.c[j]? = some u → W2.cell? ((⟨wr.heap.size, 0, none⟩ : Addr).add j) = some u) := by show ∀ j u, _ → _; rw [← hW2]; exact new_cellsT wr x.c 59
            have hbW2 : Below wr.heap.size wr W2 := by rw [← hW2]; exact bel1 _ _
            have hxn := n_mem (mem_of_get? hx)
            have hcall : Hid (Calls Tryz.prog 55 #[.pointer (some ⟨M.mp, 0, none⟩), .agg x.c.toArray, .int .i64 (d + 1)] W2 fun e w3 => ∃ (y : DT) (s' : σ), e = .returned (.agg y.c.toArray) ∧ Hid (Fr M.C s3 W2 s' (w3.alloc (.cells y.c.toArray 59))) ∧ Hid (M.vst s3 s' x.n (Vs M.m .rel (d + 1) x)) ∧ Hid (UIn (Nw M.C W2.heap.size s' (w3.alloc (.cells y.c.toArray 59))) (w3.alloc (.cells y.c.toArray 59)) .rel y) ∧ Hid (Mp M.m .rel (d + 1) x y) ∧ Hid (y.c.toArray.size = 14) ∧ Hid ((Tryz.prog.info? 59).map (·.size) = some y.c.length) ∧ Hid (∀ u, u ∈ y.c → u.oneCell' = true) ∧ Hid (y.c.toArray.all (·.oneCell') = true) ∧
                Hid (Lr M 31 W.heap.size c2 13 w6 59 14 j ys ov (w3.alloc (.cells y.c.toArray 59))) ∧ Hid (Bk (w3.alloc (.cells y.c.toArray 59)) w3.heap.size y.c 59)) := by
              have hf2 := Fr.below hI.q.fr.st hbW2
              refine (h2 σ M x (d + 1) s3 W2 (by have := Hn.out; have := Hd2.out; have := Hcn.out; have := Hd.out; have := Hv1.out.2; have := V3.out.2; omega) (by have := Hn.out; have := Hd2.out; have := Hcn.out; have := Hd.out; have := Hv1.out.2; have := V3.out.2; omega) (by have := Hn.out; have := Hd2.out; have := Hcn.out; have := Hd.out; have := Hv1.out.2; have := V3.out.2; omega) hf2.st (hxi.keep (hf2.src hI.q.fr.st) fun _ h => h) ?_).mono ?_
              · have h1 := hI.j.sq.2
                have h2 := nL_take_succ hx
                have h3 := nL_take_le sz (j + 1)
                have := Hn.out; have := Hd2.out; have := Hcn.out; have := Hd.out; have := Hv1.out.2; have := V3.out.2
                omega
              · rintro e w3 ⟨y, s', rfl, hf, hv, hy, hr⟩
                skip
                have fa := Fr.below hf.st (bel1 w3 (.cells y.c.toArray 59))
                have hmid : Lr M 31 W.heap.size c2 13 w6 59 (Uy.sz .rel) j ys ov (w3.alloc (.cells y.c.toArray 59)) := hI.mid hbW2 (hf.trans fa)
                refine ⟨y, s', rfl, hf.trans fa, hv, hy.fr fa, hr, ?_, ?_, hy.ones, all_one hy.ones, hmid, Bk.new w3 y.c _⟩
                · show _ = _
                  rw [List.size_toArray, hy.len]; rfl
                · show _ = _
                  rw [hy.len]; exact uI59
            have Hx := Lib.hid hx
            have HW2 := Lib.hid hW2
            have HbW2 := Lib.hid hbW2
            have HI := Lib.hid hI
            have Hb2 := Lib.hid (hI.q.call (Fr.below hI.q.fr.st hbW2)).1.bk
            have Hov : Hid ((c2.set 13 ov)[13]? = some ov) := by show _ = _; rw [List.getElem?_set_self (by rw [Hcl.out]; decide)]
            have Hcs : Hid (13 + 1 ≤ (c2.set 13 ov).length) := by show _ ≤ _; rw [List.length_set, Hcl.out]; decide
            have hjn : j < 1048576 := by have := len_nL sz; have := Hlen2.out; have := Hn.out; have := Hd2.out; have := Hcn.out; have := Hd.out; have := Hv1.out.2; have := V3.out.2; omega
            have h3 : Hid (j + 1 ≤ maxLen) := by show _ ≤ _; unfold maxLen; omega
            have h4 : Hid ((j + 1) * 248 ≤ 140737488355328) := by show _ ≤ _; omega
            obtain ⟨i0, hi, hrest⟩ := Option.map_eq_some_iff.1 infoRel_r
            simp only [Prod.mk.injEq] at hrest
            obtain ⟨hz0, isz, iby⟩ := hrest
            obtain ⟨z, iz, hzs⟩ := Option.map_eq_some_iff.1 hz0
            clear hat hxi hx6 hx hW2 hI hbW2 hxn
            go_upto_region 18 with (first | (refine wpList_load_st rfl 59 _ rfl _ Tryz.underlying59 rfl (ad.add (j * 14)) x.c HiE.out rfl Hat.out ?_) | (refine wpList_store_st rfl 59 _ _ rfl _ x.c.toArray HiE2.out Hz.out.symm H1.out rfl rfl ?_))
            rw [HW2.out]
            go_upto_region 19 with (first
              | (refine wpList_load_st rfl 59 _ rfl _ Tryz.underlying59 rfl ⟨wr.heap.size, 0, none⟩ x.c HiE.out rfl Hcell.out ?_)
              | (go_at_call 55; refine hcall.out.mono ?_; rintro e w3 ⟨y, s', rfl, Hf, Hv, Hy, Hr, Hzy, Hyi, H1y, H1a, Hm, Hk3⟩; have Hown3 := Lib.hid Hm.out.own; have Hz3 := Lib.hid Hm.out.sz; have Hbk3 := Lib.hid Hm.out.bk)
              | (refine wpList_store_st rfl 59 _ _ rfl _ y.c.toArray (by simpa using Hyi.out) Hzy.out.symm H1a.out rfl rfl ?_)
              | (fail))
            go_wp2_with (first
              | (refine wpList_load_one rfl 29 _ rfl _ Tryz.underlying29 rfl _ 13 _ _ _ rfl Hbk3.out Hov.out ?_)
              | (refine wpList_load_part rfl 59 _ rfl _ Tryz.underlying59 rfl _ _ _ _ y.c rfl Hk3.out Hyi.out (by rw [List.drop_zero, List.take_length]) ?_)
              | (refine wpList_one_st rfl 29 59 _ rfl i0 Tryz.underlying29 hi _ iz y.c.toArray (isz.trans Hzy.out.symm) (hzs.trans Hzy.out.symm) (by rw [Hzy.out]; decide) (by rw [Hzy.out]; decide) rfl ?_)
              | (at_builtin; refine wpList_append_row _ rfl _ _ 29 rfl w6.heap.size 59 i0 _ 14 248 Tryz.underlying29 hi iz isz iby hzs (by decide) ov _ _ rfl (Hown3.out.alloc _) (some ⟨(w3.alloc (.cells y.c.toArray 59)).heap.size, 0, none⟩) 1 1 y.c rfl (by rw [← List.size_toArray, Hzy.out]) (new_srcK _ _ _) H1y.out h3.out h4.out (Hz3.out _) ?_; intro ov' w4 hown4 hg4 hm4; obtain ⟨A', c', hov⟩ := own_slice hown4; subst hov; have K4 := Lib.hid (Hm.out.grown hg4); have Hown4 := Lib.hid hown4; have Hg4 := Lib.hid hg4; have Hm4 := Lib.hid hm4; clear hown4 hg4 hm4)
              | (refine wpList_store_blk rfl 29 _ _ rfl _ 13 _ _ [.slice A' (j + 1) c'] rfl rfl K4.out il.out Hcs.out rfl ?_; intro w5' hw5))
            have Hst' := Lib.hid (HI.out.step Hst.out Hx.out HbW2.out Hf.out (HI.out.j.sq.step Hx.out Hv.out) Hy.out Hr.out Hown4.out Hg4.out Hm4.out (by rw [show setL (c2.set 13 ov) 13 [Value.slice A' (j + 1) c'] = (c2.set 13 ov).set 13 (.slice A' (j + 1) c') from rfl, setSet] at hw5; exact hw5))
            clear hw5
            go_wp2_with fail
            go_roundw
            case rel => exact ⟨j + 1, ys ++ [y], s', _, by omega, by simp, Hst'.out⟩
            case measure => simp [intOf]; omega
          · obtain rfl : j = m := by omega
            obtain ⟨A4, cap4, rfl, l4, hlr⟩ := hI.fin Hlen2.out
            have hfin : c2.set 13 (.slice A4 sz.length cap4) = [.int .i64 a.k, .int .i64 a.op, .int .i64 a.up, .int .i64 a.pos, .int .i64 a.tk, .int .i64 a.tsc, .slice F fz.length fc, .int .i64 a.vk, .int .i64 a.vn, .int .i64 a.vsc, .string a.s, .slice V vz.length vc, .slice A3 az.length cap3, .slice A4 sz.length cap4] := by rw [← Hc2.out, He1.out]; rfl
            have hq3 := hI.q
            rw [hfin] at hq3
            have Hq3 := Lib.hid hq3
            have R4 := Lib.hid (hlr.upgrade hI.j.rel)
            have V4 := Lib.hid (hI.j.sq.fin Hlen2.out)
            have R3 := Lib.hid (hI.tk _ _ _ _ _ R3'.out)
            clear hI hlr hfin hq3
            go_wp2_with (first
              | (refine wpList_load_part rfl 31 _ rfl _ Tryz.underlying31 rfl _ _ _ _ [.int .i64 a.k, .int .i64 a.op, .int .i64 a.up, .int .i64 a.pos, .int .i64 a.tk, .int .i64 a.tsc, .slice F fz.length fc, .int .i64 a.vk, .int .i64 a.vn, .int .i64 a.vsc, .string a.s, .slice V vz.length vc, .slice A3 az.length cap3, .slice A4 sz.length cap4] rfl Hq3.out.bk i5.out rfl ?_)
              | (refine wpList_store_blk rfl 31 _ _ rfl _ _ _ _ [.int .i64 a.k, .int .i64 a.op, .int .i64 a.up, .int .i64 a.pos, .int .i64 a.tk, .int .i64 a.tsc, .slice F fz.length fc, .int .i64 a.vk, .int .i64 a.vn, .int .i64 a.vsc, .string a.s, .slice V vz.length vc, .slice A3 az.length cap3, .slice A4 sz.length cap4] rfl rfl (Hq3.out.box (List.mem_singleton.2 rfl)) i5.out (by simp [zEx]) rfl ?_; intro w' hwz))
            refine bodyPost_blk rfl (W.heap.size + 1) [.int .i64 a.k, .int .i64 a.op, .int .i64 a.up, .int .i64 a.pos, .int .i64 a.tk, .int .i64 a.tsc, .slice F fz.length fc, .int .i64 a.vk, .int .i64 a.vn, .int .i64 a.vsc, .string a.s, .slice V vz.length vc, .slice A3 az.length cap3, .slice A4 sz.length cap4] _ rfl _ hwz.bk Tryz.underlying31 rfl i5.out rfl ?_
            obtain ⟨hf, tl⟩ := Hq3.out.ret hB (by omega) (by omega) hwz
            have p3 := tl _ _ _ _ _ R3.out
            have p4 := tl _ _ _ _ _ R4.out
            have hu : UIn (Nw M.C W.heap.size s3 w') w' .expr (.node [.int .i64 a.k, .int .i64 a.op, .int .i64 a.up, .int .i64 a.pos, .int .i64 a.tk, .int .i64 a.tsc, .slice F fz.length fc, .int .i64 a.vk, .int .i64 a.vn, .int .i64 a.vsc, .string a.s, .slice V vz.length vc, .slice A3 az.length cap3, .slice A4 sz.length cap4] [fz, vz, y3, ys]) :=
              UIn.mkK rfl rfl ⟨a, _, _, _, _, rfl, He.out.ok⟩ ⟨srcKR (t := .field) Hst.out hf He.out.rf He.out.jf rfl, srcKR (t := .value) Hst.out hf He.out.rv He.out.iv rfl, p3.krc (by omega) L3.out.1 L3.out.2 rfl, p4.krc (by omega) l4.1 l4.2 rfl, trivial⟩
            have hm : Mp M.m .expr d (.node c [fz, vz, az, sz]) (.node [.int .i64 a.k, .int .i64 a.op, .int .i64 a.up, .int .i64 a.pos, .int .i64 a.tk, .int .i64 a.tsc, .slice F fz.length fc, .int .i64 a.vk, .int .i64 a.vn, .int .i64 a.vsc, .string a.s, .slice V vz.length vc, .slice A3 az.length cap3, .slice A4 sz.length cap4] [fz, vz, y3, ys]) :=
              Mp.mkK Hpre.out (by rw [He1.out]; rfl) (fun j hj => by rw [He1.out]; exact lit_ex hj) ⟨ML.of_usl rfl (USL.refl _ _), ML.of_usl rfl (USL.refl _ _), p3.ml, p4.ml, trivial⟩
            have hv : M.vst s s3 (DT.node c [fz, vz, az, sz]).n (Vs M.m .expr d (.node c [fz, vz, az, sz])) := by
              refine ((Hv1.out.tr V3.out).tr V4.out).to (by rw [DT.n_node]; simp; omega) fun v => ?_
              rw [Vs.ex]
              constructor
              · rintro ((h | h) | h)
                · exact .inl h
                · exact .inr ⟨Hdn.out, .inl h⟩
                · exact .inr ⟨Hdn.out, .inr h⟩
              · rintro (h | ⟨_, h | h⟩)
                · exact .inl (.inl h)
                · exact .inl (.inr h)
                · exact .inr h
            exact ⟨.node [.int .i64 a.k, .int .i64 a.op, .int .i64 a.up, .int .i64 a.pos, .int .i64 a.tk, .int .i64 a.tsc, .slice F fz.length fc, .int .i64 a.vk, .int .i64 a.vn, .int .i64 a.vsc, .string a.s, .slice V vz.length vc, .slice A3 az.length cap3, .slice A4 sz.length cap4] [fz, vz, y3, ys], s3, rfl, hf, hv, hu, hm⟩
end Go.Proofs.YthijagpnpcpcbaaGreat

