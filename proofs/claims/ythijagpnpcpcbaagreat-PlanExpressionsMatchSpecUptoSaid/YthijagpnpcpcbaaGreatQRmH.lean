/-
  The reference's mode.rel.
  The reference's mode: its methods, for all trees.
-/
import Derived.Test.YthijagpnpcpcbaaGreatQRmE
import Derived.Test.YthijagpnpcpcbaaGreatQRmF
import Derived.Deep.CutBlock
namespace Go.Proofs.YthijagpnpcpcbaaGreat
open Go.RowKit Go.Sort
/-- What a list made in place has come to, behind its loop. -/
def LqOut {σ : Type} (M : Mde σ) (xs : List (Nat × TypeId × List Value)) (T : TypeId) (s0 : σ) (W : World) (b e : Nat) (cs : List Value) (o : Nat) (s1 : σ) (w1 : World) (t : Uy) (dq : Nat → Int) (l : List DT) (wx : World) : Prop :=
  ∃ (A : Option Addr) (cap : Nat) (ys : List DT) (s2 : σ), Bq M xs T s0 W b e (cs.set o (.slice A l.length cap)) s2 wx ∧ Tk M e s1 w1 s2 wx ∧ (l.length ≤ cap ∧ cap ≤ maxLen) ∧ M.vst s1 s2 (nL l) (fun v => ∃ (i : Nat) (x : DT), l[i]? = some x ∧ Vs M.m t (dq i) x v) ∧ LR M.C e s2 wx t (fun _ _ => True) l A ys ∧ ML M.m t dq l ys
theorem Lq.out {σ : Type} {M : Mde σ} {xs : List (Nat × TypeId × List Value)} {T : TypeId} {s0 : σ} {W : World} {b e : Nat} {cs : List Value} {o : Nat} {s1 : σ} {w1 : World} {t : Uy} {dq : Nat → Int} {T' : TypeId} {l : List DT} {ys : List DT} {s : σ} {ov : Value} {wr : World} {n : Nat} (h : Lq M xs T s0 W b e cs o s1 w1 (JSq M t dq l s1) (fun i => Mp M.m t (dq i)) t T' l n ys s ov wr) (hl : l.length = n) :
    LqOut M xs T s0 W b e cs o s1 w1 t dq l wr := by
  obtain ⟨A, cap, rfl, h1, h2⟩ := h.fin hl
  exact ⟨A, cap, ys, s, h.q, h.tk, h1, h.j.sq.fin hl, h2, by rw [h.j.len, hl], h.j.rel⟩
theorem uIlw' : (Tryz.prog.info? 56).map (·.size) = some 1 := by kernel_rfl
theorem infoAgg_r : (Tryz.prog.info? 99).map (fun i => (i.zero.map (fun z => z.cells.size), i.size, i.bytes)) = some (some 5, 5, 72) := by kernel_rfl
theorem infoWin_r : (Tryz.prog.info? 103).map (fun i => (i.zero.map (fun z => z.cells.size), i.size, i.bytes)) = some (some 12, 12, 176) := by kernel_rfl
/-- What is known of a relation's cells. -/
structure Rc (c : List Value) (k : Int) (I : Option Addr) (il ic : Nat) (X : Option Addr) (xl xc : Nat) (G : Option Addr) (gl gc : Nat) (WN : Option Addr) (wl wc : Nat) (K : Option Addr) (kl kc : Nat) : Prop where
  len : c.length = 14
  c0 : c[0]? = some (.int .i64 k)
  c6 : c[6]? = some (.slice I il ic)
  c7 : c[7]? = some (.slice X xl xc)
  c9 : c[9]? = some (.slice G gl gc)
  c10 : c[10]? = some (.slice WN wl wc)
  c11 : c[11]? = some (.slice K kl kc)
theorem lit_re {k op off cnt : Int} {nm : ByteArray} {all : Bool} {v4 v5 v6 v7 v8 v9 v10 v11 u4 u5 u6 u7 u8 u9 u10 u11 : Value} {j : Nat} (hj : ∀ s, (j, s) ∉ Uy.rel.sl) : [Value.int .i64 k, .int .i64 op, .string nm, .bool all, v4, v5, v6, v7, v8, v9, v10, v11, .int .i64 off, .int .i64 cnt][j]? = [Value.int .i64 k, .int .i64 op, .string nm, .bool all, u4, u5, u6, u7, u8, u9, u10, u11, .int .i64 off, .int .i64 cnt][j]? := by
  match j with | 0 => rfl | 1 => rfl | 2 => rfl | 3 => rfl | 4 => exact absurd (by simp [Uy.sl]) (hj .type) | 5 => exact absurd (by simp [Uy.sl]) (hj .row) | 6 => exact absurd (by simp [Uy.sl]) (hj .rel) | 7 => exact absurd (by simp [Uy.sl]) (hj .expr) | 8 => exact absurd (by simp [Uy.sl]) (hj .set) | 9 => exact absurd (by simp [Uy.sl]) (hj .agg) | 10 => exact absurd (by simp [Uy.sl]) (hj .win) | 11 => exact absurd (by simp [Uy.sl]) (hj .key) | 12 => rfl | 13 => rfl | j + 14 => rfl
set_option maxRecDepth 100000 in
set_option maxHeartbeats 8000000 in
theorem rrel_step (N : Nat) (hr : RmT 55 .rel N) (hl : RmL 69 .expr N) (ha : RmT 70 .agg N) (hk : RmL 71 .key N) : RmT 55 .rel (N + 1) := by
  intro σ M x0 d s W hn hd hd2 hst hx hcn
  obtain ⟨k, op, nm, all, off, cnt, T, tc, tz, R, rc, rz, I, ic, iz, X, xc, xz, S, sc, sz, G, gc, gz, WN, wc', wz, K, kc, kz, he⟩ := hx.re
  obtain rfl := he.e
  have hB := M.C.base s W hst
  show Calls _ _ #[.pointer (some ⟨M.mp, 0, none⟩), .agg #[.int .i64 k, .int .i64 op, .string nm, .bool all, .slice T tz.length tc, .slice R rz.length rc, .slice I iz.length ic, .slice X xz.length xc, .slice S sz.length sc, .slice G gz.length gc, .slice WN wz.length wc', .slice K kz.length kc, .int .i64 off, .int .i64 cnt], .int .i64 d] _ _
  obtain ⟨c, hc⟩ : ∃ c : List Value, c = [.int .i64 k, .int .i64 op, .string nm, .bool all, .slice T tz.length tc, .slice R rz.length rc, .slice I iz.length ic, .slice X xz.length xc, .slice S sz.length sc, .slice G gz.length gc, .slice WN wz.length wc', .slice K kz.length kc, .int .i64 off, .int .i64 cnt] := ⟨_, rfl⟩
  have hrc : Rc c k I iz.length ic X xz.length xc G gz.length gc WN wz.length wc' K kz.length kc := by rw [hc]; exact ⟨rfl, rfl, rfl, rfl, rfl, rfl, rfl⟩
  have hkd : kd c = k := by rw [hc]; rfl
  rw [← hc] at he hx hn hd2 hcn ⊢
  have hcl : c.length = 14 := hrc.len
  have hall : c.toArray.all (·.oneCell') = true := all_one hx.ones
  have Hi : Hid ((Tryz.prog.info? 59).map (·.size) = some c.length) := by show _ = _; rw [hcl]; exact uI59
  obtain ⟨w1, hw1⟩ : ∃ w1, W.alloc (.cells c.toArray 59) = w1 := ⟨_, rfl⟩
  obtain ⟨w2, hw2⟩ : ∃ w2, w1.alloc (.cells #[.int .i64 0, .int .i64 0, .string ⟨#[]⟩, .bool false, .slice none 0 0, .slice none 0 0, .slice none 0 0, .slice none 0 0, .slice none 0 0, .slice none 0 0, .slice none 0 0, .slice none 0 0, .int .i64 0, .int .i64 0] 59) = w2 := ⟨_, rfl⟩
  have hz1 : w1.heap.size = W.heap.size + 1 := by rw [← hw1]; simp
  have hz2 : w2.heap.size = W.heap.size + 2 := by rw [← hw2]; simp [hz1]
  have hq := Bq.new2 (M := M) (cs := c) (zs := zRe) hst hw1 hw2
  have Hq := Lib.hid hq
  have Hrc := Lib.hid hrc
  have Hc := Lib.hid hc
  have Hcl := Lib.hid hcl
  have Hall := Lib.hid hall
  have Hst := Lib.hid hst
  have Hx := Lib.hid hx
  have Hkd := Lib.hid hkd
  have He := Lib.hid he
  clear hq hrc hc hcl hall hst hx hkd he
  by_cases hk13 : k = 13
  · subst hk13
    go_enter Tryz.func55, Tryz.ntmps55
    go_wp2_with (first
      | (refine wpList_load_one rfl 3 _ rfl _ Tryz.underlying3 rfl _ 0 _ _ _ rfl Hq.out.bk Hrc.out.c0 ?_)
      | (refine wpList_load_part rfl 59 _ rfl _ Tryz.underlying59 rfl _ _ _ _ c rfl Hq.out.bk Hi.out (by rw [List.drop_zero, List.take_length]) ?_)
      | (refine wpList_store_blk rfl 59 _ _ rfl _ _ _ _ c rfl rfl (Hq.out.box (List.mem_singleton.2 rfl)) Hi.out (by rw [Hcl.out]; decide) (by have := Hall.out; simpa using this) ?_; intro wzz hwz))
    rw [setL_all _ _ (by rw [Hcl.out]; rfl)] at hwz
    refine bodyPost_blk rfl (W.heap.size + 1) c _ rfl _ hwz.bk Tryz.underlying59 rfl Hi.out rfl ?_
    obtain ⟨hf, _⟩ := Hq.out.ret hB (by omega) (by omega) hwz
    exact ⟨.node c [tz, rz, iz, xz, sz, gz, wz, kz], s, rfl, hf, Mde.vst.no fun v h => Vs.no13 Hkd.out h, Hx.out.keep (hf.src Hst.out) fun _ h => Nw.src Hst.out hf h, .recu d _ _ Hkd.out (USm.refl _ _)⟩
  · have Hk13 := Lib.hid hk13
    rw [DT.n_node] at hn hd2 hcn
    simp at hn hd2 hcn
    have Hn := Lib.hid hn
    have Hd2 := Lib.hid hd2
    have Hcn := Lib.hid hcn
    have Hd := Lib.hid hd
    have ie := Lib.hid uIle
    have il := Lib.hid uIlrel
    have ig := Lib.hid uIlg
    have iw := Lib.hid uIlw'
    have ik := Lib.hid uIlk
    obtain ⟨n, hlen⟩ : ∃ n, iz.length = n := ⟨_, rfl⟩
    have Hlen := Lib.hid hlen
    clear hn hd2 hcn hd hlen
    go_enter Tryz.func55, Tryz.ntmps55
    go_upto_region 5 with (first
      | (refine wpList_load_one rfl 3 _ rfl _ Tryz.underlying3 rfl _ 0 _ _ _ rfl Hq.out.bk Hrc.out.c0 ?_)
      | (refine wpList_load_one rfl 29 _ rfl _ Tryz.underlying29 rfl _ 6 _ _ _ rfl Hq.out.bk Hrc.out.c6 ?_)
      | (refine wpList_store_blk rfl 29 _ _ rfl _ 6 _ _ [.slice none 0 0] rfl rfl Hq.out.bk il.out (by rw [Hcl.out]; decide) rfl ?_; intro w5 hw5; have Hw5 := Lib.hid hw5; clear hw5))
    have Hq5 := Lib.hid (Hq.out.set hB Hw5.out).1
    rw [Hlen.out]
    clear hw1 hw2 hz1 hz2
    go_upto_block 0 with (fail)
    go_cut [] (fun wx => LqOut M [(W.heap.size + 1, 59, zRe)] 59 s W W.heap.size (W.heap.size + 2) c 6 s w5 .rel (fun q => dep .rel c 2 q d) iz wx)
    case first =>
      go_wp2_with fail
      go_loopw [32] (fun i wr => ∃ (j : Nat) (ys : List DT) (s2 : σ) (ov : Value), j ≤ n ∧ i = .int .i64 j ∧ Lq M [(W.heap.size + 1, 59, zRe)] 59 s W W.heap.size (W.heap.size + 2) c 6 s w5 (JSq M .rel (fun q => dep .rel c 2 q d) iz s) (fun q => Mp M.m .rel (dep .rel c 2 q d)) .rel 59 iz j ys s2 ov wr) (fun i _ => n - (intOf i).toNat)
      case atStart => exact ⟨0, [], s, _, Nat.zero_le _, rfl, Lq.start Hq5.out JSq.start⟩
      case round =>
        obtain ⟨j, ys, s2, ov, hj, rfl, hI⟩ := hrel
        by_cases hlt : j < n
        · have hwr : IntKind.i64.wrap (d + 1) = d + 1 := IntWalk.i64_in _ ⟨by have := Hd.out; omega, by have := Hd.out; have := Hd2.out; omega⟩
          have Hk0 : Hid ((c.set 6 ov)[0]? = some (.int .i64 k)) := by show _ = _; rw [List.getElem?_set_ne (by decide)]; exact Hrc.out.c0
          by_cases hk6 : k = 6
          · by_cases hj1 : j = 1
            · have hdep : dep .rel c 2 j d = d + 1 := by simp [dep, Hkd.out, hj1, hk6]
              have hjb : ((j : Int) == 1) = true := by rw [hj1]; rfl
              subst hk6
              have Hj1 := Lib.hid hj1
              clear hj1
              obtain ⟨x, ad, hx, rfl, hb, hat⟩ := (He.out.ri.keep (hI.q.fr.src Hst.out) (fun _ h => h)).get (show j < iz.length by rw [Hlen.out]; exact hlt)
              have hxi := (He.out.ii x (mem_of_get? hx)).keep (hI.q.fr.src Hst.out) fun _ h => h
              have hx6 := hxi.len
              have HiE : Hid ((Tryz.prog.info? 59).map (·.size) = some x.c.length) := by show _ = _; rw [hx6]; exact uI59
              have HiE2 : Hid ((Tryz.prog.info? 59).map (·.size) = some x.c.toArray.size) := by show _ = _; rw [List.size_toArray, hx6]; exact uI59
              have Hz : Hid (x.c.toArray.size = 14) := by show _ = _; rw [List.size_toArray, hx6]; rfl
              have H1 := Lib.hid (all_one hxi.ones)
              have Hat := Lib.hid (at_add hat)
              obtain ⟨W2, hW2⟩ : ∃ W2, wr.alloc (.cells x.c.toArray 59) = W2 := ⟨_, rfl⟩
              have Hcell : Hid (∀ j u, x.c[j]? = some u → W2.cell? ((⟨wr.heap.size, 0, none⟩ : Addr).add j) = some u) := by show ∀ j u, _ → _; rw [← hW2]; exact new_cellsT wr x.c 59
              have hbW2 : Below wr.heap.size wr W2 := by rw [← hW2]; exact bel1 _ _
              have hxn := n_mem (mem_of_get? hx)
              have hcall : Hid (Calls Tryz.prog 55 #[.pointer (some ⟨M.mp, 0, none⟩), .agg x.c.toArray, .int .i64 (d + 1)] W2 fun e w3 => ∃ (y : DT) (s' : σ), e = .returned (.agg y.c.toArray) ∧ Hid (Fr M.C s2 W2 s' (w3.alloc (.cells y.c.toArray 59))) ∧ Hid (M.vst s2 s' x.n (Vs M.m .rel (dep .rel c 2 j d) x)) ∧ Hid (UIn (Nw M.C W2.heap.size s' (w3.alloc (.cells y.c.toArray 59))) (w3.alloc (.cells y.c.toArray 59)) .rel y) ∧ Hid (Mp M.m .rel (dep .rel c 2 j d) x y) ∧ Hid (y.c.toArray.size = 14) ∧ Hid ((Tryz.prog.info? 59).map (·.size) = some y.c.length) ∧ Hid (∀ u, u ∈ y.c → u.oneCell' = true) ∧ Hid (y.c.toArray.all (·.oneCell') = true) ∧
                  Hid (Lr M 59 W.heap.size c 6 w5 59 14 j ys ov (w3.alloc (.cells y.c.toArray 59))) ∧ Hid (Bk (w3.alloc (.cells y.c.toArray 59)) w3.heap.size y.c 59)) := by
                have hf2 := Fr.below hI.q.fr.st hbW2
                refine (hr σ M x (d + 1) s2 W2 (by have := Hn.out; have := Hd2.out; have := Hcn.out; have := Hd.out; omega) (by have := Hn.out; have := Hd2.out; have := Hcn.out; have := Hd.out; omega) (by have := Hn.out; have := Hd2.out; have := Hcn.out; have := Hd.out; omega) hf2.st (hxi.keep (hf2.src hI.q.fr.st) fun _ h => h) ?_).mono ?_
                · have h1 := hI.j.sq.2
                  have h2 := nL_take_succ hx
                  have h3 := nL_take_le iz (j + 1)
                  have := Hn.out; have := Hd2.out; have := Hcn.out; have := Hd.out
                  omega
                · rintro e w3 ⟨y, s', rfl, hf, hv, hy, hr⟩
                  rw [← hdep] at hv hr
                  have fa := Fr.below hf.st (bel1 w3 (.cells y.c.toArray 59))
                  have hmid : Lr M 59 W.heap.size c 6 w5 59 (Uy.sz .rel) j ys ov (w3.alloc (.cells y.c.toArray 59)) := hI.mid hbW2 (hf.trans fa)
                  refine ⟨y, s', rfl, hf.trans fa, hv, hy.fr fa, hr, ?_, ?_, hy.ones, all_one hy.ones, hmid, Bk.new w3 y.c _⟩
                  · show _ = _
                    rw [List.size_toArray, hy.len]; rfl
                  · show _ = _
                    rw [hy.len]; exact uI59
              have Hx := Lib.hid hx
              have HW2 := Lib.hid hW2
              have HbW2 := Lib.hid hbW2
              have HI := Lib.hid hI
              have Hb2 := Lib.hid (hI.q.call (Fr.below hI.q.fr.st hbW2)).1.bk
              have Hov : Hid ((c.set 6 ov)[6]? = some ov) := by show _ = _; rw [List.getElem?_set_self (by rw [Hcl.out]; decide)]
              have Hcs : Hid (6 + 1 ≤ (c.set 6 ov).length) := by show _ ≤ _; rw [List.length_set, Hcl.out]; decide
              have hjn : j < 1048576 := by have := len_nL iz; have := Hlen.out; have := Hn.out; have := Hd2.out; have := Hcn.out; have := Hd.out; omega
              have h3 : Hid (j + 1 ≤ maxLen) := by show _ ≤ _; unfold maxLen; omega
              have h4 : Hid ((j + 1) * 248 ≤ 140737488355328) := by show _ ≤ _; omega
              obtain ⟨i0, hi, hrest⟩ := Option.map_eq_some_iff.1 infoRel_r
              simp only [Prod.mk.injEq] at hrest
              obtain ⟨hz0, isz, iby⟩ := hrest
              obtain ⟨z, iz, hzs⟩ := Option.map_eq_some_iff.1 hz0
              clear hat hxi hx6 hx hW2 hI hbW2 hxn
              go_upto_region 8 with (first | (refine wpList_load_st rfl 59 _ rfl _ Tryz.underlying59 rfl (ad.add (j * 14)) x.c HiE.out rfl Hat.out ?_) | (refine wpList_store_st rfl 59 _ _ rfl _ x.c.toArray HiE2.out Hz.out.symm H1.out rfl rfl ?_))
              rw [HW2.out]
              go_upto_region 12 with (first
                | (refine wpList_load_st rfl 59 _ rfl _ Tryz.underlying59 rfl ⟨wr.heap.size, 0, none⟩ x.c HiE.out rfl Hcell.out ?_)
                | (go_at_call 55; refine hcall.out.mono ?_; rintro e w3 ⟨y, s', rfl, Hf, Hv, Hy, Hr, Hzy, Hyi, H1y, H1a, Hm, Hk3⟩; have Hown3 := Lib.hid Hm.out.own; have Hz3 := Lib.hid Hm.out.sz; have Hbk3 := Lib.hid Hm.out.bk)
                | (refine wpList_store_st rfl 59 _ _ rfl _ y.c.toArray (by simpa using Hyi.out) Hzy.out.symm H1a.out rfl rfl ?_)
                | (refine wpList_load_one rfl 3 _ rfl _ Tryz.underlying3 rfl _ 0 _ _ _ rfl Hb2.out Hk0.out ?_))
              go_wp2_with (first
                | (refine wpList_load_one rfl 29 _ rfl _ Tryz.underlying29 rfl _ 6 _ _ _ rfl Hbk3.out Hov.out ?_)
                | (refine wpList_load_part rfl 59 _ rfl _ Tryz.underlying59 rfl _ _ _ _ y.c rfl Hk3.out Hyi.out (by rw [List.drop_zero, List.take_length]) ?_)
                | (refine wpList_one_st rfl 29 59 _ rfl i0 Tryz.underlying29 hi _ iz y.c.toArray (isz.trans Hzy.out.symm) (hzs.trans Hzy.out.symm) (by rw [Hzy.out]; decide) (by rw [Hzy.out]; decide) rfl ?_)
                | (at_builtin; refine wpList_append_row _ rfl _ _ 29 rfl w5.heap.size 59 i0 _ 14 248 Tryz.underlying29 hi iz isz iby hzs (by decide) ov _ _ rfl (Hown3.out.alloc _) (some ⟨(w3.alloc (.cells y.c.toArray 59)).heap.size, 0, none⟩) 1 1 y.c rfl (by rw [← List.size_toArray, Hzy.out]) (new_srcK _ _ _) H1y.out h3.out h4.out (Hz3.out _) ?_; intro ov' w4 hown4 hg4 hm4; obtain ⟨A', c', hov⟩ := own_slice hown4; subst hov; have K4 := Lib.hid (Hm.out.grown hg4); have Hown4 := Lib.hid hown4; have Hg4 := Lib.hid hg4; have Hm4 := Lib.hid hm4; clear hown4 hg4 hm4)
                | (refine wpList_store_blk rfl 29 _ _ rfl _ 6 _ _ [.slice A' (j + 1) c'] rfl rfl K4.out il.out Hcs.out rfl ?_; intro w5' hw5))
              have Hst' := Lib.hid (HI.out.step Hst.out Hx.out HbW2.out Hf.out (HI.out.j.sq.step Hx.out Hv.out) Hy.out Hr.out Hown4.out Hg4.out Hm4.out (by rw [show setL (c.set 6 ov) 6 [Value.slice A' (j + 1) c'] = (c.set 6 ov).set 6 (.slice A' (j + 1) c') from rfl, setSet] at hw5; exact hw5))
              clear hw5
              go_wp2_with fail
              go_roundw
              case rel => exact ⟨j + 1, ys ++ [y], s', _, by omega, by simp, Hst'.out⟩
              case measure => simp [intOf]; omega
            · have hdep : dep .rel c 2 j d = d := by simp [dep, Hkd.out, hj1, hk6]
              have hjb : ((j : Int) == 1) = false := by rw [beq_eq_false_iff_ne]; omega
              subst hk6
              have Hj1 := Lib.hid hj1
              clear hj1 hwr
              obtain ⟨x, ad, hx, rfl, hb, hat⟩ := (He.out.ri.keep (hI.q.fr.src Hst.out) (fun _ h => h)).get (show j < iz.length by rw [Hlen.out]; exact hlt)
              have hxi := (He.out.ii x (mem_of_get? hx)).keep (hI.q.fr.src Hst.out) fun _ h => h
              have hx6 := hxi.len
              have HiE : Hid ((Tryz.prog.info? 59).map (·.size) = some x.c.length) := by show _ = _; rw [hx6]; exact uI59
              have HiE2 : Hid ((Tryz.prog.info? 59).map (·.size) = some x.c.toArray.size) := by show _ = _; rw [List.size_toArray, hx6]; exact uI59
              have Hz : Hid (x.c.toArray.size = 14) := by show _ = _; rw [List.size_toArray, hx6]; rfl
              have H1 := Lib.hid (all_one hxi.ones)
              have Hat := Lib.hid (at_add hat)
              obtain ⟨W2, hW2⟩ : ∃ W2, wr.alloc (.cells x.c.toArray 59) = W2 := ⟨_, rfl⟩
              have Hcell : Hid (∀ j u, x.c[j]? = some u → W2.cell? ((⟨wr.heap.size, 0, none⟩ : Addr).add j) = some u) := by show ∀ j u, _ → _; rw [← hW2]; exact new_cellsT wr x.c 59
              have hbW2 : Below wr.heap.size wr W2 := by rw [← hW2]; exact bel1 _ _
              have hxn := n_mem (mem_of_get? hx)
              have hcall : Hid (Calls Tryz.prog 55 #[.pointer (some ⟨M.mp, 0, none⟩), .agg x.c.toArray, .int .i64 (d)] W2 fun e w3 => ∃ (y : DT) (s' : σ), e = .returned (.agg y.c.toArray) ∧ Hid (Fr M.C s2 W2 s' (w3.alloc (.cells y.c.toArray 59))) ∧ Hid (M.vst s2 s' x.n (Vs M.m .rel (dep .rel c 2 j d) x)) ∧ Hid (UIn (Nw M.C W2.heap.size s' (w3.alloc (.cells y.c.toArray 59))) (w3.alloc (.cells y.c.toArray 59)) .rel y) ∧ Hid (Mp M.m .rel (dep .rel c 2 j d) x y) ∧ Hid (y.c.toArray.size = 14) ∧ Hid ((Tryz.prog.info? 59).map (·.size) = some y.c.length) ∧ Hid (∀ u, u ∈ y.c → u.oneCell' = true) ∧ Hid (y.c.toArray.all (·.oneCell') = true) ∧
                  Hid (Lr M 59 W.heap.size c 6 w5 59 14 j ys ov (w3.alloc (.cells y.c.toArray 59))) ∧ Hid (Bk (w3.alloc (.cells y.c.toArray 59)) w3.heap.size y.c 59)) := by
                have hf2 := Fr.below hI.q.fr.st hbW2
                refine (hr σ M x (d) s2 W2 (by have := Hn.out; have := Hd2.out; have := Hcn.out; have := Hd.out; omega) (by have := Hn.out; have := Hd2.out; have := Hcn.out; have := Hd.out; omega) (by have := Hn.out; have := Hd2.out; have := Hcn.out; have := Hd.out; omega) hf2.st (hxi.keep (hf2.src hI.q.fr.st) fun _ h => h) ?_).mono ?_
                · have h1 := hI.j.sq.2
                  have h2 := nL_take_succ hx
                  have h3 := nL_take_le iz (j + 1)
                  have := Hn.out; have := Hd2.out; have := Hcn.out; have := Hd.out
                  omega
                · rintro e w3 ⟨y, s', rfl, hf, hv, hy, hr⟩
                  rw [← hdep] at hv hr
                  have fa := Fr.below hf.st (bel1 w3 (.cells y.c.toArray 59))
                  have hmid : Lr M 59 W.heap.size c 6 w5 59 (Uy.sz .rel) j ys ov (w3.alloc (.cells y.c.toArray 59)) := hI.mid hbW2 (hf.trans fa)
                  refine ⟨y, s', rfl, hf.trans fa, hv, hy.fr fa, hr, ?_, ?_, hy.ones, all_one hy.ones, hmid, Bk.new w3 y.c _⟩
                  · show _ = _
                    rw [List.size_toArray, hy.len]; rfl
                  · show _ = _
                    rw [hy.len]; exact uI59
              have Hx := Lib.hid hx
              have HW2 := Lib.hid hW2
              have HbW2 := Lib.hid hbW2
              have HI := Lib.hid hI
              have Hb2 := Lib.hid (hI.q.call (Fr.below hI.q.fr.st hbW2)).1.bk
              have Hov : Hid ((c.set 6 ov)[6]? = some ov) := by show _ = _; rw [List.getElem?_set_self (by rw [Hcl.out]; decide)]
              have Hcs : Hid (6 + 1 ≤ (c.set 6 ov).length) := by show _ ≤ _; rw [List.length_set, Hcl.out]; decide
              have hjn : j < 1048576 := by have := len_nL iz; have := Hlen.out; have := Hn.out; have := Hd2.out; have := Hcn.out; have := Hd.out; omega
              have h3 : Hid (j + 1 ≤ maxLen) := by show _ ≤ _; unfold maxLen; omega
              have h4 : Hid ((j + 1) * 248 ≤ 140737488355328) := by show _ ≤ _; omega
              obtain ⟨i0, hi, hrest⟩ := Option.map_eq_some_iff.1 infoRel_r
              simp only [Prod.mk.injEq] at hrest
              obtain ⟨hz0, isz, iby⟩ := hrest
              obtain ⟨z, iz, hzs⟩ := Option.map_eq_some_iff.1 hz0
              clear hat hxi hx6 hx hW2 hI hbW2 hxn
              go_upto_region 8 with (first | (refine wpList_load_st rfl 59 _ rfl _ Tryz.underlying59 rfl (ad.add (j * 14)) x.c HiE.out rfl Hat.out ?_) | (refine wpList_store_st rfl 59 _ _ rfl _ x.c.toArray HiE2.out Hz.out.symm H1.out rfl rfl ?_))
              rw [HW2.out]
              go_upto_region 12 with (first
                | (refine wpList_load_st rfl 59 _ rfl _ Tryz.underlying59 rfl ⟨wr.heap.size, 0, none⟩ x.c HiE.out rfl Hcell.out ?_)
                | (go_at_call 55; refine hcall.out.mono ?_; rintro e w3 ⟨y, s', rfl, Hf, Hv, Hy, Hr, Hzy, Hyi, H1y, H1a, Hm, Hk3⟩; have Hown3 := Lib.hid Hm.out.own; have Hz3 := Lib.hid Hm.out.sz; have Hbk3 := Lib.hid Hm.out.bk)
                | (refine wpList_store_st rfl 59 _ _ rfl _ y.c.toArray (by simpa using Hyi.out) Hzy.out.symm H1a.out rfl rfl ?_)
                | (refine wpList_load_one rfl 3 _ rfl _ Tryz.underlying3 rfl _ 0 _ _ _ rfl Hb2.out Hk0.out ?_))
              go_wp2_with (first
                | (refine wpList_load_one rfl 29 _ rfl _ Tryz.underlying29 rfl _ 6 _ _ _ rfl Hbk3.out Hov.out ?_)
                | (refine wpList_load_part rfl 59 _ rfl _ Tryz.underlying59 rfl _ _ _ _ y.c rfl Hk3.out Hyi.out (by rw [List.drop_zero, List.take_length]) ?_)
                | (refine wpList_one_st rfl 29 59 _ rfl i0 Tryz.underlying29 hi _ iz y.c.toArray (isz.trans Hzy.out.symm) (hzs.trans Hzy.out.symm) (by rw [Hzy.out]; decide) (by rw [Hzy.out]; decide) rfl ?_)
                | (at_builtin; refine wpList_append_row _ rfl _ _ 29 rfl w5.heap.size 59 i0 _ 14 248 Tryz.underlying29 hi iz isz iby hzs (by decide) ov _ _ rfl (Hown3.out.alloc _) (some ⟨(w3.alloc (.cells y.c.toArray 59)).heap.size, 0, none⟩) 1 1 y.c rfl (by rw [← List.size_toArray, Hzy.out]) (new_srcK _ _ _) H1y.out h3.out h4.out (Hz3.out _) ?_; intro ov' w4 hown4 hg4 hm4; obtain ⟨A', c', hov⟩ := own_slice hown4; subst hov; have K4 := Lib.hid (Hm.out.grown hg4); have Hown4 := Lib.hid hown4; have Hg4 := Lib.hid hg4; have Hm4 := Lib.hid hm4; clear hown4 hg4 hm4)
                | (refine wpList_store_blk rfl 29 _ _ rfl _ 6 _ _ [.slice A' (j + 1) c'] rfl rfl K4.out il.out Hcs.out rfl ?_; intro w5' hw5))
              have Hst' := Lib.hid (HI.out.step Hst.out Hx.out HbW2.out Hf.out (HI.out.j.sq.step Hx.out Hv.out) Hy.out Hr.out Hown4.out Hg4.out Hm4.out (by rw [show setL (c.set 6 ov) 6 [Value.slice A' (j + 1) c'] = (c.set 6 ov).set 6 (.slice A' (j + 1) c') from rfl, setSet] at hw5; exact hw5))
              clear hw5
              go_wp2_with fail
              go_roundw
              case rel => exact ⟨j + 1, ys ++ [y], s', _, by omega, by simp, Hst'.out⟩
              case measure => simp [intOf]; omega
          · have hdep : dep .rel c 2 j d = d := by simp [dep, Hkd.out, hk6]
            clear hwr
            obtain ⟨x, ad, hx, rfl, hb, hat⟩ := (He.out.ri.keep (hI.q.fr.src Hst.out) (fun _ h => h)).get (show j < iz.length by rw [Hlen.out]; exact hlt)
            have hxi := (He.out.ii x (mem_of_get? hx)).keep (hI.q.fr.src Hst.out) fun _ h => h
            have hx6 := hxi.len
            have HiE : Hid ((Tryz.prog.info? 59).map (·.size) = some x.c.length) := by show _ = _; rw [hx6]; exact uI59
            have HiE2 : Hid ((Tryz.prog.info? 59).map (·.size) = some x.c.toArray.size) := by show _ = _; rw [List.size_toArray, hx6]; exact uI59
            have Hz : Hid (x.c.toArray.size = 14) := by show _ = _; rw [List.size_toArray, hx6]; rfl
            have H1 := Lib.hid (all_one hxi.ones)
            have Hat := Lib.hid (at_add hat)
            obtain ⟨W2, hW2⟩ : ∃ W2, wr.alloc (.cells x.c.toArray 59) = W2 := ⟨_, rfl⟩
            have Hcell : Hid (∀ j u, x.c[j]? = some u → W2.cell? ((⟨wr.heap.size, 0, none⟩ : Addr).add j) = some u) := by show ∀ j u, _ → _; rw [← hW2]; exact new_cellsT wr x.c 59
            have hbW2 : Below wr.heap.size wr W2 := by rw [← hW2]; exact bel1 _ _
            have hxn := n_mem (mem_of_get? hx)
            have hcall : Hid (Calls Tryz.prog 55 #[.pointer (some ⟨M.mp, 0, none⟩), .agg x.c.toArray, .int .i64 (d)] W2 fun e w3 => ∃ (y : DT) (s' : σ), e = .returned (.agg y.c.toArray) ∧ Hid (Fr M.C s2 W2 s' (w3.alloc (.cells y.c.toArray 59))) ∧ Hid (M.vst s2 s' x.n (Vs M.m .rel (dep .rel c 2 j d) x)) ∧ Hid (UIn (Nw M.C W2.heap.size s' (w3.alloc (.cells y.c.toArray 59))) (w3.alloc (.cells y.c.toArray 59)) .rel y) ∧ Hid (Mp M.m .rel (dep .rel c 2 j d) x y) ∧ Hid (y.c.toArray.size = 14) ∧ Hid ((Tryz.prog.info? 59).map (·.size) = some y.c.length) ∧ Hid (∀ u, u ∈ y.c → u.oneCell' = true) ∧ Hid (y.c.toArray.all (·.oneCell') = true) ∧
                Hid (Lr M 59 W.heap.size c 6 w5 59 14 j ys ov (w3.alloc (.cells y.c.toArray 59))) ∧ Hid (Bk (w3.alloc (.cells y.c.toArray 59)) w3.heap.size y.c 59)) := by
              have hf2 := Fr.below hI.q.fr.st hbW2
              refine (hr σ M x (d) s2 W2 (by have := Hn.out; have := Hd2.out; have := Hcn.out; have := Hd.out; omega) (by have := Hn.out; have := Hd2.out; have := Hcn.out; have := Hd.out; omega) (by have := Hn.out; have := Hd2.out; have := Hcn.out; have := Hd.out; omega) hf2.st (hxi.keep (hf2.src hI.q.fr.st) fun _ h => h) ?_).mono ?_
              · have h1 := hI.j.sq.2
                have h2 := nL_take_succ hx
                have h3 := nL_take_le iz (j + 1)
                have := Hn.out; have := Hd2.out; have := Hcn.out; have := Hd.out
                omega
              · rintro e w3 ⟨y, s', rfl, hf, hv, hy, hr⟩
                rw [← hdep] at hv hr
                have fa := Fr.below hf.st (bel1 w3 (.cells y.c.toArray 59))
                have hmid : Lr M 59 W.heap.size c 6 w5 59 (Uy.sz .rel) j ys ov (w3.alloc (.cells y.c.toArray 59)) := hI.mid hbW2 (hf.trans fa)
                refine ⟨y, s', rfl, hf.trans fa, hv, hy.fr fa, hr, ?_, ?_, hy.ones, all_one hy.ones, hmid, Bk.new w3 y.c _⟩
                · show _ = _
                  rw [List.size_toArray, hy.len]; rfl
                · show _ = _
                  rw [hy.len]; exact uI59
            have Hx := Lib.hid hx
            have HW2 := Lib.hid hW2
            have HbW2 := Lib.hid hbW2
            have HI := Lib.hid hI
            have Hb2 := Lib.hid (hI.q.call (Fr.below hI.q.fr.st hbW2)).1.bk
            have Hov : Hid ((c.set 6 ov)[6]? = some ov) := by show _ = _; rw [List.getElem?_set_self (by rw [Hcl.out]; decide)]
            have Hcs : Hid (6 + 1 ≤ (c.set 6 ov).length) := by show _ ≤ _; rw [List.length_set, Hcl.out]; decide
            have hjn : j < 1048576 := by have := len_nL iz; have := Hlen.out; have := Hn.out; have := Hd2.out; have := Hcn.out; have := Hd.out; omega
            have h3 : Hid (j + 1 ≤ maxLen) := by show _ ≤ _; unfold maxLen; omega
            have h4 : Hid ((j + 1) * 248 ≤ 140737488355328) := by show _ ≤ _; omega
            obtain ⟨i0, hi, hrest⟩ := Option.map_eq_some_iff.1 infoRel_r
            simp only [Prod.mk.injEq] at hrest
            obtain ⟨hz0, isz, iby⟩ := hrest
            obtain ⟨z, iz, hzs⟩ := Option.map_eq_some_iff.1 hz0
            clear hat hxi hx6 hx hW2 hI hbW2 hxn
            go_upto_region 8 with (first | (refine wpList_load_st rfl 59 _ rfl _ Tryz.underlying59 rfl (ad.add (j * 14)) x.c HiE.out rfl Hat.out ?_) | (refine wpList_store_st rfl 59 _ _ rfl _ x.c.toArray HiE2.out Hz.out.symm H1.out rfl rfl ?_))
            rw [HW2.out]
            go_upto_region 12 with (first
              | (refine wpList_load_st rfl 59 _ rfl _ Tryz.underlying59 rfl ⟨wr.heap.size, 0, none⟩ x.c HiE.out rfl Hcell.out ?_)
              | (go_at_call 55; refine hcall.out.mono ?_; rintro e w3 ⟨y, s', rfl, Hf, Hv, Hy, Hr, Hzy, Hyi, H1y, H1a, Hm, Hk3⟩; have Hown3 := Lib.hid Hm.out.own; have Hz3 := Lib.hid Hm.out.sz; have Hbk3 := Lib.hid Hm.out.bk)
              | (refine wpList_store_st rfl 59 _ _ rfl _ y.c.toArray (by simpa using Hyi.out) Hzy.out.symm H1a.out rfl rfl ?_)
              | (refine wpList_load_one rfl 3 _ rfl _ Tryz.underlying3 rfl _ 0 _ _ _ rfl Hb2.out Hk0.out ?_))
            go_wp2_with (first
              | (refine wpList_load_one rfl 29 _ rfl _ Tryz.underlying29 rfl _ 6 _ _ _ rfl Hbk3.out Hov.out ?_)
              | (refine wpList_load_part rfl 59 _ rfl _ Tryz.underlying59 rfl _ _ _ _ y.c rfl Hk3.out Hyi.out (by rw [List.drop_zero, List.take_length]) ?_)
              | (refine wpList_one_st rfl 29 59 _ rfl i0 Tryz.underlying29 hi _ iz y.c.toArray (isz.trans Hzy.out.symm) (hzs.trans Hzy.out.symm) (by rw [Hzy.out]; decide) (by rw [Hzy.out]; decide) rfl ?_)
              | (at_builtin; refine wpList_append_row _ rfl _ _ 29 rfl w5.heap.size 59 i0 _ 14 248 Tryz.underlying29 hi iz isz iby hzs (by decide) ov _ _ rfl (Hown3.out.alloc _) (some ⟨(w3.alloc (.cells y.c.toArray 59)).heap.size, 0, none⟩) 1 1 y.c rfl (by rw [← List.size_toArray, Hzy.out]) (new_srcK _ _ _) H1y.out h3.out h4.out (Hz3.out _) ?_; intro ov' w4 hown4 hg4 hm4; obtain ⟨A', c', hov⟩ := own_slice hown4; subst hov; have K4 := Lib.hid (Hm.out.grown hg4); have Hown4 := Lib.hid hown4; have Hg4 := Lib.hid hg4; have Hm4 := Lib.hid hm4; clear hown4 hg4 hm4)
              | (refine wpList_store_blk rfl 29 _ _ rfl _ 6 _ _ [.slice A' (j + 1) c'] rfl rfl K4.out il.out Hcs.out rfl ?_; intro w5' hw5))
            have Hst' := Lib.hid (HI.out.step Hst.out Hx.out HbW2.out Hf.out (HI.out.j.sq.step Hx.out Hv.out) Hy.out Hr.out Hown4.out Hg4.out Hm4.out (by rw [show setL (c.set 6 ov) 6 [Value.slice A' (j + 1) c'] = (c.set 6 ov).set 6 (.slice A' (j + 1) c') from rfl, setSet] at hw5; exact hw5))
            clear hw5
            go_wp2_with fail
            go_roundw
            case rel => exact ⟨j + 1, ys ++ [y], s', _, by omega, by simp, Hst'.out⟩
            case measure => simp [intOf]; omega
        · obtain rfl : j = n := by omega
          go_wp2_with fail
          go_meet
          exact hI.out Hlen.out
    case rest =>
      obtain ⟨A6, cap6, y6, s6, hq6, tk6, l6, v6, r6, m6⟩ := hcut
      obtain ⟨cA, hcA⟩ : ∃ cA, c.set 6 (.slice A6 iz.length cap6) = cA := ⟨_, rfl⟩
      rw [hcA] at hq6
      have HqcA := Lib.hid hq6
      have R6 := Lib.hid r6
      have V6 := Lib.hid v6
      have M6 := Lib.hid m6
      have L6 := Lib.hid l6
      have HlcA : Hid (cA.length = 14) := by show _ = _; rw [← hcA, List.length_set]; exact Hcl.out
      have a7 : Hid (cA[7]? = some (.slice X xz.length xc)) := by show _ = _; rw [← hcA, List.getElem?_set_ne (by decide)]; exact Hrc.out.c7
      have a9 : Hid (cA[9]? = some (.slice G gz.length gc)) := by show _ = _; rw [← hcA, List.getElem?_set_ne (by decide)]; exact Hrc.out.c9
      have a10 : Hid (cA[10]? = some (.slice WN wz.length wc')) := by show _ = _; rw [← hcA, List.getElem?_set_ne (by decide)]; exact Hrc.out.c10
      have a11 : Hid (cA[11]? = some (.slice K kz.length kc)) := by show _ = _; rw [← hcA, List.getElem?_set_ne (by decide)]; exact Hrc.out.c11
      have HhcA := Lib.hid hcA
      have Hcall7 : Hid (Calls Tryz.prog 69 #[.pointer (some ⟨M.mp, 0, none⟩), .slice X xz.length xc, .int .i64 d] wc (BqPost M [(W.heap.size + 1, 59, zRe)] 59 s W W.heap.size (W.heap.size + 2) cA .expr d xz s6 wc)) := hq6.list hl Hst.out xz X xc d (by have := Hn.out; have := Hd2.out; have := Hcn.out; have := Hd.out; omega) Hd.out (by have := Hn.out; have := Hd2.out; have := Hcn.out; have := Hd.out; omega) He.out.rx He.out.ix (by have := Hn.out; have := Hd2.out; have := Hcn.out; have := Hd.out; have := v6.2; omega)
      clear hq6 tk6 l6 v6 r6 m6 hcA Hq5 Hw5 Hq
      go_upto_region 15 with (first
        | (refine wpList_load_one rfl 28 _ rfl _ Tryz.underlying28 rfl _ 7 _ _ _ rfl HqcA.out.bk a7.out ?_)
        | (go_at_call 69; refine Hcall7.out.mono ?_; rintro e w7 ⟨A7, cap7, y7, s7, rfl, l7, hq7, t7, v7, r7⟩; have Hq7 := Lib.hid hq7; have L7 := Lib.hid l7; have V7 := Lib.hid v7; have R7 := Lib.hid r7; have R6' := Lib.hid (t7 _ _ _ _ _ R6.out); clear R6; clear hq7 t7 v7 r7 l7)
        | (refine wpList_store_blk rfl 28 _ _ rfl _ 7 _ _ [.slice A7 xz.length cap7] rfl rfl Hq7.out.bk ie.out (by rw [HlcA.out]; exact Nat.le_of_ble_eq_true rfl) rfl ?_; intro w8 hw8; have Hw8 := Lib.hid hw8; clear hw8))
      obtain ⟨cB, hcB⟩ : ∃ cB, cA.set 7 (.slice A7 xz.length cap7) = cB := ⟨_, rfl⟩
      have hbcB := Hq7.out.set hB (show Wrt w7 W.heap.size (cA.set 7 (.slice A7 xz.length cap7)) 59 w8 from Hw8.out)
      rw [hcB] at hbcB
      have HqcB := Lib.hid hbcB.1
      have R6 := Lib.hid (hbcB.2 _ _ _ _ _ R6'.out)
      have HlcB : Hid (cB.length = 14) := by show _ = _; rw [← hcB, List.length_set]; exact HlcA.out
      have b9 : Hid (cB[9]? = some (.slice G gz.length gc)) := by show _ = _; rw [← hcB, List.getElem?_set_ne (by decide)]; exact a9.out
      have b10 : Hid (cB[10]? = some (.slice WN wz.length wc')) := by show _ = _; rw [← hcB, List.getElem?_set_ne (by decide)]; exact a10.out
      have b11 : Hid (cB[11]? = some (.slice K kz.length kc)) := by show _ = _; rw [← hcB, List.getElem?_set_ne (by decide)]; exact a11.out
      have HhcB := Lib.hid hcB
      clear hbcB hcB R6'
      have R7' := Lib.hid ((Hq7.out.set hB Hw8.out).2 _ _ _ _ _ R7.out)
      clear a7 a9 a10 a11 Hcall7 R7
      obtain ⟨ng, hlg⟩ : ∃ ng, gz.length = ng := ⟨_, rfl⟩
      have Hlg := Lib.hid hlg
      clear hlg
      go_upto_block 2 with (first
        | (refine wpList_load_one rfl 55 _ rfl _ Tryz.underlying55 rfl _ 9 _ _ _ rfl HqcB.out.bk b9.out ?_)
        | (refine wpList_store_blk rfl 55 _ _ rfl _ 9 _ _ [.slice none 0 0] rfl rfl HqcB.out.bk ig.out (by rw [HlcB.out]; exact Nat.le_of_ble_eq_true rfl) rfl ?_; intro w9 hw9; have Hw9 := Lib.hid hw9; clear hw9))
      rw [Hlg.out]
      have hb9 := HqcB.out.set hB Hw9.out
      have Hq9 := Lib.hid hb9.1
      have R6' := Lib.hid (hb9.2 _ _ _ _ _ R6.out)
      have R7 := Lib.hid (hb9.2 _ _ _ _ _ R7'.out)
      clear hb9 R6 R7'
      go_cut [] (fun wx => LqOut M [(W.heap.size + 1, 59, zRe)] 59 s W W.heap.size (W.heap.size + 2) cB 9 s7 w9 .agg (fun _ => d) gz wx)
      case first =>
        go_wp2_with fail
        go_loopw [69] (fun i wr => ∃ (j : Nat) (ys : List DT) (s2 : σ) (ov : Value), j ≤ ng ∧ i = .int .i64 j ∧ Lq M [(W.heap.size + 1, 59, zRe)] 59 s W W.heap.size (W.heap.size + 2) cB 9 s7 w9 (JSq M .agg (fun _ => d) gz s7) (fun _ => Mp M.m .agg d) .agg 99 gz j ys s2 ov wr) (fun i _ => ng - (intOf i).toNat)
        case atStart => exact ⟨0, [], s7, _, Nat.zero_le _, rfl, Lq.start Hq9.out JSq.start⟩
        case round =>
          obtain ⟨j, ys, s2, ov, hj, rfl, hI⟩ := hrel
          by_cases hlt : j < ng
          ·
            obtain ⟨x, ad, hx, rfl, hb, hat⟩ := (He.out.rg.keep (hI.q.fr.src Hst.out) (fun _ h => h)).get (show j < gz.length by rw [Hlg.out]; exact hlt)
            have hxi := (He.out.ig x (mem_of_get? hx)).keep (hI.q.fr.src Hst.out) fun _ h => h
            have hx6 := hxi.len
            have HiE : Hid ((Tryz.prog.info? 99).map (·.size) = some x.c.length) := by show _ = _; rw [hx6]; exact uI99
            have HiE2 : Hid ((Tryz.prog.info? 99).map (·.size) = some x.c.toArray.size) := by show _ = _; rw [List.size_toArray, hx6]; exact uI99
            have Hz : Hid (x.c.toArray.size = 5) := by show _ = _; rw [List.size_toArray, hx6]; rfl
            have H1 := Lib.hid (all_one hxi.ones)
            have Hat := Lib.hid (at_add hat)
            obtain ⟨W2, hW2⟩ : ∃ W2, wr.alloc (.cells x.c.toArray 99) = W2 := ⟨_, rfl⟩
            have Hcell : Hid (∀ j u, x.c[j]? = some u → W2.cell? ((⟨wr.heap.size, 0, none⟩ : Addr).add j) = some u) := by show ∀ j u, _ → _; rw [← hW2]; exact new_cellsT wr x.c 99
            have hbW2 : Below wr.heap.size wr W2 := by rw [← hW2]; exact bel1 _ _
            have hxn := n_mem (mem_of_get? hx)
            have hcall : Hid (Calls Tryz.prog 70 #[.pointer (some ⟨M.mp, 0, none⟩), .agg x.c.toArray, .int .i64 (d)] W2 fun e w3 => ∃ (y : DT) (s' : σ), e = .returned (.agg y.c.toArray) ∧ Hid (Fr M.C s2 W2 s' (w3.alloc (.cells y.c.toArray 99))) ∧ Hid (M.vst s2 s' x.n (Vs M.m .agg (d) x)) ∧ Hid (UIn (Nw M.C W2.heap.size s' (w3.alloc (.cells y.c.toArray 99))) (w3.alloc (.cells y.c.toArray 99)) .agg y) ∧ Hid (Mp M.m .agg (d) x y) ∧ Hid (y.c.toArray.size = 5) ∧ Hid ((Tryz.prog.info? 99).map (·.size) = some y.c.length) ∧ Hid (∀ u, u ∈ y.c → u.oneCell' = true) ∧ Hid (y.c.toArray.all (·.oneCell') = true) ∧
                Hid (Lr M 59 W.heap.size cB 9 w9 99 5 j ys ov (w3.alloc (.cells y.c.toArray 99))) ∧ Hid (Bk (w3.alloc (.cells y.c.toArray 99)) w3.heap.size y.c 99)) := by
              have hf2 := Fr.below hI.q.fr.st hbW2
              refine (ha σ M x (d) s2 W2 (by have := Hn.out; have := Hd2.out; have := Hcn.out; have := Hd.out; have := V6.out.2; have := V7.out.2; omega) (by have := Hn.out; have := Hd2.out; have := Hcn.out; have := Hd.out; have := V6.out.2; have := V7.out.2; omega) (by have := Hn.out; have := Hd2.out; have := Hcn.out; have := Hd.out; have := V6.out.2; have := V7.out.2; omega) hf2.st (hxi.keep (hf2.src hI.q.fr.st) fun _ h => h) ?_).mono ?_
              · have h1 := hI.j.sq.2
                have h2 := nL_take_succ hx
                have h3 := nL_take_le gz (j + 1)
                have := Hn.out; have := Hd2.out; have := Hcn.out; have := Hd.out; have := V6.out.2; have := V7.out.2
                omega
              · rintro e w3 ⟨y, s', rfl, hf, hv, hy, hr⟩
                skip
                have fa := Fr.below hf.st (bel1 w3 (.cells y.c.toArray 99))
                have hmid : Lr M 59 W.heap.size cB 9 w9 99 (Uy.sz .agg) j ys ov (w3.alloc (.cells y.c.toArray 99)) := hI.mid hbW2 (hf.trans fa)
                refine ⟨y, s', rfl, hf.trans fa, hv, hy.fr fa, hr, ?_, ?_, hy.ones, all_one hy.ones, hmid, Bk.new w3 y.c _⟩
                · show _ = _
                  rw [List.size_toArray, hy.len]; rfl
                · show _ = _
                  rw [hy.len]; exact uI99
            have Hx := Lib.hid hx
            have HW2 := Lib.hid hW2
            have HbW2 := Lib.hid hbW2
            have HI := Lib.hid hI
            have Hb2 := Lib.hid (hI.q.call (Fr.below hI.q.fr.st hbW2)).1.bk
            have Hov : Hid ((cB.set 9 ov)[9]? = some ov) := by show _ = _; rw [List.getElem?_set_self (by rw [HlcB.out]; decide)]
            have Hcs : Hid (9 + 1 ≤ (cB.set 9 ov).length) := by show _ ≤ _; rw [List.length_set, HlcB.out]; decide
            have hjn : j < 1048576 := by have := len_nL gz; have := Hlg.out; have := Hn.out; have := Hd2.out; have := Hcn.out; have := Hd.out; have := V6.out.2; have := V7.out.2; omega
            have h3 : Hid (j + 1 ≤ maxLen) := by show _ ≤ _; unfold maxLen; omega
            have h4 : Hid ((j + 1) * 72 ≤ 140737488355328) := by show _ ≤ _; omega
            obtain ⟨i0, hi, hrest⟩ := Option.map_eq_some_iff.1 infoAgg_r
            simp only [Prod.mk.injEq] at hrest
            obtain ⟨hz0, isz, iby⟩ := hrest
            obtain ⟨z, iz, hzs⟩ := Option.map_eq_some_iff.1 hz0
            clear hat hxi hx6 hx hW2 hI hbW2 hxn
            go_upto_region 20 with (first | (refine wpList_load_st rfl 99 _ rfl _ Tryz.underlying99 rfl (ad.add (j * 5)) x.c HiE.out rfl Hat.out ?_) | (refine wpList_store_st rfl 99 _ _ rfl _ x.c.toArray HiE2.out Hz.out.symm H1.out rfl rfl ?_))
            rw [HW2.out]
            go_upto_region 21 with (first
              | (refine wpList_load_st rfl 99 _ rfl _ Tryz.underlying99 rfl ⟨wr.heap.size, 0, none⟩ x.c HiE.out rfl Hcell.out ?_)
              | (go_at_call 70; refine hcall.out.mono ?_; rintro e w3 ⟨y, s', rfl, Hf, Hv, Hy, Hr, Hzy, Hyi, H1y, H1a, Hm, Hk3⟩; have Hown3 := Lib.hid Hm.out.own; have Hz3 := Lib.hid Hm.out.sz; have Hbk3 := Lib.hid Hm.out.bk)
              | (refine wpList_store_st rfl 99 _ _ rfl _ y.c.toArray (by simpa using Hyi.out) Hzy.out.symm H1a.out rfl rfl ?_)
              | (fail))
            go_wp2_with (first
              | (refine wpList_load_one rfl 55 _ rfl _ Tryz.underlying55 rfl _ 9 _ _ _ rfl Hbk3.out Hov.out ?_)
              | (refine wpList_load_part rfl 99 _ rfl _ Tryz.underlying99 rfl _ _ _ _ y.c rfl Hk3.out Hyi.out (by rw [List.drop_zero, List.take_length]) ?_)
              | (refine wpList_one_st rfl 55 99 _ rfl i0 Tryz.underlying55 hi _ iz y.c.toArray (isz.trans Hzy.out.symm) (hzs.trans Hzy.out.symm) (by rw [Hzy.out]; decide) (by rw [Hzy.out]; decide) rfl ?_)
              | (at_builtin; refine wpList_append_row _ rfl _ _ 55 rfl w9.heap.size 99 i0 _ 5 72 Tryz.underlying55 hi iz isz iby hzs (by decide) ov _ _ rfl (Hown3.out.alloc _) (some ⟨(w3.alloc (.cells y.c.toArray 99)).heap.size, 0, none⟩) 1 1 y.c rfl (by rw [← List.size_toArray, Hzy.out]) (new_srcK _ _ _) H1y.out h3.out h4.out (Hz3.out _) ?_; intro ov' w4 hown4 hg4 hm4; obtain ⟨A', c', hov⟩ := own_slice hown4; subst hov; have K4 := Lib.hid (Hm.out.grown hg4); have Hown4 := Lib.hid hown4; have Hg4 := Lib.hid hg4; have Hm4 := Lib.hid hm4; clear hown4 hg4 hm4)
              | (refine wpList_store_blk rfl 55 _ _ rfl _ 9 _ _ [.slice A' (j + 1) c'] rfl rfl K4.out ig.out Hcs.out rfl ?_; intro w5' hw5))
            have Hst' := Lib.hid (HI.out.step Hst.out Hx.out HbW2.out Hf.out (HI.out.j.sq.step Hx.out Hv.out) Hy.out Hr.out Hown4.out Hg4.out Hm4.out (by rw [show setL (cB.set 9 ov) 9 [Value.slice A' (j + 1) c'] = (cB.set 9 ov).set 9 (.slice A' (j + 1) c') from rfl, setSet] at hw5; exact hw5))
            clear hw5
            go_wp2_with fail
            go_roundw
            case rel => exact ⟨j + 1, ys ++ [y], s', _, by omega, by simp, Hst'.out⟩
            case measure => simp [intOf]; omega
          · obtain rfl : j = ng := by omega
            go_wp2_with fail
            go_meet
            exact hI.out Hlg.out
      case rest =>
        obtain ⟨A9, cap9, y9, s9, hq9, tk9, l9, v9, r9, m9⟩ := hcut
        obtain ⟨cC, hcC⟩ : ∃ cC, cB.set 9 (.slice A9 gz.length cap9) = cC := ⟨_, rfl⟩
        rw [hcC] at hq9
        have HqcC := Lib.hid hq9
        have R9 := Lib.hid r9
        have V9 := Lib.hid v9
        have M9 := Lib.hid m9
        have L9 := Lib.hid l9
        have HlcC : Hid (cC.length = 14) := by show _ = _; rw [← hcC, List.length_set]; exact HlcB.out
        have c10 : Hid (cC[10]? = some (.slice WN wz.length wc')) := by show _ = _; rw [← hcC, List.getElem?_set_ne (by decide)]; exact b10.out
        have c11 : Hid (cC[11]? = some (.slice K kz.length kc)) := by show _ = _; rw [← hcC, List.getElem?_set_ne (by decide)]; exact b11.out
        have HhcC := Lib.hid hcC
        have R6 := Lib.hid (tk9 _ _ _ _ _ R6'.out)
        have R7' := Lib.hid (tk9 _ _ _ _ _ R7.out)
        clear hq9 tk9 l9 v9 r9 m9 hcC Hq9 Hw9 R6' R7 b9 b10 b11
        obtain ⟨nw, hlw⟩ : ∃ nw, wz.length = nw := ⟨_, rfl⟩
        have Hlw := Lib.hid hlw
        clear hlw
        go_upto_block 4 with (first
          | (refine wpList_load_one rfl 56 _ rfl _ Tryz.underlying56 rfl _ 10 _ _ _ rfl HqcC.out.bk c10.out ?_)
          | (refine wpList_store_blk rfl 56 _ _ rfl _ 10 _ _ [.slice none 0 0] rfl rfl HqcC.out.bk iw.out (by rw [HlcC.out]; exact Nat.le_of_ble_eq_true rfl) rfl ?_; intro w10 hw10; have Hw10 := Lib.hid hw10; clear hw10))
        rw [Hlw.out]
        have hb10 := HqcC.out.set hB Hw10.out
        have Hq10 := Lib.hid hb10.1
        have R6' := Lib.hid (hb10.2 _ _ _ _ _ R6.out)
        have R7 := Lib.hid (hb10.2 _ _ _ _ _ R7'.out)
        have R9' := Lib.hid (hb10.2 _ _ _ _ _ R9.out)
        clear hb10 R6 R7' R9
        go_cut [] (fun wx => LqOut M [(W.heap.size + 1, 59, zRe)] 59 s W W.heap.size (W.heap.size + 2) cC 10 s9 w10 .win (fun _ => d) wz wx)
        case first =>
          go_wp2_with fail
          go_loopw [89] (fun i wr => ∃ (j : Nat) (ys : List DT) (s2 : σ) (ov : Value), j ≤ nw ∧ i = .int .i64 j ∧ Lq M [(W.heap.size + 1, 59, zRe)] 59 s W W.heap.size (W.heap.size + 2) cC 10 s9 w10 (JSq M .win (fun _ => d) wz s9) (fun _ => Mp M.m .win d) .win 103 wz j ys s2 ov wr) (fun i _ => nw - (intOf i).toNat)
          case atStart => exact ⟨0, [], s9, _, Nat.zero_le _, rfl, Lq.start Hq10.out JSq.start⟩
          case round =>
            obtain ⟨jw, yw, sw, ovw, hj, rfl, hI⟩ := hrel
            by_cases hlt : jw < nw
            · obtain ⟨wq, hwq⟩ : ∃ wq, wq = wr := ⟨_, rfl⟩
              subst hwq
              obtain ⟨xw, adw, hx, rfl, hb, hat⟩ := (He.out.rw.keep (hI.q.fr.src Hst.out) (fun _ h => h)).get (show jw < wz.length by rw [Hlw.out]; exact hlt)
              have hxi := (He.out.iw xw (mem_of_get? hx)).keep (hI.q.fr.src Hst.out) fun _ h => h
              have hx6 := hxi.len
              have HiE : Hid ((Tryz.prog.info? 103).map (·.size) = some xw.c.length) := by show _ = _; rw [hx6]; exact uI103
              have HiE2 : Hid ((Tryz.prog.info? 103).map (·.size) = some xw.c.toArray.size) := by show _ = _; rw [List.size_toArray, hx6]; exact uI103
              have Hz : Hid (xw.c.toArray.size = 12) := by show _ = _; rw [List.size_toArray, hx6]; rfl
              have Hlxw : Hid (xw.c.length = 12) := hx6
              have H1 := Lib.hid (all_one hxi.ones)
              have Hat := Lib.hid (at_add hat)
              have hxn := n_mem (mem_of_get? hx)
              obtain ⟨k1, k2, wu, wfk, wfn, wtk, wtn, WA, wac, waz, WG, wgc, wgz, WP, wpc, wpz, WK, wkc, wkz, WT, wtc, wtz, hwi⟩ := hxi.wi
              have Hwn : Hid (xw.n = 1 + (nL waz + (nL wgz + (nL wpz + (nL wkz + nL wtz))))) := by show _ = _; rw [hwi.e, DT.n_node]; simp
              have Hcw : Hid (M.cnt sw + xw.n ≤ 1048576) := by
                show _ ≤ _
                have h1 := hI.j.sq.2
                have h2 := nL_take_succ hx
                have h3 := nL_take_le wz (jw + 1)
                have := Hn.out; have := Hd2.out; have := Hcn.out; have := Hd.out; have := V6.out.2; have := V7.out.2; have := V9.out.2
                omega
              have Hnw : Hid (xw.n < N) := by show _ < _; have := Hn.out; have := Hd2.out; have := Hcn.out; have := Hd.out; omega
              have Hdw : Hid (d + xw.n ≤ 1048576) := by show _ ≤ _; have := Hn.out; have := Hd2.out; have := Hcn.out; have := Hd.out; omega
              have g2 : Hid (xw.c[2]? = some (.slice WA waz.length wac)) := by show _ = _; rw [hwi.e]; rfl
              have g3 : Hid (xw.c[3]? = some (.slice WG wgz.length wgc)) := by show _ = _; rw [hwi.e]; rfl
              have g4 : Hid (xw.c[4]? = some (.slice WP wpz.length wpc)) := by show _ = _; rw [hwi.e]; rfl
              have g5 : Hid (xw.c[5]? = some (.slice WK wkz.length wkc)) := by show _ = _; rw [hwi.e]; rfl
              have g6 : Hid (xw.c[6]? = some (.slice WT wtz.length wtc)) := by show _ = _; rw [hwi.e]; rfl
              obtain ⟨Wb, hWb⟩ : ∃ Wb, wq.alloc (.cells xw.c.toArray 103) = Wb := ⟨_, rfl⟩
              have hqi := Bq.new1 (M := M) (s0 := sw) hI.q.fr.st hWb
              have hBw := M.C.base sw wq hI.q.fr.st
              have Hsw := Lib.hid hI.q.fr.st
              have Hwi := Lib.hid hwi
              have Hqi := Lib.hid hqi
              have Hcall2 : Hid (Calls Tryz.prog 69 #[.pointer (some ⟨M.mp, 0, none⟩), .slice WA waz.length wac, .int .i64 d] Wb (BqPost M [] 103 sw wq wq.heap.size (wq.heap.size + 1) xw.c .expr d waz sw Wb)) := hqi.list hl hI.q.fr.st waz WA wac d (by have := Hnw.out; have := Hdw.out; have := Hcw.out; have := Hd.out; have := Hwn.out; omega) Hd.out (by have := Hnw.out; have := Hdw.out; have := Hcw.out; have := Hd.out; have := Hwn.out; omega) hwi.ra hwi.ia (by have := Hnw.out; have := Hdw.out; have := Hcw.out; have := Hd.out; have := Hwn.out; omega)
              have Hx := Lib.hid hx
              have HWb := Lib.hid hWb
              have HI := Lib.hid hI
              clear hat hxi hx6 hx hWb hI hxn hwi hqi
              go_upto_region 28 with (first | (refine wpList_load_st rfl 103 _ rfl _ Tryz.underlying103 rfl (adw.add (jw * 12)) xw.c HiE.out rfl Hat.out ?_) | (refine wpList_store_st rfl 103 _ _ rfl _ xw.c.toArray HiE2.out Hz.out.symm H1.out rfl rfl ?_))
              rw [HWb.out]
              go_upto_region 29 with (first
                | (refine wpList_load_one rfl 28 _ rfl _ Tryz.underlying28 rfl _ 2 _ _ _ rfl Hqi.out.bk g2.out ?_)
                | (go_at_call 69; refine Hcall2.out.mono ?_; rintro e w2w ⟨A2w, cap2w, y2w, s2w, rfl, l2w, hq2w, t2w, v2w, r2w⟩; have Hq2w := Lib.hid hq2w; have L2w := Lib.hid l2w; have V2w := Lib.hid v2w; have R2w := Lib.hid r2w; clear hq2w t2w v2w r2w l2w)
                | (refine wpList_store_blk rfl 28 _ _ rfl _ 2 _ _ [.slice A2w waz.length cap2w] rfl rfl Hq2w.out.bk ie.out (by rw [Hlxw.out]; exact Nat.le_of_ble_eq_true rfl) rfl ?_; intro v2w hv2w; have Hv2w := Lib.hid hv2w; clear hv2w))
              obtain ⟨dB, hdB⟩ : ∃ dB, xw.c.set 2 (.slice A2w waz.length cap2w) = dB := ⟨_, rfl⟩
              have hbdB := Hq2w.out.set hBw (show Wrt w2w wq.heap.size (xw.c.set 2 (.slice A2w waz.length cap2w)) 103 v2w from Hv2w.out)
              rw [hdB] at hbdB
              have HqdB := Lib.hid hbdB.1
              have R2w' := Lib.hid (hbdB.2 _ _ _ _ _ R2w.out)
              have HldB : Hid (dB.length = 12) := by show _ = _; rw [← hdB, List.length_set]; exact Hlxw.out
              have e3 : Hid (dB[3]? = some (.slice WG wgz.length wgc)) := by show _ = _; rw [← hdB, List.getElem?_set_ne (by decide)]; exact g3.out
              have e4 : Hid (dB[4]? = some (.slice WP wpz.length wpc)) := by show _ = _; rw [← hdB, List.getElem?_set_ne (by decide)]; exact g4.out
              have e5 : Hid (dB[5]? = some (.slice WK wkz.length wkc)) := by show _ = _; rw [← hdB, List.getElem?_set_ne (by decide)]; exact g5.out
              have e6 : Hid (dB[6]? = some (.slice WT wtz.length wtc)) := by show _ = _; rw [← hdB, List.getElem?_set_ne (by decide)]; exact g6.out
              have HhdB := Lib.hid hdB
              clear hbdB hdB R2w
              clear g2 g3 g4 g5 g6 Hcall2 Hqi
              obtain ⟨nwg, hlwg⟩ : ∃ nwg, wgz.length = nwg := ⟨_, rfl⟩
              have Hlwg := Lib.hid hlwg
              clear hlwg
              go_upto_block 6 with (first
                | (refine wpList_load_one rfl 55 _ rfl _ Tryz.underlying55 rfl _ 3 _ _ _ rfl HqdB.out.bk e3.out ?_)
                | (refine wpList_store_blk rfl 55 _ _ rfl _ 3 _ _ [.slice none 0 0] rfl rfl HqdB.out.bk ig.out (by rw [HldB.out]; exact Nat.le_of_ble_eq_true rfl) rfl ?_; intro v3w hv3w; have Hv3w := Lib.hid hv3w; clear hv3w))
              rw [Hlwg.out]
              have hb3 := HqdB.out.set hBw Hv3w.out
              have Hq3 := Lib.hid hb3.1
              have R2w := Lib.hid (hb3.2 _ _ _ _ _ R2w'.out)
              clear hb3 R2w'
              go_cut [] (fun wx => LqOut M [] 103 sw wq wq.heap.size (wq.heap.size + 1) dB 3 s2w v3w .agg (fun _ => d) wgz wx)
              case first =>
                go_wp2_with fail
                go_loopw [104] (fun i wr => ∃ (j : Nat) (ys : List DT) (s2 : σ) (ov : Value), j ≤ nwg ∧ i = .int .i64 j ∧ Lq M [] 103 sw wq wq.heap.size (wq.heap.size + 1) dB 3 s2w v3w (JSq M .agg (fun _ => d) wgz s2w) (fun _ => Mp M.m .agg d) .agg 99 wgz j ys s2 ov wr) (fun i _ => nwg - (intOf i).toNat)
                case atStart => exact ⟨0, [], s2w, _, Nat.zero_le _, rfl, Lq.start Hq3.out JSq.start⟩
                case round =>
                  obtain ⟨j, ys, s2, ov, hj, rfl, hI⟩ := hrel
                  by_cases hlt : j < nwg
                  ·
                    obtain ⟨x, ad, hx, rfl, hb, hat⟩ := (Hwi.out.rg.keep (hI.q.fr.src Hsw.out) (fun _ h => h)).get (show j < wgz.length by rw [Hlwg.out]; exact hlt)
                    have hxi := (Hwi.out.ig x (mem_of_get? hx)).keep (hI.q.fr.src Hsw.out) fun _ h => h
                    have hx6 := hxi.len
                    have HiE : Hid ((Tryz.prog.info? 99).map (·.size) = some x.c.length) := by show _ = _; rw [hx6]; exact uI99
                    have HiE2 : Hid ((Tryz.prog.info? 99).map (·.size) = some x.c.toArray.size) := by show _ = _; rw [List.size_toArray, hx6]; exact uI99
                    have Hz : Hid (x.c.toArray.size = 5) := by show _ = _; rw [List.size_toArray, hx6]; rfl
                    have H1 := Lib.hid (all_one hxi.ones)
                    have Hat := Lib.hid (at_add hat)
                    obtain ⟨W2, hW2⟩ : ∃ W2, wr.alloc (.cells x.c.toArray 99) = W2 := ⟨_, rfl⟩
                    have Hcell : Hid (∀ j u, x.c[j]? = some u → W2.cell? ((⟨wr.heap.size, 0, none⟩ : Addr).add j) = some u) := by show ∀ j u, _ → _; rw [← hW2]; exact new_cellsT wr x.c 99
                    have hbW2 : Below wr.heap.size wr W2 := by rw [← hW2]; exact bel1 _ _
                    have hxn := n_mem (mem_of_get? hx)
                    have hcall : Hid (Calls Tryz.prog 70 #[.pointer (some ⟨M.mp, 0, none⟩), .agg x.c.toArray, .int .i64 (d)] W2 fun e w3 => ∃ (y : DT) (s' : σ), e = .returned (.agg y.c.toArray) ∧ Hid (Fr M.C s2 W2 s' (w3.alloc (.cells y.c.toArray 99))) ∧ Hid (M.vst s2 s' x.n (Vs M.m .agg (d) x)) ∧ Hid (UIn (Nw M.C W2.heap.size s' (w3.alloc (.cells y.c.toArray 99))) (w3.alloc (.cells y.c.toArray 99)) .agg y) ∧ Hid (Mp M.m .agg (d) x y) ∧ Hid (y.c.toArray.size = 5) ∧ Hid ((Tryz.prog.info? 99).map (·.size) = some y.c.length) ∧ Hid (∀ u, u ∈ y.c → u.oneCell' = true) ∧ Hid (y.c.toArray.all (·.oneCell') = true) ∧
                        Hid (Lr M 103 wq.heap.size dB 3 v3w 99 5 j ys ov (w3.alloc (.cells y.c.toArray 99))) ∧ Hid (Bk (w3.alloc (.cells y.c.toArray 99)) w3.heap.size y.c 99)) := by
                      have hf2 := Fr.below hI.q.fr.st hbW2
                      refine (ha σ M x (d) s2 W2 (by have := Hnw.out; have := Hdw.out; have := Hcw.out; have := Hd.out; have := Hwn.out; have := V2w.out.2; omega) (by have := Hnw.out; have := Hdw.out; have := Hcw.out; have := Hd.out; have := Hwn.out; have := V2w.out.2; omega) (by have := Hnw.out; have := Hdw.out; have := Hcw.out; have := Hd.out; have := Hwn.out; have := V2w.out.2; omega) hf2.st (hxi.keep (hf2.src hI.q.fr.st) fun _ h => h) ?_).mono ?_
                      · have h1 := hI.j.sq.2
                        have h2 := nL_take_succ hx
                        have h3 := nL_take_le wgz (j + 1)
                        have := Hnw.out; have := Hdw.out; have := Hcw.out; have := Hd.out; have := Hwn.out; have := V2w.out.2
                        omega
                      · rintro e w3 ⟨y, s', rfl, hf, hv, hy, hr⟩
                        skip
                        have fa := Fr.below hf.st (bel1 w3 (.cells y.c.toArray 99))
                        have hmid : Lr M 103 wq.heap.size dB 3 v3w 99 (Uy.sz .agg) j ys ov (w3.alloc (.cells y.c.toArray 99)) := hI.mid hbW2 (hf.trans fa)
                        refine ⟨y, s', rfl, hf.trans fa, hv, hy.fr fa, hr, ?_, ?_, hy.ones, all_one hy.ones, hmid, Bk.new w3 y.c _⟩
                        · show _ = _
                          rw [List.size_toArray, hy.len]; rfl
                        · show _ = _
                          rw [hy.len]; exact uI99
                    have Hx := Lib.hid hx
                    have HW2 := Lib.hid hW2
                    have HbW2 := Lib.hid hbW2
                    have HI := Lib.hid hI
                    have Hb2 := Lib.hid (hI.q.call (Fr.below hI.q.fr.st hbW2)).1.bk
                    have Hov : Hid ((dB.set 3 ov)[3]? = some ov) := by show _ = _; rw [List.getElem?_set_self (by rw [HldB.out]; decide)]
                    have Hcs : Hid (3 + 1 ≤ (dB.set 3 ov).length) := by show _ ≤ _; rw [List.length_set, HldB.out]; decide
                    have hjn : j < 1048576 := by have := len_nL wgz; have := Hlwg.out; have := Hnw.out; have := Hdw.out; have := Hcw.out; have := Hd.out; have := Hwn.out; have := V2w.out.2; omega
                    have h3 : Hid (j + 1 ≤ maxLen) := by show _ ≤ _; unfold maxLen; omega
                    have h4 : Hid ((j + 1) * 72 ≤ 140737488355328) := by show _ ≤ _; omega
                    obtain ⟨i0, hi, hrest⟩ := Option.map_eq_some_iff.1 infoAgg_r
                    simp only [Prod.mk.injEq] at hrest
                    obtain ⟨hz0, isz, iby⟩ := hrest
                    obtain ⟨z, iz, hzs⟩ := Option.map_eq_some_iff.1 hz0
                    clear hat hxi hx6 hx hW2 hI hbW2 hxn
                    go_upto_region 34 with (first | (refine wpList_load_st rfl 99 _ rfl _ Tryz.underlying99 rfl (ad.add (j * 5)) x.c HiE.out rfl Hat.out ?_) | (refine wpList_store_st rfl 99 _ _ rfl _ x.c.toArray HiE2.out Hz.out.symm H1.out rfl rfl ?_))
                    rw [HW2.out]
                    go_upto_region 35 with (first
                      | (refine wpList_load_st rfl 99 _ rfl _ Tryz.underlying99 rfl ⟨wr.heap.size, 0, none⟩ x.c HiE.out rfl Hcell.out ?_)
                      | (go_at_call 70; refine hcall.out.mono ?_; rintro e w3 ⟨y, s', rfl, Hf, Hv, Hy, Hr, Hzy, Hyi, H1y, H1a, Hm, Hk3⟩; have Hown3 := Lib.hid Hm.out.own; have Hz3 := Lib.hid Hm.out.sz; have Hbk3 := Lib.hid Hm.out.bk)
                      | (refine wpList_store_st rfl 99 _ _ rfl _ y.c.toArray (by simpa using Hyi.out) Hzy.out.symm H1a.out rfl rfl ?_)
                      | (fail))
                    go_wp2_with (first
                      | (refine wpList_load_one rfl 55 _ rfl _ Tryz.underlying55 rfl _ 3 _ _ _ rfl Hbk3.out Hov.out ?_)
                      | (refine wpList_load_part rfl 99 _ rfl _ Tryz.underlying99 rfl _ _ _ _ y.c rfl Hk3.out Hyi.out (by rw [List.drop_zero, List.take_length]) ?_)
                      | (refine wpList_one_st rfl 55 99 _ rfl i0 Tryz.underlying55 hi _ iz y.c.toArray (isz.trans Hzy.out.symm) (hzs.trans Hzy.out.symm) (by rw [Hzy.out]; decide) (by rw [Hzy.out]; decide) rfl ?_)
                      | (at_builtin; refine wpList_append_row _ rfl _ _ 55 rfl v3w.heap.size 99 i0 _ 5 72 Tryz.underlying55 hi iz isz iby hzs (by decide) ov _ _ rfl (Hown3.out.alloc _) (some ⟨(w3.alloc (.cells y.c.toArray 99)).heap.size, 0, none⟩) 1 1 y.c rfl (by rw [← List.size_toArray, Hzy.out]) (new_srcK _ _ _) H1y.out h3.out h4.out (Hz3.out _) ?_; intro ov' w4 hown4 hg4 hm4; obtain ⟨A', c', hov⟩ := own_slice hown4; subst hov; have K4 := Lib.hid (Hm.out.grown hg4); have Hown4 := Lib.hid hown4; have Hg4 := Lib.hid hg4; have Hm4 := Lib.hid hm4; clear hown4 hg4 hm4)
                      | (refine wpList_store_blk rfl 55 _ _ rfl _ 3 _ _ [.slice A' (j + 1) c'] rfl rfl K4.out ig.out Hcs.out rfl ?_; intro w5' hw5))
                    have Hst' := Lib.hid (HI.out.step Hsw.out Hx.out HbW2.out Hf.out (HI.out.j.sq.step Hx.out Hv.out) Hy.out Hr.out Hown4.out Hg4.out Hm4.out (by rw [show setL (dB.set 3 ov) 3 [Value.slice A' (j + 1) c'] = (dB.set 3 ov).set 3 (.slice A' (j + 1) c') from rfl, setSet] at hw5; exact hw5))
                    clear hw5
                    go_wp2_with fail
                    go_roundw
                    case rel => exact ⟨j + 1, ys ++ [y], s', _, by omega, by simp, Hst'.out⟩
                    case measure => simp [intOf]; omega
                  · obtain rfl : j = nwg := by omega
                    go_wp2_with fail
                    go_meet
                    exact hI.out Hlwg.out
              case rest =>
                obtain ⟨A3w, cap3w, y3w, s3w, hq3w, tk3w, l3w, v3w, r3w, m3w⟩ := hcut
                obtain ⟨dC, hdC⟩ : ∃ dC, dB.set 3 (.slice A3w wgz.length cap3w) = dC := ⟨_, rfl⟩
                rw [hdC] at hq3w
                have HqdC := Lib.hid hq3w
                have R3w := Lib.hid r3w
                have V3w := Lib.hid v3w
                have M3w := Lib.hid m3w
                have L3w := Lib.hid l3w
                have HldC : Hid (dC.length = 12) := by show _ = _; rw [← hdC, List.length_set]; exact HldB.out
                have f4 : Hid (dC[4]? = some (.slice WP wpz.length wpc)) := by show _ = _; rw [← hdC, List.getElem?_set_ne (by decide)]; exact e4.out
                have f5 : Hid (dC[5]? = some (.slice WK wkz.length wkc)) := by show _ = _; rw [← hdC, List.getElem?_set_ne (by decide)]; exact e5.out
                have f6 : Hid (dC[6]? = some (.slice WT wtz.length wtc)) := by show _ = _; rw [← hdC, List.getElem?_set_ne (by decide)]; exact e6.out
                have HhdC := Lib.hid hdC
                have R2w' := Lib.hid (tk3w _ _ _ _ _ R2w.out)
                have Hcall4 : Hid (Calls Tryz.prog 69 #[.pointer (some ⟨M.mp, 0, none⟩), .slice WP wpz.length wpc, .int .i64 d] wc (BqPost M [] 103 sw wq wq.heap.size (wq.heap.size + 1) dC .expr d wpz s3w wc)) := hq3w.list hl Hsw.out wpz WP wpc d (by have := Hnw.out; have := Hdw.out; have := Hcw.out; have := Hd.out; have := Hwn.out; omega) Hd.out (by have := Hnw.out; have := Hdw.out; have := Hcw.out; have := Hd.out; have := Hwn.out; omega) Hwi.out.rp Hwi.out.ip (by have := Hnw.out; have := Hdw.out; have := Hcw.out; have := Hd.out; have := Hwn.out; have := V2w.out.2; have := v3w.2; omega)
                clear hq3w tk3w l3w v3w r3w m3w hdC Hq3 Hv3w R2w
                go_upto_region 38 with (first
                  | (refine wpList_load_one rfl 28 _ rfl _ Tryz.underlying28 rfl _ 4 _ _ _ rfl HqdC.out.bk f4.out ?_)
                  | (go_at_call 69; refine Hcall4.out.mono ?_; rintro e w4w ⟨A4w, cap4w, y4w, s4w, rfl, l4w, hq4w, t4w, v4w, r4w⟩; have Hq4w := Lib.hid hq4w; have L4w := Lib.hid l4w; have V4w := Lib.hid v4w; have R4w := Lib.hid r4w; have R2w'' := Lib.hid (t4w _ _ _ _ _ R2w'.out); have R3w'' := Lib.hid (t4w _ _ _ _ _ R3w.out); clear R2w' R3w; clear hq4w t4w v4w r4w l4w)
                  | (refine wpList_store_blk rfl 28 _ _ rfl _ 4 _ _ [.slice A4w wpz.length cap4w] rfl rfl Hq4w.out.bk ie.out (by rw [HldC.out]; exact Nat.le_of_ble_eq_true rfl) rfl ?_; intro v4w hv4w; have Hv4w := Lib.hid hv4w; clear hv4w))
                obtain ⟨dD, hdD⟩ : ∃ dD, dC.set 4 (.slice A4w wpz.length cap4w) = dD := ⟨_, rfl⟩
                have hbdD := Hq4w.out.set hBw (show Wrt w4w wq.heap.size (dC.set 4 (.slice A4w wpz.length cap4w)) 103 v4w from Hv4w.out)
                rw [hdD] at hbdD
                have HqdD := Lib.hid hbdD.1
                have R2w := Lib.hid (hbdD.2 _ _ _ _ _ R2w''.out)
                have R3w := Lib.hid (hbdD.2 _ _ _ _ _ R3w''.out)
                have HldD : Hid (dD.length = 12) := by show _ = _; rw [← hdD, List.length_set]; exact HldC.out
                have h5 : Hid (dD[5]? = some (.slice WK wkz.length wkc)) := by show _ = _; rw [← hdD, List.getElem?_set_ne (by decide)]; exact f5.out
                have h6 : Hid (dD[6]? = some (.slice WT wtz.length wtc)) := by show _ = _; rw [← hdD, List.getElem?_set_ne (by decide)]; exact f6.out
                have HhdD := Lib.hid hdD
                clear hbdD hdD R2w'' R3w''
                have R4w' := Lib.hid ((Hq4w.out.set hBw Hv4w.out).2 _ _ _ _ _ R4w.out)
                have Hcall5 : Hid (Calls Tryz.prog 71 #[.pointer (some ⟨M.mp, 0, none⟩), .slice WK wkz.length wkc, .int .i64 d] v4w (BqPost M [] 103 sw wq wq.heap.size (wq.heap.size + 1) dD .key d wkz s4w v4w)) := HqdD.out.list hk Hsw.out wkz WK wkc d (by have := Hnw.out; have := Hdw.out; have := Hcw.out; have := Hd.out; have := Hwn.out; omega) Hd.out (by have := Hnw.out; have := Hdw.out; have := Hcw.out; have := Hd.out; have := Hwn.out; omega) Hwi.out.rk Hwi.out.ik (by have := Hnw.out; have := Hdw.out; have := Hcw.out; have := Hd.out; have := Hwn.out; have := V2w.out.2; have := V3w.out.2; have := V4w.out.2; omega)
                clear Hcall4 f4 f5 f6 R4w
                go_upto_region 39 with (first
                  | (refine wpList_load_one rfl 57 _ rfl _ Tryz.underlying57 rfl _ 5 _ _ _ rfl HqdD.out.bk h5.out ?_)
                  | (go_at_call 71; refine Hcall5.out.mono ?_; rintro e w5w ⟨A5w, cap5w, y5w, s5w, rfl, l5w, hq5w, t5w, v5w, r5w⟩; have Hq5w := Lib.hid hq5w; have L5w := Lib.hid l5w; have V5w := Lib.hid v5w; have R5w := Lib.hid r5w; have R2w'' := Lib.hid (t5w _ _ _ _ _ R2w.out); have R3w'' := Lib.hid (t5w _ _ _ _ _ R3w.out); clear R2w R3w; have Hq5w_t := Lib.hid t5w; clear hq5w t5w v5w r5w l5w)
                  | (refine wpList_store_blk rfl 57 _ _ rfl _ 5 _ _ [.slice A5w wkz.length cap5w] rfl rfl Hq5w.out.bk ik.out (by rw [HldD.out]; exact Nat.le_of_ble_eq_true rfl) rfl ?_; intro v5w hv5w; have Hv5w := Lib.hid hv5w; clear hv5w))
                have R4w'' := Lib.hid (Hq5w_t.out _ _ _ _ _ R4w'.out)
                obtain ⟨dE, hdE⟩ : ∃ dE, dD.set 5 (.slice A5w wkz.length cap5w) = dE := ⟨_, rfl⟩
                have hbdE := Hq5w.out.set hBw (show Wrt w5w wq.heap.size (dD.set 5 (.slice A5w wkz.length cap5w)) 103 v5w from Hv5w.out)
                rw [hdE] at hbdE
                have HqdE := Lib.hid hbdE.1
                have R2w := Lib.hid (hbdE.2 _ _ _ _ _ R2w''.out)
                have R3w := Lib.hid (hbdE.2 _ _ _ _ _ R3w''.out)
                have R4w := Lib.hid (hbdE.2 _ _ _ _ _ R4w''.out)
                have HldE : Hid (dE.length = 12) := by show _ = _; rw [← hdE, List.length_set]; exact HldD.out
                have i6 : Hid (dE[6]? = some (.slice WT wtz.length wtc)) := by show _ = _; rw [← hdE, List.getElem?_set_ne (by decide)]; exact h6.out
                have HhdE := Lib.hid hdE
                clear hbdE hdE R2w'' R3w'' R4w''
                have R5w' := Lib.hid ((Hq5w.out.set hBw Hv5w.out).2 _ _ _ _ _ R5w.out)
                have Hcall6 : Hid (Calls Tryz.prog 71 #[.pointer (some ⟨M.mp, 0, none⟩), .slice WT wtz.length wtc, .int .i64 d] v5w (BqPost M [] 103 sw wq wq.heap.size (wq.heap.size + 1) dE .key d wtz s5w v5w)) := HqdE.out.list hk Hsw.out wtz WT wtc d (by have := Hnw.out; have := Hdw.out; have := Hcw.out; have := Hd.out; have := Hwn.out; omega) Hd.out (by have := Hnw.out; have := Hdw.out; have := Hcw.out; have := Hd.out; have := Hwn.out; omega) Hwi.out.rt Hwi.out.it (by have := Hnw.out; have := Hdw.out; have := Hcw.out; have := Hd.out; have := Hwn.out; have := V2w.out.2; have := V3w.out.2; have := V4w.out.2; have := V5w.out.2; omega)
                clear Hcall5 h5 h6 R5w R4w' Hq5w_t
                go_upto_region 40 with (first
                  | (refine wpList_load_one rfl 57 _ rfl _ Tryz.underlying57 rfl _ 6 _ _ _ rfl HqdE.out.bk i6.out ?_)
                  | (go_at_call 71; refine Hcall6.out.mono ?_; rintro e w6w ⟨A6w, cap6w, y6w, s6w, rfl, l6w, hq6w, t6w, v6w, r6w⟩; have Hq6w := Lib.hid hq6w; have L6w := Lib.hid l6w; have V6w := Lib.hid v6w; have R6w := Lib.hid r6w; have R2w'' := Lib.hid (t6w _ _ _ _ _ R2w.out); have R3w'' := Lib.hid (t6w _ _ _ _ _ R3w.out); have R4w'' := Lib.hid (t6w _ _ _ _ _ R4w.out); clear R2w R3w R4w; have Hq6w_t := Lib.hid t6w; clear hq6w t6w v6w r6w l6w)
                  | (refine wpList_store_blk rfl 57 _ _ rfl _ 6 _ _ [.slice A6w wtz.length cap6w] rfl rfl Hq6w.out.bk ik.out (by rw [HldE.out]; exact Nat.le_of_ble_eq_true rfl) rfl ?_; intro v6w hv6w; have Hv6w := Lib.hid hv6w; clear hv6w))
                have R5w'' := Lib.hid (Hq6w_t.out _ _ _ _ _ R5w'.out)
                obtain ⟨dF, hdF⟩ : ∃ dF, dE.set 6 (.slice A6w wtz.length cap6w) = dF := ⟨_, rfl⟩
                have hbdF := Hq6w.out.set hBw (show Wrt w6w wq.heap.size (dE.set 6 (.slice A6w wtz.length cap6w)) 103 v6w from Hv6w.out)
                rw [hdF] at hbdF
                have HqdF := Lib.hid hbdF.1
                have R2w := Lib.hid (hbdF.2 _ _ _ _ _ R2w''.out)
                have R3w := Lib.hid (hbdF.2 _ _ _ _ _ R3w''.out)
                have R4w := Lib.hid (hbdF.2 _ _ _ _ _ R4w''.out)
                have R5w := Lib.hid (hbdF.2 _ _ _ _ _ R5w''.out)
                have HldF : Hid (dF.length = 12) := by show _ = _; rw [← hdF, List.length_set]; exact HldE.out
                have HhdF := Lib.hid hdF
                clear hbdF hdF R2w'' R3w'' R4w'' R5w''
                have r6w := (Hq6w.out.set hBw Hv6w.out).2 _ _ _ _ _ R6w.out
                have hfin : dF = [.int .i64 k1, .int .i64 k2, .slice A2w waz.length cap2w, .slice A3w wgz.length cap3w, .slice A4w wpz.length cap4w, .slice A5w wkz.length cap5w, .slice A6w wtz.length cap6w, .int .i64 wu, .int .i64 wfk, .int .i64 wfn, .int .i64 wtk, .int .i64 wtn] := by rw [← HhdF.out, ← HhdE.out, ← HhdD.out, ← HhdC.out, ← HhdB.out, Hwi.out.e]; rfl
                have hfw := HqdF.out.fr
                have hmid := HI.out.mid (Below.refl _ _) hfw
                obtain ⟨yv, hyv⟩ : ∃ yv, yv = DT.node [.int .i64 k1, .int .i64 k2, .slice A2w waz.length cap2w, .slice A3w wgz.length cap3w, .slice A4w wpz.length cap4w, .slice A5w wkz.length cap5w, .slice A6w wtz.length cap6w, .int .i64 wu, .int .i64 wfk, .int .i64 wfn, .int .i64 wtk, .int .i64 wtn] [y2w, y3w, y4w, y5w, y6w] := ⟨_, rfl⟩
                have hyu : UIn (Nw M.C wq.heap.size s6w v6w) v6w .win yv := by
                  rw [hyv]
                  exact UIn.mkK rfl rfl ⟨k1, k2, _, _, _, _, _, wu, wfk, wfn, wtk, wtn, rfl, Hwi.out.ok⟩ ⟨R2w.out.krc (by omega) L2w.out.1 L2w.out.2 rfl, R3w.out.krc (by omega) L3w.out.1 L3w.out.2 rfl, R4w.out.krc (by omega) L4w.out.1 L4w.out.2 rfl, R5w.out.krc (by omega) L5w.out.1 L5w.out.2 rfl, r6w.krc (by omega) L6w.out.1 L6w.out.2 rfl, trivial⟩
                have hym : Mp M.m .win d xw yv := by
                  rw [hyv, Hwi.out.e]
                  exact Mp.mkK rfl rfl (fun j hj => by match j with | 0 => rfl | 1 => rfl | 2 => exact absurd (by simp [Uy.sl]) (hj .expr) | 3 => exact absurd (by simp [Uy.sl]) (hj .agg) | 4 => exact absurd (by simp [Uy.sl]) (hj .expr) | 5 => exact absurd (by simp [Uy.sl]) (hj .key) | 6 => exact absurd (by simp [Uy.sl]) (hj .key) | 7 => rfl | 8 => rfl | 9 => rfl | 10 => rfl | 11 => rfl | j + 12 => rfl) ⟨R2w.out.ml, M3w.out, R4w.out.ml, R5w.out.ml, r6w.ml, trivial⟩
                have hyvs : M.vst sw s6w xw.n (Vs M.m .win d xw) := by
                  have hwn := Hwn.out
                  refine ((((V2w.out.tr V3w.out).tr V4w.out).tr V5w.out).tr V6w.out).to (by omega) fun v => ?_
                  rw [Hwi.out.e, Vs.wi]
                  show ((((VL _ _ _ _ _ ∨ VL _ _ _ _ _) ∨ _) ∨ _) ∨ _) ↔ _
                  simp only [or_assoc]
                have hyl := hyu.len
                have hbky := HqdF.out.bk
                rw [show dF = yv.c by rw [hyv]; exact hfin] at hbky
                have Hmid := Lib.hid hmid
                have Hyu := Lib.hid hyu
                have Hym := Lib.hid hym
                have Hyvs := Lib.hid hyvs
                have Hfw := Lib.hid hfw
                have Hbky := Lib.hid hbky
                have Hzy : Hid (yv.c.toArray.size = 12) := by show _ = _; rw [List.size_toArray, hyl]; rfl
                have Hyi : Hid ((Tryz.prog.info? 103).map (·.size) = some yv.c.length) := by show _ = _; rw [hyl]; exact uI103
                have H1y := Lib.hid hyu.ones
                have Hov : Hid ((cC.set 10 ovw)[10]? = some ovw) := by show _ = _; rw [List.getElem?_set_self (by rw [HlcC.out]; decide)]
                have Hcs : Hid (10 + 1 ≤ (cC.set 10 ovw).length) := by show _ ≤ _; rw [List.length_set, HlcC.out]; decide
                have hjn : jw < 1048576 := by have := len_nL wz; have := Hlw.out; have := Hn.out; have := Hd2.out; have := Hcn.out; have := Hd.out; omega
                have h3 : Hid (jw + 1 ≤ maxLen) := by show _ ≤ _; unfold maxLen; omega
                have h4 : Hid ((jw + 1) * 176 ≤ 140737488355328) := by show _ ≤ _; omega
                obtain ⟨i0, hi, hrest⟩ := Option.map_eq_some_iff.1 infoWin_r
                simp only [Prod.mk.injEq] at hrest
                obtain ⟨hz0, isz, iby⟩ := hrest
                obtain ⟨z, iz', hzs⟩ := Option.map_eq_some_iff.1 hz0
                clear hfin hfw hmid hyv hyu hym hyvs hyl hbky r6w R2w R3w R4w R5w R5w' R6w Hcall6 i6
                go_wp2_with (first
                  | (refine wpList_load_one rfl 56 _ rfl _ Tryz.underlying56 rfl _ 10 _ _ _ rfl Hmid.out.bk Hov.out ?_)
                  | (refine wpList_load_part rfl 103 _ rfl _ Tryz.underlying103 rfl _ _ _ _ yv.c rfl Hbky.out Hyi.out (by rw [List.drop_zero, List.take_length]) ?_)
                  | (refine wpList_one_st rfl 56 103 _ rfl i0 Tryz.underlying56 hi _ iz' yv.c.toArray (isz.trans Hzy.out.symm) (hzs.trans Hzy.out.symm) (by rw [Hzy.out]; decide) (by rw [Hzy.out]; decide) rfl ?_)
                  | (at_builtin; refine wpList_append_row _ rfl _ _ 56 rfl w10.heap.size 103 i0 _ 12 176 Tryz.underlying56 hi iz' isz iby hzs (by decide) ovw _ _ rfl (Hmid.out.own.alloc _) (some ⟨v6w.heap.size, 0, none⟩) 1 1 yv.c rfl (by rw [← List.size_toArray, Hzy.out]) (new_srcK _ _ _) H1y.out h3.out h4.out (Hmid.out.sz _) ?_; intro ov' w4 hown4 hg4 hm4; obtain ⟨A', c', hov⟩ := own_slice hown4; subst hov; have K4 := Lib.hid (Hmid.out.grown hg4); have Hown4 := Lib.hid hown4; have Hg4 := Lib.hid hg4; have Hm4 := Lib.hid hm4; clear hown4 hg4 hm4)
                  | (refine wpList_store_blk rfl 56 _ _ rfl _ 10 _ _ [.slice A' (jw + 1) c'] rfl rfl K4.out iw.out Hcs.out rfl ?_; intro w5' hw5))
                have Hst' := Lib.hid (HI.out.step Hst.out Hx.out (Below.refl _ _) Hfw.out (HI.out.j.sq.step Hx.out Hyvs.out) Hyu.out Hym.out Hown4.out Hg4.out Hm4.out (by rw [show setL (cC.set 10 ovw) 10 [Value.slice A' (jw + 1) c'] = (cC.set 10 ovw).set 10 (.slice A' (jw + 1) c') from rfl, setSet] at hw5; exact hw5))
                clear hw5
                go_wp2_with fail
                go_roundw
                case rel => exact ⟨jw + 1, yw ++ [yv], s6w, _, by omega, by simp, Hst'.out⟩
                case measure => simp [intOf]; omega
            · obtain rfl : jw = nw := by omega
              go_wp2_with fail
              go_meet
              exact hI.out Hlw.out
        case rest =>
          obtain ⟨A10, cap10, y10, s10, hq10, tk10, l10, v10, r10, m10⟩ := hcut
          obtain ⟨cD, hcD⟩ : ∃ cD, cC.set 10 (.slice A10 wz.length cap10) = cD := ⟨_, rfl⟩
          rw [hcD] at hq10
          have HqcD := Lib.hid hq10
          have R10 := Lib.hid r10
          have V10 := Lib.hid v10
          have M10 := Lib.hid m10
          have L10 := Lib.hid l10
          have HlcD : Hid (cD.length = 14) := by show _ = _; rw [← hcD, List.length_set]; exact HlcC.out
          have d11 : Hid (cD[11]? = some (.slice K kz.length kc)) := by show _ = _; rw [← hcD, List.getElem?_set_ne (by decide)]; exact c11.out
          have HhcD := Lib.hid hcD
          have R6 := Lib.hid (tk10 _ _ _ _ _ R6'.out)
          have R7' := Lib.hid (tk10 _ _ _ _ _ R7.out)
          have R9 := Lib.hid (tk10 _ _ _ _ _ R9'.out)
          have Hcall11 : Hid (Calls Tryz.prog 71 #[.pointer (some ⟨M.mp, 0, none⟩), .slice K kz.length kc, .int .i64 d] wc (BqPost M [(W.heap.size + 1, 59, zRe)] 59 s W W.heap.size (W.heap.size + 2) cD .key d kz s10 wc)) := hq10.list hk Hst.out kz K kc d (by have := Hn.out; have := Hd2.out; have := Hcn.out; have := Hd.out; omega) Hd.out (by have := Hn.out; have := Hd2.out; have := Hcn.out; have := Hd.out; omega) He.out.rk He.out.ik (by have := Hn.out; have := Hd2.out; have := Hcn.out; have := Hd.out; have := V6.out.2; have := V7.out.2; have := V9.out.2; have := v10.2; omega)
          clear hq10 tk10 l10 v10 r10 m10 hcD Hq10 Hw10 R6' R7 R9' c10 c11
          go_upto_region 43 with (first
            | (refine wpList_load_one rfl 57 _ rfl _ Tryz.underlying57 rfl _ 11 _ _ _ rfl HqcD.out.bk d11.out ?_)
            | (go_at_call 71; refine Hcall11.out.mono ?_; rintro e w11 ⟨A11, cap11, y11, s11, rfl, l11, hq11, t11, v11, r11⟩; have Hq11 := Lib.hid hq11; have L11 := Lib.hid l11; have V11 := Lib.hid v11; have R11 := Lib.hid r11; have T11 := Lib.hid t11; clear hq11 t11 v11 r11 l11)
            | (refine wpList_store_blk rfl 57 _ _ rfl _ 11 _ _ [.slice A11 kz.length cap11] rfl rfl Hq11.out.bk ik.out (by rw [HlcD.out]; exact Nat.le_of_ble_eq_true rfl) rfl ?_; intro w12 hw12; have Hw12 := Lib.hid hw12; clear hw12))
          have hb12 := Hq11.out.set hB (show Wrt w11 W.heap.size (cD.set 11 (.slice A11 kz.length cap11)) 59 w12 from Hw12.out)
          have hfin : cD.set 11 (.slice A11 kz.length cap11) = [.int .i64 k, .int .i64 op, .string nm, .bool all, .slice T tz.length tc, .slice R rz.length rc, .slice A6 iz.length cap6, .slice A7 xz.length cap7, .slice S sz.length sc, .slice A9 gz.length cap9, .slice A10 wz.length cap10, .slice A11 kz.length cap11, .int .i64 off, .int .i64 cnt] := by rw [← HhcD.out, ← HhcC.out, ← HhcB.out, ← HhcA.out, Hc.out]; rfl
          rw [hfin] at hb12
          have Hq12 := Lib.hid hb12.1
          have T12 := Lib.hid hb12.2
          have i5 := Lib.hid uI59
          clear hb12 hfin
          go_wp2_with (first
            | (refine wpList_load_part rfl 59 _ rfl _ Tryz.underlying59 rfl _ _ _ _ [.int .i64 k, .int .i64 op, .string nm, .bool all, .slice T tz.length tc, .slice R rz.length rc, .slice A6 iz.length cap6, .slice A7 xz.length cap7, .slice S sz.length sc, .slice A9 gz.length cap9, .slice A10 wz.length cap10, .slice A11 kz.length cap11, .int .i64 off, .int .i64 cnt] rfl Hq12.out.bk i5.out rfl ?_)
            | (refine wpList_store_blk rfl 59 _ _ rfl _ _ _ _ [.int .i64 k, .int .i64 op, .string nm, .bool all, .slice T tz.length tc, .slice R rz.length rc, .slice A6 iz.length cap6, .slice A7 xz.length cap7, .slice S sz.length sc, .slice A9 gz.length cap9, .slice A10 wz.length cap10, .slice A11 kz.length cap11, .int .i64 off, .int .i64 cnt] rfl rfl (Hq12.out.box (List.mem_singleton.2 rfl)) i5.out (by simp [zRe]) rfl ?_; intro w' hwz))
          refine bodyPost_blk rfl (W.heap.size + 1) [.int .i64 k, .int .i64 op, .string nm, .bool all, .slice T tz.length tc, .slice R rz.length rc, .slice A6 iz.length cap6, .slice A7 xz.length cap7, .slice S sz.length sc, .slice A9 gz.length cap9, .slice A10 wz.length cap10, .slice A11 kz.length cap11, .int .i64 off, .int .i64 cnt] _ rfl _ hwz.bk Tryz.underlying59 rfl i5.out rfl ?_
          obtain ⟨hf, tl⟩ := Hq12.out.ret hB (by omega) (by omega) hwz
          have tt : Tk M (W.heap.size + 2) s10 wc s11 w' := (T11.out.trans T12.out).trans tl
          have p6 := tt _ _ _ _ _ R6.out
          have p7 := tt _ _ _ _ _ R7'.out
          have p9 := tt _ _ _ _ _ R9.out
          have p10 := tt _ _ _ _ _ R10.out
          have p11 := tl _ _ _ _ _ (T12.out _ _ _ _ _ R11.out)
          have hu : UIn (Nw M.C W.heap.size s11 w') w' .rel (.node [.int .i64 k, .int .i64 op, .string nm, .bool all, .slice T tz.length tc, .slice R rz.length rc, .slice A6 iz.length cap6, .slice A7 xz.length cap7, .slice S sz.length sc, .slice A9 gz.length cap9, .slice A10 wz.length cap10, .slice A11 kz.length cap11, .int .i64 off, .int .i64 cnt] [tz, rz, y6, y7, sz, y9, y10, y11]) :=
            UIn.mkK rfl rfl ⟨k, op, nm, all, off, cnt, _, _, _, _, _, _, _, _, rfl, He.out.ok⟩ ⟨srcKR (t := .type) Hst.out hf He.out.rt He.out.it rfl, srcKR (t := .row) Hst.out hf He.out.rr He.out.ir rfl, p6.krc (by omega) L6.out.1 L6.out.2 rfl, p7.krc (by omega) L7.out.1 L7.out.2 rfl, srcKR (t := .set) Hst.out hf He.out.rs He.out.is rfl, p9.krc (by omega) L9.out.1 L9.out.2 rfl, p10.krc (by omega) L10.out.1 L10.out.2 rfl, p11.krc (by omega) L11.out.1 L11.out.2 rfl, trivial⟩
          have h13 : kd c ≠ 13 := by rw [Hkd.out]; exact Hk13.out
          have hm : Mp M.m .rel d (.node c [tz, rz, iz, xz, sz, gz, wz, kz]) (.node [.int .i64 k, .int .i64 op, .string nm, .bool all, .slice T tz.length tc, .slice R rz.length rc, .slice A6 iz.length cap6, .slice A7 xz.length cap7, .slice S sz.length sc, .slice A9 gz.length cap9, .slice A10 wz.length cap10, .slice A11 kz.length cap11, .int .i64 off, .int .i64 cnt] [tz, rz, y6, y7, sz, y9, y10, y11]) :=
            Mp.mkK (c1 := c) ⟨h13, rfl⟩ (by rw [Hc.out]; rfl) (fun j hj => by rw [Hc.out]; exact lit_re hj) ⟨ML.of_usl rfl (USL.refl _ _), ML.of_usl rfl (USL.refl _ _), M6.out, p7.ml, ML.of_usl rfl (USL.refl _ _), M9.out, M10.out, p11.ml, trivial⟩
          have hv : M.vst s s11 (DT.node c [tz, rz, iz, xz, sz, gz, wz, kz]).n (Vs M.m .rel d (.node c [tz, rz, iz, xz, sz, gz, wz, kz])) := by
            refine ((((V6.out.tr V7.out).tr V9.out).tr V10.out).tr V11.out).to (by rw [DT.n_node]; simp; omega) fun v => ?_
            rw [Vs.re h13]
            show ((((VI _ _ _ _ _ ∨ VL _ _ _ _ _) ∨ VL _ _ _ _ _) ∨ VL _ _ _ _ _) ∨ VL _ _ _ _ _) ↔ _
            simp only [or_assoc]
          exact ⟨.node [.int .i64 k, .int .i64 op, .string nm, .bool all, .slice T tz.length tc, .slice R rz.length rc, .slice A6 iz.length cap6, .slice A7 xz.length cap7, .slice S sz.length sc, .slice A9 gz.length cap9, .slice A10 wz.length cap10, .slice A11 kz.length cap11, .int .i64 off, .int .i64 cnt] [tz, rz, y6, y7, sz, y9, y10, y11], s11, rfl, hf, hv, hu, hm⟩
end Go.Proofs.YthijagpnpcpcbaaGreat
namespace Go.Proofs.YthijagpnpcpcbaaGreat
open Go.RowKit Go.Sort
theorem mode_all : ∀ (N : Nat), RmT 33 .expr N ∧ RmT 55 .rel N := by
  intro N
  induction N with
  | zero => exact ⟨fun _ _ _ _ _ _ h => by omega, fun _ _ _ _ _ _ h => by omega⟩
  | succ N ih =>
    obtain ⟨he, hr⟩ := ih
    have hl := rlist_step N he
    exact ⟨rexpr_step N he hr, rrel_step N hr hl (ragg_step N hl) (rkeys_step N he)⟩
/-- mode.expr. -/
theorem rmexpr_any {σ : Type} (M : Mde σ) (x : DT) (d : Int) (s : σ) (W : World) (hd : 0 ≤ d) (hn : d + x.n ≤ 1048576) (hst : M.C.St s W) (hx : UIn (fun k => k < M.C.B) W .expr x) (hcn : M.cnt s + x.n ≤ 1048576) : Calls Tryz.prog 33 #[.pointer (some ⟨M.mp, 0, none⟩), .agg x.c.toArray, .int .i64 d] W (RmPost M .expr d x s W) :=
  (mode_all (x.n + 1)).1 σ M x d s W (by omega) hd hn hst hx hcn
end Go.Proofs.YthijagpnpcpcbaaGreat

