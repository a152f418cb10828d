/-
  plan.mapper.rel. (printed by wip/gen_gtra.py)
-/
import Derived.Test.YthijagpnpcpcbaaGreatQGtR
import Derived.Deep.DeepCutAuto
namespace Go.Proofs.YthijagpnpcpcbaaGreat
open Go.RowKit Go.Sort
theorem uIlrel' : (Tryz.prog.info? 29).map (·.size) = some 1 := by kernel_rfl
/-- The zero relation. -/
def zRe : List Value := [.int .i64 0, .int .i64 0, .string ⟨#[]⟩, .bool false, .slice none 0 0, .slice none 0 0, .slice none 0 0, .slice none 0 0, .slice none 0 0, .slice none 0 0, .slice none 0 0, .slice none 0 0, .int .i64 0, .int .i64 0]
set_option maxRecDepth 100000 in
set_option maxHeartbeats 4000000 in
theorem rel_step (N : Nat) (hr : HT 63 .rel N) (h2 : HC 103 .expr N 0) (h4 : HC 108 .agg N 0) (h5 : HC 111 .win N 0) (h6 : HC 114 .key N 0) : HT 63 .rel (N + 1) := by
  intro σ M x0 d s W hn hd hd2 hst hx hcn
  obtain ⟨k, op, nm, all, off, cnt, T, tc, tz, R, rc, rz, I, ic, iz, X, xc, xz, S, sc, sz, G, gc, gz, WN, wc', wz, K, kc, kz, he⟩ := hx.re
  obtain rfl := he.e
  have hB := M.C.base s W hst
  have Hcn0 := Lib.hid hcn
  have Hd20 := Lib.hid hd2
  clear hcn
  rw [DT.n_node] at hn hd2
  simp at hn hd2
  show Calls _ _ #[.agg #[M.v], .agg #[.int .i64 k, .int .i64 op, .string nm, .bool all, .slice T tz.length tc, .slice R rz.length rc, .slice I iz.length ic, .slice X xz.length xc, .slice S sz.length sc, .slice G gz.length gc, .slice WN wz.length wc', .slice K kz.length kc, .int .i64 off, .int .i64 cnt], .int .i64 d] _ _
  obtain ⟨w1, hw1⟩ : ∃ w1, W.alloc (.cells #[M.v] 73) = w1 := ⟨_, rfl⟩
  obtain ⟨w2, hw2⟩ : ∃ w2, w1.alloc (.cells #[.int .i64 k, .int .i64 op, .string nm, .bool all, .slice T tz.length tc, .slice R rz.length rc, .slice I iz.length ic, .slice X xz.length xc, .slice S sz.length sc, .slice G gz.length gc, .slice WN wz.length wc', .slice K kz.length kc, .int .i64 off, .int .i64 cnt] 59) = w2 := ⟨_, rfl⟩
  obtain ⟨w4, hw4⟩ : ∃ w4, w2.alloc (.cells #[.int .i64 0, .int .i64 0, .string ⟨#[]⟩, .bool false, .slice none 0 0, .slice none 0 0, .slice none 0 0, .slice none 0 0, .slice none 0 0, .slice none 0 0, .slice none 0 0, .slice none 0 0, .int .i64 0, .int .i64 0] 59) = w4 := ⟨_, rfl⟩
  have hz1 : w1.heap.size = W.heap.size + 1 := by rw [← hw1]; simp
  have hz2 : w2.heap.size = W.heap.size + 2 := by rw [← hw2]; simp [hz1]
  have hz4 : w4.heap.size = W.heap.size + 3 := by rw [← hw4]; simp [hz2]
  have hmr := Mr.new (cs := [.int .i64 k, .int .i64 op, .string nm, .bool all, .slice T tz.length tc, .slice R rz.length rc, .slice I iz.length ic, .slice X xz.length xc, .slice S sz.length sc, .slice G gz.length gc, .slice WN wz.length wc', .slice K kz.length kc, .int .i64 off, .int .i64 cnt]) (zs := zRe) hst hw1 hw2 hw4
  have Hsame : Hid (∀ w5 w6, Below w4.heap.size w4 w5 → Wrt w5 W.heap.size [(Msame M.C.B).v] 73 w6 → Mr (Msame M.C.B) [.int .i64 k, .int .i64 op, .string nm, .bool all, .slice T tz.length tc, .slice R rz.length rc, .slice I iz.length ic, .slice X xz.length xc, .slice S sz.length sc, .slice G gz.length gc, .slice WN wz.length wc', .slice K kz.length kc, .int .i64 off, .int .i64 cnt] zRe () W () w6) := fun w5 w6 h5 h6 => Mr.same (_s0 := s) hB hw1 hw2 hw4 h5 h6
  have Hmr := Lib.hid hmr
  have He := Lib.hid he
  have Hst := Lib.hid hst
  have Him := Lib.hid uIm
  have Hsm := Lib.hid (same_any M.C.B w4)
  have Hn := Lib.hid hn
  have Hd := Lib.hid hd
  have Hd2 := Lib.hid hd2
  clear hmr he hst hx hn hd hd2
  go_enter Tryz.func63, Tryz.ntmps63
  go_upto_if 13 with (refine wpList_load_one rfl 3 _ rfl _ Tryz.underlying3 rfl _ 0 _ _ _ rfl Hmr.out.b4 rfl ?_)
  go_cut [] (fun wx => RelCut M d [.int .i64 k, .int .i64 op, .string nm, .bool all, .slice T tz.length tc, .slice R rz.length rc, .slice I iz.length ic, .slice X xz.length xc, .slice S sz.length sc, .slice G gz.length gc, .slice WN wz.length wc', .slice K kz.length kc, .int .i64 off, .int .i64 cnt] zRe tz rz iz xz sz gz wz kz s W wx)
  case first =>
    by_cases hk2 : k = 13
    · subst hk2
      go_wp2_with (first
        | (go_at_call 41; refine Hsm.out.mono ?_; rintro e w5 ⟨rfl, hb5⟩; have k5 := Lib.hid ((hb5.block W.heap.size (by omega)).trans Hmr.out.b3))
        | (refine wpList_store_blk rfl 73 _ _ rfl _ 0 _ _ [(Msame M.C.B).v] rfl rfl k5.out Him.out (by simp) rfl ?_; intro w6 hw6))
      go_meet
      exact ⟨Unit, Msame M.C.B, (), rfl, hB, (by have := Hd20.out; have := Hd.out; show 0 + _ ≤ _; omega), Hsame.out _ _ hb5 hw6, fun e w' h => h.same rfl Hst.out⟩
    · go_wp2_with fail
      go_meet
      exact ⟨σ, M, s, rfl, Hst.out, Hcn0.out, Hmr.out, fun e w' h => h.own hk2⟩
  case rest =>
    obtain ⟨σ', M', s1, eB, hst1, hcn1, hm, hfin⟩ := hcut
    rw [DT.n_node] at hcn1
    simp at hcn1
    have Hcn := Lib.hid hcn1
    clear hcn1
    have hB' : M'.C.B ≤ W.heap.size := by rw [eB]; exact hB
    have he := He.out
    rw [← eB] at he
    have He' := Lib.hid he
    have HM := Lib.hid hm
    have Hst1W := Lib.hid hst1
    have Hst1 : Hid (M'.C.St s1 wc) := hm.fr.st
    have Hfin := Lib.hid hfin
    clear he hm hst1 hfin Hmr Hsame Hsm He Hst hB
    obtain ⟨i0, hi, hrest⟩ := Option.map_eq_some_iff.1 infoRel_u
    simp only [Prod.mk.injEq] at hrest
    obtain ⟨hz0, isz, iby⟩ := hrest
    obtain ⟨z, iz', hzs⟩ := Option.map_eq_some_iff.1 hz0
    obtain ⟨n, hlen⟩ : ∃ n, iz.length = n := ⟨_, rfl⟩
    have Hlen := Lib.hid hlen
    clear hlen
    go_wp2_with (refine wpList_load_one rfl 29 _ rfl _ Tryz.underlying29 rfl _ 6 _ _ _ rfl HM.out.b4 rfl ?_)
    rw [Hlen.out]
    go_loopw [7, 18] (fun ov i wr => ∃ (j : Nat) (ys : List DT) (s2 : σ'), j ≤ n ∧ i = .int .i64 j ∧ LsI M'.C (fun _ _ => True) (fun _ _ => True) .rel 59 iz s1 wc j ys s2 ov wr ∧ ISq M' [.int .i64 k, .int .i64 op, .string nm, .bool all, .slice T tz.length tc, .slice R rz.length rc, .slice I iz.length ic, .slice X xz.length xc, .slice S sz.length sc, .slice G gz.length gc, .slice WN wz.length wc', .slice K kz.length kc, .int .i64 off, .int .i64 cnt] d iz s1 j s2 ∧ IRi M'.m [.int .i64 k, .int .i64 op, .string nm, .bool all, .slice T tz.length tc, .slice R rz.length rc, .slice I iz.length ic, .slice X xz.length xc, .slice S sz.length sc, .slice G gz.length gc, .slice WN wz.length wc', .slice K kz.length kc, .int .i64 off, .int .i64 cnt] d iz ys) (fun _ i _ => n - (intOf i).toNat)
    case atStart => exact ⟨0, [], s1, Nat.zero_le _, rfl, LsI.start trivial Hst1.out, ISq.start, fun i x y _ h => by simp at h⟩
    case round =>
      obtain ⟨j, ys, s2, hj, rfl, hI, hsq, hri⟩ := hrel
      have HI := Lib.hid hI
      have HSq := Lib.hid hsq
      have HRi := Lib.hid hri
      have hm2 := (HM.out.call hI.fr).1
      clear hsq hri
      by_cases hlt : j < n
      · have he2 := He'.out.keep (hm2.fr.src Hst1W.out) fun _ h => h
        obtain ⟨x, ad, hx, rfl, hb, hat⟩ := he2.ri.get (show j < iz.length by rw [Hlen.out]; exact hlt)
        have hxi := he2.ii x (mem_of_get? hx)
        have hx6 := hxi.len
        have HiE : Hid ((Tryz.prog.info? 59).map (·.size) = some x.c.length) := by show _ = _; rw [hx6, hi]; simp [isz, Uy.sz]
        have HiE2 : Hid ((Tryz.prog.info? 59).map (·.size) = some x.c.toArray.size) := by show _ = _; rw [List.size_toArray, hx6, hi]; simp [isz, Uy.sz]
        have Hz : Hid (x.c.toArray.size = 14) := by show _ = _; rw [List.size_toArray, hx6]; rfl
        have H1 := Lib.hid (all_one hxi.ones)
        have Hat := Lib.hid (at_add hat)
        have HX := Lib.hid hx
        have Hxi := Lib.hid hxi
        have Hxn := Lib.hid (n_mem (mem_of_get? hx))
        obtain ⟨W2, hW2⟩ : ∃ W2, wr.alloc (.cells x.c.toArray 59) = W2 := ⟨_, rfl⟩
        have Hcell : Hid (∀ j u, x.c[j]? = some u → W2.cell? ((⟨wr.heap.size, 0, none⟩ : Addr).add j) = some u) := by show ∀ j u, _ → _; rw [← hW2]; exact new_cellsT wr x.c 59
        have hbW2 : Below wr.heap.size wr W2 := by rw [← hW2]; exact bel1 _ _
        have HM2 := Lib.hid (hm2.call (Fr.below hI.fr.st hbW2)).1
        have HW2 := Lib.hid hW2
        have HbW2 := Lib.hid hbW2
        have hln := len_nL iz
        have hjn : j < 1048576 := by have := Hlen.out; have := Hd2.out; have := Hd.out; omega
        have h3 : Hid (j + 1 ≤ maxLen) := by show _ ≤ _; unfold maxLen; omega
        have h4' : Hid ((j + 1) * 248 ≤ 140737488355328) := by show _ ≤ _; omega
        clear hat hxi hx6 hx hW2 hI hbW2 hm2 he2 hln
        go_upto_region 7 with (first | (refine wpList_load_st rfl 59 _ rfl _ Tryz.underlying59 rfl (ad.add (j * 14)) x.c HiE.out rfl Hat.out ?_) | (refine wpList_store_st rfl 59 _ _ rfl _ x.c.toArray HiE2.out Hz.out.symm H1.out rfl rfl ?_))
        rw [HW2.out]
        have hwr : IntKind.i64.wrap (d + 1) = d + 1 := IntWalk.i64_in _ ⟨by have := Hd.out; omega, by have := Hd.out; have := Hd2.out; omega⟩
        by_cases hk6 : k = 6
        · subst hk6
          by_cases hj1 : j = 1
          ·
            have hcall : Hid (Calls Tryz.prog 63 #[.agg #[M'.v], .agg x.c.toArray, .int .i64 (d + 1)] W2 fun e w3 => ∃ (y : DT) (s' : σ'), e = .returned (.agg y.c.toArray) ∧ Hid (Fr M'.C s2 W2 s' w3) ∧ Hid (ISq M' [.int .i64 6, .int .i64 op, .string nm, .bool all, .slice T tz.length tc, .slice R rz.length rc, .slice (some ad) iz.length ic, .slice X xz.length xc, .slice S sz.length sc, .slice G gz.length gc, .slice WN wz.length wc', .slice K kz.length kc, .int .i64 off, .int .i64 cnt] d iz s1 (j + 1) s') ∧ Hid (UIn (Nw M'.C W2.heap.size s' w3) w3 .rel y) ∧ Hid (IRi M'.m [.int .i64 6, .int .i64 op, .string nm, .bool all, .slice T tz.length tc, .slice R rz.length rc, .slice (some ad) iz.length ic, .slice X xz.length xc, .slice S sz.length sc, .slice G gz.length gc, .slice WN wz.length wc', .slice K kz.length kc, .int .i64 off, .int .i64 cnt] d iz (ys ++ [y])) ∧ Hid (y.c.toArray.size = 14) ∧ Hid (∀ u, u ∈ y.c → u.oneCell' = true) ∧ Hid (w3.ownsRow wc.heap.size 59 14 u7 j (ys.flatMap DT.c)) ∧ Hid (∀ o, wc.heap.size ≤ (w3.alloc o).heap.size)) := by
              refine (hr σ' M' x (d + 1) s2 W2 (by have := Hxn.out; have := Hn.out; omega) (by have := Hd.out; omega) (by have := Hxn.out; have := Hd2.out; omega) (Fr.below HI.out.fr.st HbW2.out).st ((Hxi.out).keep (fun k hk => HbW2.out.block k (by have := M'.C.base s2 wr HI.out.fr.st; omega)) fun _ h => h) (by have h1 := HSq.out.2; have h2 := nL_take_succ HX.out; have h3 := nL_take_le iz (j + 1); have := Hcn.out; omega)).mono ?_
              rintro e w3 ⟨y, s', rfl, hf, hv, hy, hr⟩
              have hb0 := HbW2.out.size
              have hfz := hf.size
              have hw0 := HI.out.fr.size
              have hdep : dep .rel [.int .i64 6, .int .i64 op, .string nm, .bool all, .slice T tz.length tc, .slice R rz.length rc, .slice (some ad) iz.length ic, .slice X xz.length xc, .slice S sz.length sc, .slice G gz.length gc, .slice WN wz.length wc', .slice K kz.length kc, .int .i64 off, .int .i64 cnt] 2 j d = (d + 1) := by (simp [dep, kd, hj1])
              refine ⟨y, s', rfl, hf, HSq.out.step HX.out (by rw [hdep]; exact hv), hy, HRi.out.step HI.out.len HX.out (by rw [hdep]; exact hr), ?_, hy.ones, own_fr HI.out.own (by omega) fun k hk => ?_, fun o => by simp; omega⟩
              · show _ = _
                rw [List.size_toArray, hy.len]; rfl
              · have hl := HI.out.own.lt k hk
                exact (hf.block k (by omega) (HI.out.ne k hk)).trans (HbW2.out.block k hl.2)
            go_wp2_with (first
              | (refine wpList_load_one rfl 3 _ rfl _ Tryz.underlying3 rfl _ 0 _ _ _ rfl HM2.out.b4 rfl ?_)
              | (refine wpList_load_part rfl 73 _ rfl _ Tryz.underlying73 rfl _ _ _ _ [M'.v] rfl HM2.out.b3 Him.out rfl ?_)
              | (refine wpList_load_st rfl 59 _ rfl _ Tryz.underlying59 rfl ⟨wr.heap.size, 0, none⟩ x.c HiE.out rfl Hcell.out ?_)
              | (go_at_call 63; refine hcall.out.mono ?_; rintro e w3 ⟨y, s', rfl, Hf, Hq, Hy, Hr, Hzy, H1y, Hown3, Hz3⟩)
              | (refine wpList_one_st rfl 29 59 _ rfl i0 Tryz.underlying29 hi _ iz' y.c.toArray (isz.trans Hzy.out.symm) (hzs.trans Hzy.out.symm) (by rw [Hzy.out]; decide) (by rw [Hzy.out]; decide) rfl ?_)
              | (at_builtin; refine wpList_append_row _ rfl _ _ 29 rfl wc.heap.size 59 i0 _ 14 248 Tryz.underlying29 hi iz' isz iby hzs (by decide) u7 _ _ rfl (Hown3.out.alloc _) (some ⟨w3.heap.size, 0, none⟩) 1 1 y.c rfl (by rw [← List.size_toArray, Hzy.out]) (new_srcK _ _ _) H1y.out h3.out h4'.out (Hz3.out _) ?_; intro ov' w4' hown4 hg4 hm4))
            have Hst' := Lib.hid (HI.out.step Hst1.out HX.out HbW2.out Hf.out trivial Hy.out trivial hown4 hg4 hm4)
            clear hown4
            go_wp2_with fail
            go_roundw
            case rel => exact ⟨j + 1, ys ++ [y], s', by omega, by simp [hj1], Hst'.out, Hq.out, Hr.out⟩
            case measure => simp [intOf]; omega
          ·
            have hcall : Hid (Calls Tryz.prog 63 #[.agg #[M'.v], .agg x.c.toArray, .int .i64 (d)] W2 fun e w3 => ∃ (y : DT) (s' : σ'), e = .returned (.agg y.c.toArray) ∧ Hid (Fr M'.C s2 W2 s' w3) ∧ Hid (ISq M' [.int .i64 6, .int .i64 op, .string nm, .bool all, .slice T tz.length tc, .slice R rz.length rc, .slice (some ad) iz.length ic, .slice X xz.length xc, .slice S sz.length sc, .slice G gz.length gc, .slice WN wz.length wc', .slice K kz.length kc, .int .i64 off, .int .i64 cnt] d iz s1 (j + 1) s') ∧ Hid (UIn (Nw M'.C W2.heap.size s' w3) w3 .rel y) ∧ Hid (IRi M'.m [.int .i64 6, .int .i64 op, .string nm, .bool all, .slice T tz.length tc, .slice R rz.length rc, .slice (some ad) iz.length ic, .slice X xz.length xc, .slice S sz.length sc, .slice G gz.length gc, .slice WN wz.length wc', .slice K kz.length kc, .int .i64 off, .int .i64 cnt] d iz (ys ++ [y])) ∧ Hid (y.c.toArray.size = 14) ∧ Hid (∀ u, u ∈ y.c → u.oneCell' = true) ∧ Hid (w3.ownsRow wc.heap.size 59 14 u7 j (ys.flatMap DT.c)) ∧ Hid (∀ o, wc.heap.size ≤ (w3.alloc o).heap.size)) := by
              refine (hr σ' M' x (d) s2 W2 (by have := Hxn.out; have := Hn.out; omega) (by have := Hd.out; omega) (by have := Hxn.out; have := Hd2.out; omega) (Fr.below HI.out.fr.st HbW2.out).st ((Hxi.out).keep (fun k hk => HbW2.out.block k (by have := M'.C.base s2 wr HI.out.fr.st; omega)) fun _ h => h) (by have h1 := HSq.out.2; have h2 := nL_take_succ HX.out; have h3 := nL_take_le iz (j + 1); have := Hcn.out; omega)).mono ?_
              rintro e w3 ⟨y, s', rfl, hf, hv, hy, hr⟩
              have hb0 := HbW2.out.size
              have hfz := hf.size
              have hw0 := HI.out.fr.size
              have hdep : dep .rel [.int .i64 6, .int .i64 op, .string nm, .bool all, .slice T tz.length tc, .slice R rz.length rc, .slice (some ad) iz.length ic, .slice X xz.length xc, .slice S sz.length sc, .slice G gz.length gc, .slice WN wz.length wc', .slice K kz.length kc, .int .i64 off, .int .i64 cnt] 2 j d = (d) := by (simp [dep, kd, hj1])
              refine ⟨y, s', rfl, hf, HSq.out.step HX.out (by rw [hdep]; exact hv), hy, HRi.out.step HI.out.len HX.out (by rw [hdep]; exact hr), ?_, hy.ones, own_fr HI.out.own (by omega) fun k hk => ?_, fun o => by simp; omega⟩
              · show _ = _
                rw [List.size_toArray, hy.len]; rfl
              · have hl := HI.out.own.lt k hk
                exact (hf.block k (by omega) (HI.out.ne k hk)).trans (HbW2.out.block k hl.2)
            go_wp2_with (first
              | (refine wpList_load_one rfl 3 _ rfl _ Tryz.underlying3 rfl _ 0 _ _ _ rfl HM2.out.b4 rfl ?_)
              | (refine wpList_load_part rfl 73 _ rfl _ Tryz.underlying73 rfl _ _ _ _ [M'.v] rfl HM2.out.b3 Him.out rfl ?_)
              | (refine wpList_load_st rfl 59 _ rfl _ Tryz.underlying59 rfl ⟨wr.heap.size, 0, none⟩ x.c HiE.out rfl Hcell.out ?_)
              | (go_at_call 63; refine hcall.out.mono ?_; rintro e w3 ⟨y, s', rfl, Hf, Hq, Hy, Hr, Hzy, H1y, Hown3, Hz3⟩)
              | (refine wpList_one_st rfl 29 59 _ rfl i0 Tryz.underlying29 hi _ iz' y.c.toArray (isz.trans Hzy.out.symm) (hzs.trans Hzy.out.symm) (by rw [Hzy.out]; decide) (by rw [Hzy.out]; decide) rfl ?_)
              | (at_builtin; refine wpList_append_row _ rfl _ _ 29 rfl wc.heap.size 59 i0 _ 14 248 Tryz.underlying29 hi iz' isz iby hzs (by decide) u7 _ _ rfl (Hown3.out.alloc _) (some ⟨w3.heap.size, 0, none⟩) 1 1 y.c rfl (by rw [← List.size_toArray, Hzy.out]) (new_srcK _ _ _) H1y.out h3.out h4'.out (Hz3.out _) ?_; intro ov' w4' hown4 hg4 hm4))
            have Hst' := Lib.hid (HI.out.step Hst1.out HX.out HbW2.out Hf.out trivial Hy.out trivial hown4 hg4 hm4)
            clear hown4
            go_wp2_with fail
            go_roundw
            case rel => exact ⟨j + 1, ys ++ [y], s', by omega, by simp, Hst'.out, Hq.out, Hr.out⟩
            case measure => simp [intOf]; omega
        ·
          have hcall : Hid (Calls Tryz.prog 63 #[.agg #[M'.v], .agg x.c.toArray, .int .i64 (d)] W2 fun e w3 => ∃ (y : DT) (s' : σ'), e = .returned (.agg y.c.toArray) ∧ Hid (Fr M'.C s2 W2 s' w3) ∧ Hid (ISq M' [.int .i64 k, .int .i64 op, .string nm, .bool all, .slice T tz.length tc, .slice R rz.length rc, .slice (some ad) iz.length ic, .slice X xz.length xc, .slice S sz.length sc, .slice G gz.length gc, .slice WN wz.length wc', .slice K kz.length kc, .int .i64 off, .int .i64 cnt] d iz s1 (j + 1) s') ∧ Hid (UIn (Nw M'.C W2.heap.size s' w3) w3 .rel y) ∧ Hid (IRi M'.m [.int .i64 k, .int .i64 op, .string nm, .bool all, .slice T tz.length tc, .slice R rz.length rc, .slice (some ad) iz.length ic, .slice X xz.length xc, .slice S sz.length sc, .slice G gz.length gc, .slice WN wz.length wc', .slice K kz.length kc, .int .i64 off, .int .i64 cnt] d iz (ys ++ [y])) ∧ Hid (y.c.toArray.size = 14) ∧ Hid (∀ u, u ∈ y.c → u.oneCell' = true) ∧ Hid (w3.ownsRow wc.heap.size 59 14 u7 j (ys.flatMap DT.c)) ∧ Hid (∀ o, wc.heap.size ≤ (w3.alloc o).heap.size)) := by
            refine (hr σ' M' x (d) s2 W2 (by have := Hxn.out; have := Hn.out; omega) (by have := Hd.out; omega) (by have := Hxn.out; have := Hd2.out; omega) (Fr.below HI.out.fr.st HbW2.out).st ((Hxi.out).keep (fun k hk => HbW2.out.block k (by have := M'.C.base s2 wr HI.out.fr.st; omega)) fun _ h => h) (by have h1 := HSq.out.2; have h2 := nL_take_succ HX.out; have h3 := nL_take_le iz (j + 1); have := Hcn.out; omega)).mono ?_
            rintro e w3 ⟨y, s', rfl, hf, hv, hy, hr⟩
            have hb0 := HbW2.out.size
            have hfz := hf.size
            have hw0 := HI.out.fr.size
            have hdep : dep .rel [.int .i64 k, .int .i64 op, .string nm, .bool all, .slice T tz.length tc, .slice R rz.length rc, .slice (some ad) iz.length ic, .slice X xz.length xc, .slice S sz.length sc, .slice G gz.length gc, .slice WN wz.length wc', .slice K kz.length kc, .int .i64 off, .int .i64 cnt] 2 j d = (d) := by (simp [dep, kd, hk6])
            refine ⟨y, s', rfl, hf, HSq.out.step HX.out (by rw [hdep]; exact hv), hy, HRi.out.step HI.out.len HX.out (by rw [hdep]; exact hr), ?_, hy.ones, own_fr HI.out.own (by omega) fun k hk => ?_, fun o => by simp; omega⟩
            · show _ = _
              rw [List.size_toArray, hy.len]; rfl
            · have hl := HI.out.own.lt k hk
              exact (hf.block k (by omega) (HI.out.ne k hk)).trans (HbW2.out.block k hl.2)
          go_wp2_with (first
            | (refine wpList_load_one rfl 3 _ rfl _ Tryz.underlying3 rfl _ 0 _ _ _ rfl HM2.out.b4 rfl ?_)
            | (refine wpList_load_part rfl 73 _ rfl _ Tryz.underlying73 rfl _ _ _ _ [M'.v] rfl HM2.out.b3 Him.out rfl ?_)
            | (refine wpList_load_st rfl 59 _ rfl _ Tryz.underlying59 rfl ⟨wr.heap.size, 0, none⟩ x.c HiE.out rfl Hcell.out ?_)
            | (go_at_call 63; refine hcall.out.mono ?_; rintro e w3 ⟨y, s', rfl, Hf, Hq, Hy, Hr, Hzy, H1y, Hown3, Hz3⟩)
            | (refine wpList_one_st rfl 29 59 _ rfl i0 Tryz.underlying29 hi _ iz' y.c.toArray (isz.trans Hzy.out.symm) (hzs.trans Hzy.out.symm) (by rw [Hzy.out]; decide) (by rw [Hzy.out]; decide) rfl ?_)
            | (at_builtin; refine wpList_append_row _ rfl _ _ 29 rfl wc.heap.size 59 i0 _ 14 248 Tryz.underlying29 hi iz' isz iby hzs (by decide) u7 _ _ rfl (Hown3.out.alloc _) (some ⟨w3.heap.size, 0, none⟩) 1 1 y.c rfl (by rw [← List.size_toArray, Hzy.out]) (new_srcK _ _ _) H1y.out h3.out h4'.out (Hz3.out _) ?_; intro ov' w4' hown4 hg4 hm4))
          have Hst' := Lib.hid (HI.out.step Hst1.out HX.out HbW2.out Hf.out trivial Hy.out trivial hown4 hg4 hm4)
          clear hown4
          go_wp2_with fail
          go_roundw
          case rel => exact ⟨j + 1, ys ++ [y], s', by omega, by simp, Hst'.out, Hq.out, Hr.out⟩
          case measure => simp [intOf]; omega
      · obtain rfl : j = n := by omega
        obtain ⟨A0, cap0, rfl, hrow, hnil⟩ := own_structs hI.own hI.len (fun x hx => (hI.ins x hx).len)
        have hc1 := hrow.1
        rw [hI.len] at hc1
        have Hclip : Hid (∀ w, Calls Tryz.prog 86 #[.slice A0 j cap0] w fun e w' => e = .returned (.slice A0 j j) ∧ w' = w) := fun w => clipRel_u A0 j cap0 w hc1 hrow.2.1 hnil
        have Hlr := Lib.hid (hI.lr Hlen.out)
        have he2 := He'.out.keep (hm2.fr.src Hst1W.out) fun _ h => h
        have Hown : Hid (Calls Tryz.prog 87 #[.agg #[M'.v], .agg #[.int .i64 k, .int .i64 op, .string nm, .bool all, .slice T tz.length tc, .slice R rz.length rc, .slice I iz.length ic, .slice X xz.length xc, .slice S sz.length sc, .slice G gz.length gc, .slice WN wz.length wc', .slice K kz.length kc, .int .i64 off, .int .i64 cnt], .int .i64 d] wr (OwnPost M' d k op nm all off cnt I ic iz tz rz xz sz gz wz kz s2 wr)) :=
          own_step N h2 h4 h5 h6 M' _ d s2 wr Hd.out hI.fr.st k op nm all off cnt I ic iz tz rz xz sz gz wz kz T tc R rc X xc S sc G gc WN wc' K kc he2 (by have := Hd2.out; have := Hd.out; omega) (by have := Hd2.out; have := Hd.out; omega) (by have := Hd2.out; have := Hd.out; omega) (by have := Hn.out; omega) (by have := Hd2.out; omega) (by have := Hn.out; omega) (by have := Hd2.out; omega) (by have := Hn.out; omega) (by have := Hd2.out; omega) (by have := Hn.out; omega) (by have := Hd2.out; omega) (by have := (HSq.out.fin Hlen.out).2; have := Hcn.out; omega)
        have Hm2 := Lib.hid hm2
        have Hz2 := Lib.hid hI.fr.size
        have ire := Lib.hid uI59
        have irl := Lib.hid uIlrel'
        clear hrow hnil hc1 he2 hm2 hI h2 h4 h5 h6 hr
        go_wp2_with (first
          | (refine wpList_load_part rfl 73 _ rfl _ Tryz.underlying73 rfl _ _ _ _ [M'.v] rfl Hm2.out.b3 Him.out rfl ?_)
          | (refine wpList_load_part rfl 59 _ rfl _ Tryz.underlying59 rfl _ _ _ _ [.int .i64 k, .int .i64 op, .string nm, .bool all, .slice T tz.length tc, .slice R rz.length rc, .slice I iz.length ic, .slice X xz.length xc, .slice S sz.length sc, .slice G gz.length gc, .slice WN wz.length wc', .slice K kz.length kc, .int .i64 off, .int .i64 cnt] rfl Hm2.out.b4 ire.out rfl ?_)
          | (go_at_call 87; refine Hown.out.mono ?_; rintro e w5 ⟨A1, A2, A3, A4, A5, A6, A7, y1, y2, y3, y4, y5, y6, y7, s3, rfl, hf, hv, l1, l2, l3, l4, l5, l6, l7⟩; obtain ⟨m5, t5⟩ := Hm2.out.call hf; have Hm5 := Lib.hid m5; have Hv := Lib.hid hv; have L0 := Lib.hid (Hlr.out.fr hf); have LL := Lib.hid (And.intro l1 (And.intro l2 (And.intro l3 (And.intro l4 (And.intro l5 (And.intro l6 l7)))))); clear m5 t5 hf hv l1 l2 l3 l4 l5 l6 l7)
          | (refine wpList_store_blk rfl 59 _ _ rfl _ 0 _ _ [.int .i64 k, .int .i64 op, .string nm, .bool all, .slice A1 tz.length tz.length, .slice A2 rz.length rz.length, .slice I iz.length ic, .slice A3 xz.length xz.length, .slice A4 sz.length sz.length, .slice A5 gz.length gz.length, .slice A6 wz.length wz.length, .slice A7 kz.length kz.length, .int .i64 off, .int .i64 cnt] rfl rfl Hm5.out.b4 ire.out (by simp) rfl ?_; intro w6 hw6; obtain ⟨m6, t6⟩ := Hm5.out.set hB' hw6; have Hm6 := Lib.hid m6; have T6 := Lib.hid t6; clear m6 t6 hw6)
          | (go_at_call 86; refine (Hclip.out _).mono ?_; rintro e w' ⟨rfl, rfl⟩)
          | (refine wpList_store_blk rfl 29 _ _ rfl _ 6 _ _ [.slice A0 j j] rfl rfl Hm6.out.b4 irl.out (by simp [setL]) rfl ?_; intro w7 hw7; obtain ⟨m7, t7⟩ := Hm6.out.set hB' hw7; have Hm7 := Lib.hid m7; have T7 := Lib.hid t7; clear m7 t7 hw7)
          | (refine wpList_load_part rfl 59 _ rfl _ Tryz.underlying59 rfl _ _ _ _ [.int .i64 k, .int .i64 op, .string nm, .bool all, .slice A1 tz.length tz.length, .slice A2 rz.length rz.length, .slice A0 j j, .slice A3 xz.length xz.length, .slice A4 sz.length sz.length, .slice A5 gz.length gz.length, .slice A6 wz.length wz.length, .slice A7 kz.length kz.length, .int .i64 off, .int .i64 cnt] rfl Hm7.out.b4 ire.out rfl ?_)
          | (refine wpList_store_blk rfl 59 _ _ rfl _ _ _ _ [.int .i64 k, .int .i64 op, .string nm, .bool all, .slice A1 tz.length tz.length, .slice A2 rz.length rz.length, .slice A0 j j, .slice A3 xz.length xz.length, .slice A4 sz.length sz.length, .slice A5 gz.length gz.length, .slice A6 wz.length wz.length, .slice A7 kz.length kz.length, .int .i64 off, .int .i64 cnt] rfl rfl Hm7.out.b6 ire.out (by simp [zRe]) rfl ?_; intro wz' hwz))
        refine bodyPost_blk rfl (W.heap.size + 2) [.int .i64 k, .int .i64 op, .string nm, .bool all, .slice A1 tz.length tz.length, .slice A2 rz.length rz.length, .slice A0 j j, .slice A3 xz.length xz.length, .slice A4 sz.length sz.length, .slice A5 gz.length gz.length, .slice A6 wz.length wz.length, .slice A7 kz.length kz.length, .int .i64 off, .int .i64 cnt] _ rfl _ hwz.bk Tryz.underlying59 rfl ire.out rfl ?_
        obtain ⟨hf, tl⟩ := Hm7.out.ret hB' hwz
        obtain ⟨l1, l2, l3, l4, l5, l6, l7⟩ := LL.out
        have hz2 := Hz2.out
        have hzc := HM.out.sz
        have TT := (T6.out.trans T7.out).trans tl
        have p1 := TT _ _ _ _ _ (l1.lower (by omega))
        have p2 := TT _ _ _ _ _ (l2.lower (by omega))
        have p3 := TT _ _ _ _ _ (l3.lower (by omega))
        have p4 := TT _ _ _ _ _ (l4.lower (by omega))
        have p5 := TT _ _ _ _ _ (l5.lower (by omega))
        have p6 := TT _ _ _ _ _ (l6.lower (by omega))
        have p7 := TT _ _ _ _ _ (l7.lower (by omega))
        have p0 := TT _ _ _ _ _ (L0.out.lower hzc)
        exact Hfin.out _ _ ⟨[.int .i64 k, .int .i64 op, .string nm, .bool all, .slice A1 tz.length tz.length, .slice A2 rz.length rz.length, .slice A0 j j, .slice A3 xz.length xz.length, .slice A4 sz.length sz.length, .slice A5 gz.length gz.length, .slice A6 wz.length wz.length, .slice A7 kz.length kz.length, .int .i64 off, .int .i64 cnt], [y1, y2, ys, y3, y4, y5, y6, y7], s3, rfl, hf, (HSq.out.fin Hlen.out).tr Hv.out, UIn.mkK rfl rfl ⟨k, op, nm, all, off, cnt, _, _, _, _, _, _, _, _, rfl, He'.out.ok⟩ ⟨p1.kr (by omega) rfl, p2.kr (by omega) rfl, p0.kr (by omega) (by rw [Hlen.out]; rfl), p3.kr (by omega) rfl, p4.kr (by omega) rfl, p5.kr (by omega) rfl, p6.kr (by omega) rfl, p7.kr (by omega) rfl, trivial⟩, rfl, (fun q hq => by match q with | 0 => rfl | 1 => rfl | 2 => rfl | 3 => rfl | 4 => exact absurd (by simp [Uy.sl]) (hq .type) | 5 => exact absurd (by simp [Uy.sl]) (hq .row) | 6 => exact absurd (by simp [Uy.sl]) (hq .rel) | 7 => exact absurd (by simp [Uy.sl]) (hq .expr) | 8 => exact absurd (by simp [Uy.sl]) (hq .set) | 9 => exact absurd (by simp [Uy.sl]) (hq .agg) | 10 => exact absurd (by simp [Uy.sl]) (hq .win) | 11 => exact absurd (by simp [Uy.sl]) (hq .key) | 12 => rfl | 13 => rfl | q + 14 => rfl), ⟨ML.of_usl rfl p1.usl, ML.of_usl rfl p2.usl, ⟨p0.len.symm, HRi.out⟩, p3.ml, ML.of_usl rfl p4.usl, p5.ml, p6.ml, p7.ml, trivial⟩⟩
end Go.Proofs.YthijagpnpcpcbaaGreat

