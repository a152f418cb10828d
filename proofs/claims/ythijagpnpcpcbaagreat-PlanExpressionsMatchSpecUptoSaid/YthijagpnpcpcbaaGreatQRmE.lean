/-
  The reference's mode.keys.
  The reference's methods: lists that are made in place, in a cell of a box.
-/
import Derived.Test.YthijagpnpcpcbaaGreatQRmC
namespace Go.Proofs.YthijagpnpcpcbaaGreat
open Go.RowKit Go.Sort
theorem Vs.ke {m : Cm} {d : Int} {c b : List Value} {k : List (List DT)} {v : Int × DT} (hb : b.length = 2) (hc : c.length = 14) : Vs m .key d (.node (c ++ b) k) v ↔ Vs m .expr d (.node c k) v := by
  constructor
  · intro h
    generalize hgx : DT.node (c ++ b) k = x at h
    cases h with
    | kid _ _ _ _ _ _ _ _ _ _ _ hk => exact absurd rfl hk
    | key _ c2 b2 k2 _ hb2 hc2 h =>
      injection hgx with e1 e2
      subst e2
      obtain ⟨rfl, rfl⟩ := List.append_inj e1 (hc.trans hc2.symm)
      exact h
  · exact fun h => .key d c b k v hb hc h
/-- What an expression's call comes to in keys, its cells written out. -/
def KePost {σ : Type} (M : Mde σ) (d : Int) (c : List Value) (dn fi : Bool) (k : List (List DT)) (s : σ) (W2 : World) (own : World → Prop) (e : Ending) (w3 : World) : Prop :=
  ∃ (a : EQ) (F : Option Addr) (fn fc : Nat) (V : Option Addr) (vn vc : Nat) (A : Option Addr) (an ac : Nat) (B : Option Addr) (sn sc : Nat) (ky : DT) (s' : σ), e = .returned (.agg #[.int .i64 a.k, .int .i64 a.op, .int .i64 a.up, .int .i64 a.pos, .int .i64 a.tk, .int .i64 a.tsc, .slice F fn fc, .int .i64 a.vk, .int .i64 a.vn, .int .i64 a.vsc, .string a.s, .slice V vn vc, .slice A an ac, .slice B sn sc]) ∧
    Hid (ky.c = [.int .i64 a.k, .int .i64 a.op, .int .i64 a.up, .int .i64 a.pos, .int .i64 a.tk, .int .i64 a.tsc, .slice F fn fc, .int .i64 a.vk, .int .i64 a.vn, .int .i64 a.vsc, .string a.s, .slice V vn vc, .slice A an ac, .slice B sn sc, .bool dn, .bool fi]) ∧
    Hid (Fr M.C s W2 s' (w3.alloc (.cells #[.int .i64 a.k, .int .i64 a.op, .int .i64 a.up, .int .i64 a.pos, .int .i64 a.tk, .int .i64 a.tsc, .slice F fn fc, .int .i64 a.vk, .int .i64 a.vn, .int .i64 a.vsc, .string a.s, .slice V vn vc, .slice A an ac, .slice B sn sc] 31))) ∧
    Hid (M.vst s s' (DT.node (c ++ [.bool dn, .bool fi]) k).n (Vs M.m .key d (.node (c ++ [.bool dn, .bool fi]) k))) ∧
    Hid (UIn (Nw M.C W2.heap.size s' (w3.alloc (.cells #[.int .i64 a.k, .int .i64 a.op, .int .i64 a.up, .int .i64 a.pos, .int .i64 a.tk, .int .i64 a.tsc, .slice F fn fc, .int .i64 a.vk, .int .i64 a.vn, .int .i64 a.vsc, .string a.s, .slice V vn vc, .slice A an ac, .slice B sn sc] 31))) (w3.alloc (.cells #[.int .i64 a.k, .int .i64 a.op, .int .i64 a.up, .int .i64 a.pos, .int .i64 a.tk, .int .i64 a.tsc, .slice F fn fc, .int .i64 a.vk, .int .i64 a.vn, .int .i64 a.vsc, .string a.s, .slice V vn vc, .slice A an ac, .slice B sn sc] 31)) .key ky) ∧
    Hid (Mp M.m .key d (.node (c ++ [.bool dn, .bool fi]) k) ky) ∧ Hid (own (w3.alloc (.cells #[.int .i64 a.k, .int .i64 a.op, .int .i64 a.up, .int .i64 a.pos, .int .i64 a.tk, .int .i64 a.tsc, .slice F fn fc, .int .i64 a.vk, .int .i64 a.vn, .int .i64 a.vsc, .string a.s, .slice V vn vc, .slice A an ac, .slice B sn sc] 31)))
theorem KePost.mk {σ : Type} {M : Mde σ} {d : Int} {c : List Value} {dn fi : Bool} {k : List (List DT)} {s : σ} {W2 : World} {own : World → Prop} {e : Ending} {w3 : World} (hc : c.length = 14) (h : RmPost M .expr d (.node c k) s W2 e w3) (ho : ∀ s' w4, Fr M.C s W2 s' w4 → own w4) : KePost M d c dn fi k s W2 own e w3 := by
  obtain ⟨y, s', rfl, hf, hv, hy, hm⟩ := h
  obtain ⟨a, F, fc, fz, V, vc, vz, A, ac, az, B, sc, sz, he⟩ := hy.ex
  obtain rfl := he.e
  have fa := Fr.below hf.st (bel1 w3 (.cells #[.int .i64 a.k, .int .i64 a.op, .int .i64 a.up, .int .i64 a.pos, .int .i64 a.tk, .int .i64 a.tsc, .slice F fz.length fc, .int .i64 a.vk, .int .i64 a.vn, .int .i64 a.vsc, .string a.s, .slice V vz.length vc, .slice A az.length ac, .slice B sz.length sc] 31))
  refine ⟨a, F, fz.length, fc, V, vz.length, vc, A, az.length, ac, B, sz.length, sc, .node [.int .i64 a.k, .int .i64 a.op, .int .i64 a.up, .int .i64 a.pos, .int .i64 a.tk, .int .i64 a.tsc, .slice F fz.length fc, .int .i64 a.vk, .int .i64 a.vn, .int .i64 a.vsc, .string a.s, .slice V vz.length vc, .slice A az.length ac, .slice B sz.length sc, .bool dn, .bool fi] [fz, vz, az, sz], s', rfl, rfl, hf.trans fa, ?_, (hy.fr fa).mkey dn fi, ?_, ho _ _ (hf.trans fa)⟩
  · refine hv.to (Nat.le_of_eq (by rw [DT.n_node, DT.n_node])) fun v => (Vs.ke rfl hc).symm
  · exact Mp.key d c _ [.bool dn, .bool fi] k [fz, vz, az, sz] rfl hc rfl hm
theorem infoKey_r : (Tryz.prog.info? 105).map (fun i => (i.zero.map (fun z => z.cells.size), i.size, i.bytes)) = some (some 16, 16, 192) := by kernel_rfl
set_option maxRecDepth 100000 in
set_option maxHeartbeats 4000000 in
theorem rkeys_step (N : Nat) (h : RmT 33 .expr N) : RmL 71 .key N := by
  intro σ M l A cap d s0 w hn0 hd hd2 hst hl hin hcn
  obtain ⟨i0, hi, hrest⟩ := Option.map_eq_some_iff.1 infoKey_r
  simp only [Prod.mk.injEq] at hrest
  obtain ⟨hz0, isz, iby⟩ := hrest
  obtain ⟨z, iz, hzs⟩ := Option.map_eq_some_iff.1 hz0
  obtain ⟨n, hlen⟩ : ∃ n, l.length = n := ⟨_, rfl⟩
  have hB := M.C.base s0 w hst
  have hln := len_nL l
  have hn : n ≤ 1048576 := by omega
  rw [hlen]
  have Hl := Lib.hid hl
  have Hin := Lib.hid hin
  have Hlen := Lib.hid hlen
  have Hst := Lib.hid hst
  have Hn0 := Lib.hid hn0
  have Hd2 := Lib.hid hd2
  have Hcn := Lib.hid hcn
  clear hl hin hlen hst hn0 hd2 hcn hln
  unfold Mde.v
  go_enter Tryz.func71, Tryz.ntmps71
  go_wp2
  go_loopw [7, 13] (fun ov i wr => ∃ (j : Nat) (ys : List DT) (s : σ), j ≤ n ∧ i = .int .i64 j ∧ LsJ M.C (JSq M .key (fun _ => d) l s0) (fun _ => Mp M.m .key d) .key 105 l s0 w w.heap.size j ys s ov wr) (fun _ i _ => n - (intOf i).toNat)
  case atStart => exact ⟨0, [], s0, Nat.zero_le _, rfl, LsJ.start JSq.start (Fr.refl Hst.out) (Nat.le_refl _)⟩
  case round =>
    obtain ⟨j, ys, s, hj, rfl, hI⟩ := hrel
    have HI := Lib.hid hI
    by_cases hlt : j < n
    · obtain ⟨x, ad, hx, rfl, hb, hat⟩ := (Hl.out.keep (hI.fr.src Hst.out) (fun _ h => h)).get (show j < l.length by rw [Hlen.out]; exact hlt)
      have hxi := (Hin.out x (mem_of_get? hx)).keep (hI.fr.src Hst.out) fun _ h => h
      have hx6 := hxi.len
      obtain ⟨c, dn, fi, k, rfl, hc14, hxe⟩ := hxi.kyx
      have h1x := all_one hxi.ones
      obtain ⟨cc, hcc⟩ : ∃ cc, c ++ [Value.bool dn, .bool fi] = cc := ⟨_, rfl⟩
      have hxc : (DT.node (c ++ [Value.bool dn, .bool fi]) k).c = cc := hcc
      have hat2 := at_add hat
      rw [hxc] at hat2 hx6 h1x
      have htk : Hid ((cc.drop 0).take c.length = c) := by show _ = _; rw [List.drop_zero, ← hcc]; exact List.take_left
      have hd14 : Hid (cc[14]? = some (.bool dn)) := by show _ = _; rw [← hcc, List.getElem?_append_right (by omega), hc14]; rfl
      have hd15 : Hid (cc[15]? = some (.bool fi)) := by show _ = _; rw [← hcc, List.getElem?_append_right (by omega), hc14]; rfl
      have HiE : Hid ((Tryz.prog.info? 105).map (·.size) = some cc.length) := by show _ = _; rw [hx6, hi]; simp [isz, Uy.sz]
      have HiE2 : Hid ((Tryz.prog.info? 105).map (·.size) = some cc.toArray.size) := by show _ = _; rw [List.size_toArray, hx6, hi]; simp [isz, Uy.sz]
      have Hz : Hid (cc.toArray.size = 16) := by show _ = _; rw [List.size_toArray, hx6]; rfl
      have H1 := Lib.hid h1x
      have H14 : Hid ((Tryz.prog.info? 31).map (·.size) = some c.length) := by show _ = _; rw [hc14]; exact uI31
      have Hat := Lib.hid hat2
      obtain ⟨W2, hW2⟩ : ∃ W2, wr.alloc (.cells cc.toArray 105) = W2 := ⟨_, rfl⟩
      have hbW2 : Below wr.heap.size wr W2 := by rw [← hW2]; exact bel1 _ _
      have Hk2 : Hid (Bk W2 wr.heap.size cc 105) := by show Bk _ _ _ _; rw [← hW2]; exact Bk.new wr cc _
      have hxn := n_mem (mem_of_get? hx)
      rw [DT.n_node] at hxn
      have hcall : Hid (Calls Tryz.prog 33 #[.pointer (some ⟨M.mp, 0, none⟩), .agg c.toArray, .int .i64 d] W2 (KePost M d c dn fi k s W2 (fun w4 => w4.ownsRow w.heap.size 105 16 u7 j (ys.flatMap DT.c) ∧ Bk w4 wr.heap.size cc 105 ∧ ∀ o, w.heap.size ≤ (w4.alloc o).heap.size))) := by
        have hf2 := Fr.below hI.fr.st hbW2
        have hb0 := hbW2.size
        have hw0 := hI.fr.size
        have hk2 := Hk2.out
        have hkl := hk2.lt
        refine (h σ M (.node c k) d s W2 (by rw [DT.n_node]; have := Hn0.out; omega) hd (by rw [DT.n_node]; have := Hd2.out; omega) hf2.st (hxe.keep (hf2.src hI.fr.st) fun _ h => h) ?_).mono fun e w3 hp => KePost.mk hc14 hp fun s' w4 hf => ?_
        · rw [DT.n_node]
          have h1 := hI.sq.2
          have h2 := nL_take_succ hx
          have h3 := nL_take_le l (j + 1)
          rw [DT.n_node] at h2
          have := Hcn.out
          omega
        · have hfz := hf.size
          refine ⟨own_fr hI.own (by omega) fun k hk => ?_, hk2.fr hf fun e => ?_, fun o => by simp; omega⟩
          · have hl := hI.own.lt k hk
            exact (hf.block k (by omega) (hI.ne k hk)).trans (hbW2.block k hl.2)
          · have := M.C.lt s wr hI.fr.st _ e
            omega
      have Hx := Lib.hid hx
      have HW2 := Lib.hid hW2
      have HbW2 := Lib.hid hbW2
      have hjn : j < 1048576 := by omega
      have h3 : Hid (j + 1 ≤ maxLen) := by show _ ≤ _; unfold maxLen; omega
      have h4 : Hid ((j + 1) * 192 ≤ 140737488355328) := by show _ ≤ _; omega
      clear hat hat2 hxi hx6 hx hW2 hI hbW2 hxn hxe hcc hxc hc14 h1x
      go_upto_region 5 with (first | (refine wpList_load_st rfl 105 _ rfl _ Tryz.underlying105 rfl (ad.add (j * 16)) cc HiE.out rfl Hat.out ?_) | (refine wpList_store_st rfl 105 _ _ rfl _ cc.toArray HiE2.out Hz.out.symm H1.out rfl rfl ?_))
      rw [HW2.out]
      go_wp2_with (first
        | (refine wpList_load_part rfl 31 _ rfl _ Tryz.underlying31 rfl _ _ _ _ c rfl Hk2.out H14.out htk.out ?_)
        | (go_at_call 33; refine hcall.out.mono ?_; rintro e w3 ⟨a, F, fn, fc, V, vn, vc, A1, an, ac, B1, sn, sc, ky, s', rfl, Hky, Hf, Hq, Hy, Hr, Hown⟩; have K3 := Lib.hid Hown.out.2.1)
        | (refine wpList_store_st rfl 31 _ _ rfl _ #[.int .i64 a.k, .int .i64 a.op, .int .i64 a.up, .int .i64 a.pos, .int .i64 a.tk, .int .i64 a.tsc, .slice F fn fc, .int .i64 a.vk, .int .i64 a.vn, .int .i64 a.vsc, .string a.s, .slice V vn vc, .slice A1 an ac, .slice B1 sn sc] uI31 rfl rfl rfl rfl ?_)
        | (refine wpList_load_part rfl 31 _ rfl _ Tryz.underlying31 rfl _ _ _ _ [.int .i64 a.k, .int .i64 a.op, .int .i64 a.up, .int .i64 a.pos, .int .i64 a.tk, .int .i64 a.tsc, .slice F fn fc, .int .i64 a.vk, .int .i64 a.vn, .int .i64 a.vsc, .string a.s, .slice V vn vc, .slice A1 an ac, .slice B1 sn sc] rfl (Bk.new w3 [.int .i64 a.k, .int .i64 a.op, .int .i64 a.up, .int .i64 a.pos, .int .i64 a.tk, .int .i64 a.tsc, .slice F fn fc, .int .i64 a.vk, .int .i64 a.vn, .int .i64 a.vsc, .string a.s, .slice V vn vc, .slice A1 an ac, .slice B1 sn sc] _) uI31 rfl ?_)
        | (refine wpList_load_one rfl 4 _ rfl _ Tryz.underlying4 rfl _ 14 _ _ _ rfl K3.out hd14.out ?_)
        | (refine wpList_load_one rfl 4 _ rfl _ Tryz.underlying4 rfl _ 15 _ _ _ rfl K3.out hd15.out ?_)
        | (refine wpList_one_st rfl 57 105 _ rfl i0 Tryz.underlying57 hi _ iz #[.int .i64 a.k, .int .i64 a.op, .int .i64 a.up, .int .i64 a.pos, .int .i64 a.tk, .int .i64 a.tsc, .slice F fn fc, .int .i64 a.vk, .int .i64 a.vn, .int .i64 a.vsc, .string a.s, .slice V vn vc, .slice A1 an ac, .slice B1 sn sc, .bool dn, .bool fi] isz hzs (by decide) (by decide) rfl ?_)
        | (at_builtin; go_loud (refine wpList_append_row _ rfl _ _ 57 rfl w.heap.size 105 i0 _ 16 192 Tryz.underlying57 hi iz isz iby hzs (by decide) u7 _ _ rfl (Hown.out.1.alloc _) (some ⟨w3.heap.size + 1, 0, none⟩) 1 1 [.int .i64 a.k, .int .i64 a.op, .int .i64 a.up, .int .i64 a.pos, .int .i64 a.tk, .int .i64 a.tsc, .slice F fn fc, .int .i64 a.vk, .int .i64 a.vn, .int .i64 a.vsc, .string a.s, .slice V vn vc, .slice A1 an ac, .slice B1 sn sc, .bool dn, .bool fi] rfl rfl (by have hs := new_srcK (w3.alloc (.cells #[.int .i64 a.k, .int .i64 a.op, .int .i64 a.up, .int .i64 a.pos, .int .i64 a.tk, .int .i64 a.tsc, .slice F fn fc, .int .i64 a.vk, .int .i64 a.vn, .int .i64 a.vsc, .string a.s, .slice V vn vc, .slice A1 an ac, .slice B1 sn sc] 31)) #[.int .i64 a.k, .int .i64 a.op, .int .i64 a.up, .int .i64 a.pos, .int .i64 a.tk, .int .i64 a.tsc, .slice F fn fc, .int .i64 a.vk, .int .i64 a.vn, .int .i64 a.vsc, .string a.s, .slice V vn vc, .slice A1 an ac, .slice B1 sn sc, .bool dn, .bool fi] 105; rw [show (w3.alloc (.cells #[.int .i64 a.k, .int .i64 a.op, .int .i64 a.up, .int .i64 a.pos, .int .i64 a.tk, .int .i64 a.tsc, .slice F fn fc, .int .i64 a.vk, .int .i64 a.vn, .int .i64 a.vsc, .string a.s, .slice V vn vc, .slice A1 an ac, .slice B1 sn sc] 31)).heap.size = w3.heap.size + 1 by simp] at hs; exact hs) (fun u hu => by simp at hu; rcases hu with rfl | rfl | rfl | rfl | rfl | rfl | rfl | rfl | rfl | rfl | rfl | rfl | rfl | rfl | rfl | rfl <;> rfl) h3.out h4.out (Hown.out.2.2 _) ?_; intro ov' w4 hown4 hg4 hm4)))
      rw [← Hky.out] at hown4
      have Hst' := Lib.hid (HI.out.step Hst.out (Nat.le_refl _) Hx.out HbW2.out Hf.out (HI.out.sq.step Hx.out Hq.out) Hy.out Hr.out hown4 hg4 hm4)
      clear hown4
      go_wp2_with fail
      go_roundw
      case rel => exact ⟨j + 1, ys ++ [ky], s', by omega, by simp, Hst'.out⟩
      case measure => simp [intOf]; omega
    · obtain rfl : j = n := by omega
      obtain ⟨A2, c2, rfl, hc1, hc2, hlr⟩ := hI.lr Hlen.out
      clear hI
      go_wp2
      go_ret
      have hI := HI.out
      exact ⟨A2, c2, ys, s, rfl, hc1, hc2, hI.fr, hI.sq.fin Hlen.out, hlr.upgrade hI.rel⟩
end Go.Proofs.YthijagpnpcpcbaaGreat
namespace Go.Proofs.YthijagpnpcpcbaaGreat
open Go.RowKit Go.Sort
/-- Boxes: the one that is written, at b; others, xs; e: where they end. -/
structure Bq {σ : Type} (M : Mde σ) (xs : List (Nat × TypeId × List Value)) (T : TypeId) (s0 : σ) (W : World) (b e : Nat) (cs : List Value) (s : σ) (w : World) : Prop where
  fr : Fr M.C s0 W s w
  lo : W.heap.size ≤ b
  le : b < e
  sz : e ≤ w.heap.size
  no : ∀ k, W.heap.size ≤ k → k < e → ¬ M.C.O s k
  bk : Bk w b cs T
  xb : ∀ p, p ∈ xs → p.1 < e ∧ W.heap.size ≤ p.1 ∧ p.1 ≠ b ∧ Bk w p.1 p.2.2 p.2.1
theorem Bq.call {σ : Type} {M : Mde σ} {xs : List (Nat × TypeId × List Value)} {T : TypeId} {s0 s s' : σ} {W w w' : World} {b e : Nat} {cs : List Value} (h : Bq M xs T s0 W b e cs s w) (hf : Fr M.C s w s' w') : Bq M xs T s0 W b e cs s' w' ∧ Tk M e s w s' w' := by
  have hz := h.sz
  have hz2 := hf.size
  have hl := h.le
  refine ⟨⟨h.fr.trans hf, h.lo, h.le, by omega, fun k h1 h2 e => ?_, h.bk.fr hf (h.no _ h.lo (by omega)), fun p hp => ?_⟩, fun _ _ _ _ _ x => x.fr hf⟩
  · rcases hf.own k e with e | e
    · exact h.no k h1 h2 e
    · omega
  · obtain ⟨h1, h2, h3, h4⟩ := h.xb p hp
    exact ⟨h1, h2, h3, h4.fr hf (h.no _ h2 h1)⟩
theorem Bq.set {σ : Type} {M : Mde σ} {xs : List (Nat × TypeId × List Value)} {T : TypeId} {s0 s : σ} {W w w' : World} {b e : Nat} {cs cs' : List Value} (hB : M.C.B ≤ W.heap.size) (h : Bq M xs T s0 W b e cs s w) (hw : Wrt w b cs' T w') : Bq M xs T s0 W b e cs' s w' ∧ Tk M e s w s w' := by
  have hl := h.lo
  have hl2 := h.le
  refine ⟨⟨h.fr.wrt hw (by omega) (h.no _ (by omega) (by omega)), h.lo, h.le, by rw [hw.size]; exact h.sz, h.no, hw.bk, fun p hp => ?_⟩, fun _ _ _ _ _ x => x.wrt hw (by omega) (by omega)⟩
  obtain ⟨h1, h2, h3, h4⟩ := h.xb p hp
  exact ⟨h1, h2, h3, h4.wrt hw h3⟩
/-- Another box is written: the result. -/
theorem Bq.ret {σ : Type} {M : Mde σ} {xs : List (Nat × TypeId × List Value)} {T T' : TypeId} {s0 s : σ} {W w w' : World} {b e b' : Nat} {cs cs' : List Value} (hB : M.C.B ≤ W.heap.size) (h : Bq M xs T s0 W b e cs s w) (hb : W.heap.size ≤ b') (hb' : b' < e) (hw : Wrt w b' cs' T' w') : Fr M.C s0 W s w' ∧ Tk M e s w s w' :=
  ⟨h.fr.wrt hw (by omega) (h.no _ (by omega) (by omega)), fun _ _ _ _ _ x => x.wrt hw (by omega) (by omega)⟩
theorem Bq.box {σ : Type} {M : Mde σ} {xs : List (Nat × TypeId × List Value)} {T : TypeId} {s0 s : σ} {W w : World} {b e : Nat} {cs : List Value} (h : Bq M xs T s0 W b e cs s w) {b' : Nat} {T' : TypeId} {cs' : List Value} (hp : (b', T', cs') ∈ xs) : Bk w b' cs' T' := (h.xb _ hp).2.2.2
/-- A box and a result. -/
theorem Bq.new2 {σ : Type} {M : Mde σ} {T : TypeId} {zs cs : List Value} {s0 : σ} {W w1 w2 : World} (hst : M.C.St s0 W) (e1 : W.alloc (.cells cs.toArray T) = w1) (e2 : w1.alloc (.cells zs.toArray T) = w2) : Bq M [(W.heap.size + 1, T, zs)] T s0 W W.heap.size (W.heap.size + 2) cs s0 w2 := by
  have hz1 : w1.heap.size = W.heap.size + 1 := by rw [← e1]; simp
  have hz2 : w2.heap.size = W.heap.size + 2 := by rw [← e2]; simp [hz1]
  refine ⟨Fr.below hst ?_, Nat.le_refl _, by omega, by omega, fun k h1 h2 e => by have := M.C.lt s0 W hst k e; omega, ?_, fun p hp => ?_⟩
  · rw [← e2, ← e1]; exact ((Below.refl _ _).alloc (Nat.le_refl _) _).alloc (by simp) _
  · rw [← e2, ← e1]; exact (Bk.new W cs _).alloc _
  · rw [List.mem_singleton] at hp
    subst hp
    exact ⟨by simp, by simp, by simp, by rw [← e2, ← hz1]; exact Bk.new w1 zs _⟩
/-- A box alone. -/
theorem Bq.new1 {σ : Type} {M : Mde σ} {T : TypeId} {cs : List Value} {s0 : σ} {W w1 : World} (hst : M.C.St s0 W) (e1 : W.alloc (.cells cs.toArray T) = w1) : Bq M [] T s0 W W.heap.size (W.heap.size + 1) cs s0 w1 := by
  have hz1 : w1.heap.size = W.heap.size + 1 := by rw [← e1]; simp
  refine ⟨Fr.below hst ?_, Nat.le_refl _, by omega, by omega, fun k h1 h2 e => by have := M.C.lt s0 W hst k e; omega, ?_, fun p hp => by cases hp⟩
  · rw [← e1]; exact (Below.refl _ _).alloc (Nat.le_refl _) _
  · rw [← e1]; exact Bk.new W cs _
/-- A list in a box's method. -/
def BqPost {σ : Type} (M : Mde σ) (xs : List (Nat × TypeId × List Value)) (T : TypeId) (s0 : σ) (W : World) (b e : Nat) (cs : List Value) (t : Uy) (d : Int) (l : List DT) (s : σ) (w : World) (en : Ending) (w' : World) : Prop :=
  ∃ (A : Option Addr) (cap : Nat) (ys : List DT) (s' : σ), en = .returned (.slice A l.length cap) ∧ (l.length ≤ cap ∧ cap ≤ maxLen) ∧ Bq M xs T s0 W b e cs s' w' ∧ Tk M e s w s' w' ∧ M.vst s s' (nL l) (VL M.m t d l) ∧ LR M.C e s' w' t (Mp M.m t d) l A ys
theorem Bq.list {σ : Type} {M : Mde σ} {f : Nat} {N : Nat} {t : Uy} (hf : RmL f t N) {xs : List (Nat × TypeId × List Value)} {T : TypeId} {s0 s : σ} {W w : World} {b e : Nat} {cs : List Value} (hst : M.C.St s0 W) (h : Bq M xs T s0 W b e cs s w) (l : List DT) (A : Option Addr) (cap : Nat) (d : Int) (hn : nL l < N) (hd : 0 ≤ d) (hd2 : d + nL l ≤ 1048576) (hl : DRow (fun k => k < M.C.B) W t.sz A cap l) (hin : ∀ x, x ∈ l → UIn (fun k => k < M.C.B) W t x) (hcn : M.cnt s + nL l ≤ 1048576) :
    Calls Tryz.prog f #[M.v, .slice A l.length cap, .int .i64 d] w (BqPost M xs T s0 W b e cs t d l s w) :=
  (hf σ M l A cap d s w hn hd hd2 h.fr.st (hl.keep (h.fr.src hst) fun _ h => h) (fun x hx => (hin x hx).keep (h.fr.src hst) fun _ h => h) hcn).mono fun _ _ hp => by
    obtain ⟨A, cap, ys, s', he, h1, h2, hf, hv, hr⟩ := hp
    obtain ⟨m1, m2⟩ := h.call hf
    exact ⟨A, cap, ys, s', he, ⟨h1, h2⟩, m1, m2, hv, hr.lower h.sz⟩
/-- A list that is made in the cell o of the box. -/
structure Lq {σ : Type} (M : Mde σ) (xs : List (Nat × TypeId × List Value)) (T : TypeId) (s0 : σ) (W : World) (b e : Nat) (cs : List Value) (o : Nat) (s1 : σ) (w1 : World) (Sq : Nat → σ → Prop) (Rel : Nat → DT → DT → Prop) (t : Uy) (T' : TypeId) (l : List DT) (j : Nat) (ys : List DT) (s : σ) (ov : Value) (wr : World) : Prop where
  q : Bq M xs T s0 W b e (cs.set o ov) s wr
  kp : ∀ k, (M.C.sh k ∨ e ≤ k) → k < w1.heap.size → ¬ M.C.O s1 k → wr.heap[k]? = w1.heap[k]? ∧ ¬ M.C.O s k
  z : e ≤ w1.heap.size
  j : LsJ M.C Sq Rel t T' l s0 W w1.heap.size j ys s ov wr
theorem Lq.start {σ : Type} {M : Mde σ} {xs : List (Nat × TypeId × List Value)} {T : TypeId} {s0 : σ} {W : World} {b e : Nat} {cs : List Value} {o : Nat} {s1 : σ} {w1 : World} {Sq : Nat → σ → Prop} {Rel : Nat → DT → DT → Prop} {t : Uy} {T' : TypeId} {l : List DT} (h : Bq M xs T s0 W b e (cs.set o (.slice none 0 0)) s1 w1) (h0 : Sq 0 s1) : Lq M xs T s0 W b e cs o s1 w1 Sq Rel t T' l 0 [] s1 (.slice none 0 0) w1 :=
  ⟨h, fun _ _ _ h => ⟨rfl, h⟩, h.sz, LsJ.start h0 h.fr (Nat.le_refl _)⟩
/-- What is at hand in a round, behind the call and the copy of its result. -/
structure Lr {σ : Type} (M : Mde σ) (T : TypeId) (b : Nat) (cs : List Value) (o : Nat) (w1 : World) (T' : TypeId) (sz : Nat) (j : Nat) (ys : List DT) (ov : Value) (w3 : World) : Prop where
  bk : Bk w3 b (cs.set o ov) T
  own : w3.ownsRow w1.heap.size T' sz ov j (ys.flatMap DT.c)
  sz : ∀ ob, w1.heap.size ≤ (w3.alloc ob).heap.size
  ge : b < w1.heap.size
theorem Lq.mid {σ : Type} {M : Mde σ} {xs : List (Nat × TypeId × List Value)} {T : TypeId} {s0 : σ} {W : World} {b e : Nat} {cs : List Value} {o : Nat} {s1 : σ} {w1 : World} {Sq : Nat → σ → Prop} {Rel : Nat → DT → DT → Prop} {t : Uy} {T' : TypeId} {l : List DT} {j : Nat} {ys : List DT} {s s' : σ} {ov : Value} {wr W2 w3 : World} (h : Lq M xs T s0 W b e cs o s1 w1 Sq Rel t T' l j ys s ov wr) (hW2 : Below wr.heap.size wr W2) (hf : Fr M.C s W2 s' w3) : Lr M T b cs o w1 T' t.sz j ys ov w3 := by
  have hz := h.j.sz
  have h1 := hW2.size
  have h2 := hf.size
  have h3 := h.z
  have h4 := h.q.le
  have h5 := h.q.lo
  refine ⟨((h.q.call (Fr.below h.q.fr.st hW2)).1.call hf).1.bk, own_fr h.j.own (by omega) fun k hk => ?_, fun ob => by simp; omega, by omega⟩
  have hl := h.j.own.lt k hk
  exact (hf.block k (by omega) (h.j.ne k hk)).trans (hW2.block k hl.2)
/-- The box behind the append. -/
theorem Lr.grown {σ : Type} {M : Mde σ} {T : TypeId} {b : Nat} {cs : List Value} {o : Nat} {w1 : World} {T' : TypeId} {sz j : Nat} {ys : List DT} {ov : Value} {w3 w4 : World} {ob : Obj} (h : Lr M T b cs o w1 T' sz j ys ov w3) (hg : (w3.alloc ob).grownBy w4 ov.ownBlock) : Bk w4 b (cs.set o ov) T :=
  (hg.block b (by have := h.bk.lt; simp; omega) fun e => by have := (h.own.lt b e.symm).1; have := h.ge; omega).trans (h.bk.alloc _)
theorem setSet (cs : List Value) (o : Nat) (u v : Value) : (cs.set o u).set o v = cs.set o v := by simp
theorem Lq.step {σ : Type} {M : Mde σ} {xs : List (Nat × TypeId × List Value)} {T : TypeId} {s0 : σ} {W : World} {b e : Nat} {cs : List Value} {o : Nat} {s1 : σ} {w1 : World} {Sq : Nat → σ → Prop} {Rel : Nat → DT → DT → Prop} {t : Uy} {T' : TypeId} {l : List DT} {j : Nat} {ys : List DT} {s s' : σ} {ov ov' : Value} {wr W2 w3 w4 w5 : World} {x y : DT} {ob : Obj} (hst : M.C.St s0 W) (h : Lq M xs T s0 W b e cs o s1 w1 Sq Rel t T' l j ys s ov wr) (hx : l[j]? = some x)
    (hW2 : Below wr.heap.size wr W2) (hf : Fr M.C s W2 s' w3) (hq : Sq (j + 1) s') (hy : UIn (Nw M.C W2.heap.size s' w3) w3 t y) (hr : Rel j x y) (hown : w4.ownsRow w1.heap.size T' t.sz ov' (j + 1) (ys.flatMap DT.c ++ y.c)) (hg : (w3.alloc ob).grownBy w4 ov.ownBlock) (hm : Moved (w3.alloc ob) ov ov')
    (hw : Wrt w4 b (cs.set o ov') T w5) : Lq M xs T s0 W b e cs o s1 w1 Sq Rel t T' l (j + 1) (ys ++ [y]) s' ov' w5 := by
  have hB := M.C.base s0 W hst
  have hz := h.j.sz
  have z1 := hW2.size
  have z2 := hf.size
  have h3 := h.z
  have h4 := h.q.le
  have h5 := h.q.lo
  have hgz := hg.size
  have hr := h.j.step hst (by omega) hx hW2 hf hq hy hr hown hg hm
  have hno : ∀ k, W.heap.size ≤ k → k < e → ¬ M.C.O s' k := fun k h6 h7 e' => by
    rcases hf.own k e' with e' | e'
    · exact h.q.no k h6 h7 e'
    · have := h.q.sz; omega
  have hr5 := hr.wrt hst hw (by omega) (by omega) (hno _ (by omega) (by omega))
  have hq3 := ((h.q.call (Fr.below h.q.fr.st hW2)).1.call hf).1
  simp at hgz
  have h43 : ∀ k, k < w3.heap.size → some k ≠ ov.ownBlock → w4.heap[k]? = w3.heap[k]? := fun k hk hne => (hg.block k (by simp; omega) hne).trans (Below.heap_alloc w3 ob k hk)
  refine ⟨⟨hr5.fr, h.q.lo, h.q.le, by rw [hw.size]; have := h.q.sz; omega, hno, hw.bk, fun p hp => ?_⟩, fun k k1 k2 k3 => ?_, h.z, hr5⟩
  · obtain ⟨g1, g2, g3, g4⟩ := hq3.xb p hp
    exact ⟨g1, g2, g3, (hw.block p.1 g3).trans ((h43 p.1 g4.lt fun e' => by have := (h.j.own.lt p.1 e'.symm).1; omega).trans g4)⟩
  · obtain ⟨e1, e2⟩ := h.kp k k1 k2 k3
    have hsb := M.C.shB k
    refine ⟨(hw.block k fun e' => ?_).trans ((h43 k (by omega) fun e' => by have := (h.j.own.lt k e'.symm).1; omega).trans ((hf.block k (by omega) e2).trans ((hW2.block k (by omega)).trans e1))), fun e' => ?_⟩
    · rcases k1 with k1 | k1
      · have := hsb k1; omega
      · omega
    · rcases hf.own k e' with e' | e'
      · exact e2 e'
      · omega
theorem Lq.tk {σ : Type} {M : Mde σ} {xs : List (Nat × TypeId × List Value)} {T : TypeId} {s0 : σ} {W : World} {b e : Nat} {cs : List Value} {o : Nat} {s1 : σ} {w1 : World} {Sq : Nat → σ → Prop} {Rel : Nat → DT → DT → Prop} {t : Uy} {T' : TypeId} {l : List DT} {j : Nat} {ys : List DT} {s : σ} {ov : Value} {wr : World} (h : Lq M xs T s0 W b e cs o s1 w1 Sq Rel t T' l j ys s ov wr) : Tk M e s1 w1 s wr := fun _ _ _ _ _ x => by
  have hz := h.j.sz
  have hk : ∀ k, Nw M.C e s1 w1 k → wr.heap[k]? = w1.heap[k]? := fun k hk => (h.kp k hk.1 hk.2.1 hk.2.2).1
  have hS : ∀ k, Nw M.C e s1 w1 k → Nw M.C e s wr k := fun k hk => ⟨hk.1, by have := hk.2.1; omega, (h.kp k hk.1 hk.2.1 hk.2.2).2⟩
  exact ⟨x.len, x.rel, x.row.keep hk hS, fun y hy => (x.ins y hy).keep hk hS⟩
/-- What a list made in place has come to. -/
theorem Lq.fin {σ : Type} {M : Mde σ} {xs : List (Nat × TypeId × List Value)} {T : TypeId} {s0 : σ} {W : World} {b e : Nat} {cs : List Value} {o : Nat} {s1 : σ} {w1 : World} {Sq : Nat → σ → Prop} {Rel : Nat → DT → DT → Prop} {t : Uy} {T' : TypeId} {l : List DT} {ys : List DT} {s : σ} {ov : Value} {wr : World} {n : Nat} (h : Lq M xs T s0 W b e cs o s1 w1 Sq Rel t T' l n ys s ov wr) (hl : l.length = n) :
    ∃ A cap, ov = .slice A l.length cap ∧ (l.length ≤ cap ∧ cap ≤ maxLen) ∧ LR M.C e s wr t (fun _ _ => True) l A ys := by
  obtain ⟨A, cap, rfl, h1, h2, h3⟩ := h.j.lr hl
  exact ⟨A, cap, rfl, ⟨h1, h2⟩, h3.lower h.z⟩
end Go.Proofs.YthijagpnpcpcbaaGreat

