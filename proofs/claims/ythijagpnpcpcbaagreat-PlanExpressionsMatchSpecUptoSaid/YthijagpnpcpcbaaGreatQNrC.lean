/-
  The expressions right in a relation, as the reference collects them, walked (DtH over NrB; by wip/gen_nr.py).
-/
import Derived.Test.YthijagpnpcpcbaaGreatQGtB
import Derived.Test.YthijagpnpcpcbaaGreatQNrB
namespace Go.Proofs.YthijagpnpcpcbaaGreat
open Go.RowKit
/-- A row of expressions that is being made, beside a block that stays. -/
def OwQ (B0 : Nat) (W0 : World) (L : List DT) (q : Nat) (c : Obj) (sv : Value) (wr : World) : Prop := OwnL B0 W0 L sv wr ∧ wr.heap[q]? = some c ∧ sv.ownBlock ≠ some q
theorem OwQ.step {B0 : Nat} {W0 wr w2 w3 : World} {L k : List DT} {q : Nat} {c : Obj} {sv sv' : Value} (h : OwQ B0 W0 L q c sv wr) (hB : W0.heap.size = B0) (hb2 : Below wr.heap.size wr w2) (hown : w3.ownsRow B0 31 14 sv' (L.length + k.length) (L.flatMap DT.c ++ k.flatMap DT.c)) (hg : w2.grownBy w3 sv.ownBlock) (hm : Moved w2 sv sv') : OwQ B0 W0 (L ++ k) q c sv' w3 := by
  have hq : q < wr.heap.size := (Array.getElem?_eq_some_iff.1 h.2.1).1
  have hz := hb2.size
  refine ⟨h.1.step hB hb2 hown hg, (hg.block q (by omega) (fun e => h.2.2 e.symm)).trans ((hb2.block q hq).trans h.2.1), fun e => ?_⟩
  rcases hm with hm | hm
  · exact h.2.2 (hm ▸ e)
  · have := hm q e; omega
/-- What a loop over structs with expressions has at its head. -/
def FlQ (f : DT → List DT) (B0 : Nat) (W0 : World) (L gs : List DT) (q : Nat) (c : Obj) (sv i : Value) (wr : World) : Prop := ∃ j : Nat, j ≤ gs.length ∧ i = .int .i64 j ∧ OwQ B0 W0 (L ++ (gs.take j).flatMap f) q c sv wr
theorem FlQ.step {f : DT → List DT} {B0 : Nat} {W0 w3 : World} {L gs : List DT} {q : Nat} {c : Obj} {sv' : Value} {j : Nat} {x : DT} (hx : gs[j]? = some x) (h : OwQ B0 W0 (L ++ (gs.take j).flatMap f ++ f x) q c sv' w3) : FlQ f B0 W0 L gs q c sv' (.int .i64 ((j : Int) + 1)) w3 := by
  refine ⟨j + 1, (List.getElem?_eq_some_iff.1 hx).1, by simp, ?_⟩
  rw [List.take_add_one, hx, List.flatMap_append]
  simpa using h
theorem sizeKey : (Tryz.prog.info? 105).map (·.size) = some Ty.key.sz := by kernel_rfl
theorem sizeExpr : (Tryz.prog.info? 31).map (·.size) = some Ty.expr.sz := by kernel_rfl
theorem DT.In.key_pre {S : Nat → Prop} {w : World} {x : DT} (h : DT.In S w .key x) {j : Nat} {u : Value} (hu : (keyE x).c[j]? = some u) : x.c[j]? = some u := by
  obtain ⟨_, dn, fi, e, _⟩ := h.key
  rw [e, List.getElem?_append_left (List.getElem?_eq_some_iff.1 hu).1]
  exact hu
theorem len_take_flat2 {f : DT → List DT} {l : List DT} (j : Nat) {x : DT} (hx : l[j]? = some x) : ((l.take j).flatMap f).length + (f x).length ≤ (l.flatMap f).length := by
  have e : l.flatMap f = (l.take j).flatMap f ++ (f x ++ (l.drop (j + 1)).flatMap f) := by
    rw [← List.flatMap_cons, ← drop_of_get? hx, ← List.flatMap_append, List.take_append_drop]
  rw [e]
  simp only [List.length_append]
  omega
theorem OwnL.box {B0 : Nat} {W0 wr W1 w2 : World} {L : List DT} {sv : Value} (h : OwnL B0 W0 L sv wr) (hg : W1.grownBy w2 sv.ownBlock) (hz : wr.heap.size < W1.heap.size) : w2.heap[wr.heap.size]? = W1.heap[wr.heap.size]? :=
  hg.block _ hz (fun e => by have := (h.1.lt _ e.symm).2; omega)
theorem OwnL.ne {B0 : Nat} {W0 wr W1 : World} {L : List DT} {sv sv' : Value} (h : OwnL B0 W0 L sv wr) (hm : Moved W1 sv sv') (hz : wr.heap.size < W1.heap.size) : sv'.ownBlock ≠ some wr.heap.size := fun e => by
  rcases hm with hm | hm
  · have := (h.1.lt _ (hm ▸ e)).2; omega
  · have := hm _ e; omega
theorem OwnL.old {B0 : Nat} {W0 wr : World} {L : List DT} {sv : Value} {q : Nat} {c : Obj} (h : OwnL B0 W0 L sv wr) (P0 : W0.heap[q]? = some c) (hq : q < B0) : OwQ B0 W0 L q c sv wr :=
  ⟨h, (h.2.block q hq).trans P0, fun e => by have := (h.1.lt q e).1; omega⟩
set_option maxRecDepth 100000 in
set_option maxHeartbeats 16000000 in
theorem rExprsOf_any (d : DT) (S : Nat → Prop) (w : World) (hd : DT.In S w .rel d) (hS : ∀ k, S k → k < w.heap.size) (hn : d.n ≤ 1048576) :
    Calls Tryz.prog 50 #[.agg d.c.toArray] w (ExPost (relE d) w) := by
  obtain ⟨i0, hi, iz, isz, iby⟩ := info_parts infoExpr
  have hlen := hd.relLen
  obtain ⟨a, IA, icap, is, EA, ecap, es, GA, gcap, gs, WA, wcap, ws, KA, kcap, ks, h⟩ := hd.rel
  obtain ⟨he, _, _, ri, re, rg, rwi, rk, ii, ie, ig, iw, ik⟩ := h
  subst he
  have hre : relE (DT.node [.int .i64 a.k, .int .i64 a.op, .string a.nm, .bool a.all, .slice a.TA a.tl a.tc, .slice a.RA a.rl a.rc, .slice IA is.length icap, .slice EA es.length ecap, .slice a.SA a.sl a.sc, .slice GA gs.length gcap, .slice WA ws.length wcap, .slice KA ks.length kcap, .int .i64 a.off, .int .i64 a.cnt] [is, es, gs, ws, ks]) = es ++ gs.flatMap aggE ++ ws.flatMap winE ++ ks.map keyE := rfl
  rw [hre] at hlen
  show Calls _ _ #[.agg #[.int .i64 a.k, .int .i64 a.op, .string a.nm, .bool a.all, .slice a.TA a.tl a.tc, .slice a.RA a.rl a.rc, .slice IA is.length icap, .slice EA es.length ecap, .slice a.SA a.sl a.sc, .slice GA gs.length gcap, .slice WA ws.length wcap, .slice KA ks.length kcap, .int .i64 a.off, .int .i64 a.cnt]] _ (ExPost (es ++ gs.flatMap aggE ++ ws.flatMap winE ++ ks.map keyE) w)
  have hb1 : Hid (es.length + (gs.flatMap aggE).length ≤ 1048576) := by show _ ≤ _; simp only [List.length_append, List.length_map] at hlen; omega
  have hb2 : Hid ((es ++ gs.flatMap aggE).length + (ws.flatMap winE).length ≤ 1048576) := by show _ ≤ _; simp only [List.length_append, List.length_map] at hlen ⊢; omega
  have hb6 : Hid ((es ++ gs.flatMap aggE ++ ws.flatMap winE).length + (ks.flatMap (fun x => [keyE x])).length ≤ 1048576) := by show _ ≤ _; rw [map_flat]; simp only [List.length_append, List.length_map] at hlen ⊢; omega
  have les : es.length ≤ 1048576 := by simp only [List.length_append, List.length_map] at hlen; omega
  obtain ⟨gl, hgl⟩ : ∃ n, gs.length = n := ⟨_, rfl⟩
  have lg : gs.length ≤ 1048576 := by have := len_nL gs; rw [DT.n_node] at hn; simp at hn; omega
  have lw : ws.length ≤ 1048576 := by have := len_nL ws; rw [DT.n_node] at hn; simp at hn; omega
  have lk : ks.length ≤ 1048576 := by have := len_nL ks; rw [DT.n_node] at hn; simp at hn; omega
  have lwn : nL ws ≤ 1048576 := by rw [DT.n_node] at hn; simp at hn; omega
  have Lwn := Lib.hid lwn
  clear hgl gl lwn
  obtain ⟨W0, hW0⟩ : ∃ W0, w.alloc (.cells #[.int .i64 a.k, .int .i64 a.op, .string a.nm, .bool a.all, .slice a.TA a.tl a.tc, .slice a.RA a.rl a.rc, .slice IA is.length icap, .slice EA es.length ecap, .slice a.SA a.sl a.sc, .slice GA gs.length gcap, .slice WA ws.length wcap, .slice KA ks.length kcap, .int .i64 a.off, .int .i64 a.cnt] 59) = W0 := ⟨_, rfl⟩
  have hbw : Below w.heap.size w W0 := by rw [← hW0]; exact bel1 _ _
  have hz0 : W0.heap.size = w.heap.size + 1 := by rw [← hW0]; simp
  have P0 : W0.heap[w.heap.size]? = some (.cells #[.int .i64 a.k, .int .i64 a.op, .string a.nm, .bool a.all, .slice a.TA a.tl a.tc, .slice a.RA a.rl a.rc, .slice IA is.length icap, .slice EA es.length ecap, .slice a.SA a.sl a.sc, .slice GA gs.length gcap, .slice WA ws.length wcap, .slice KA ks.length kcap, .int .i64 a.off, .int .i64 a.cnt] 59 (0, 0)) := by rw [← hW0]; exact heap_alloc_new w _
  have hSS : ∀ W, Below W0.heap.size W0 W → ∀ k, S k → W.heap[k]? = w.heap[k]? := fun W h k hk => (h.block k (by have := hS k hk; omega)).trans (hbw.block k (hS k hk))
  have hcl := Lib.hid (cloneE_any EA ecap es S W0 (re.keep (hSS W0 (Below.refl _ _)) (fun _ h => h)) (fun x hx => (ie x hx).len) (fun x hx => (ie x hx).ones) les)
  have HW0 := Lib.hid hW0
  have Hz0 := Lib.hid hz0
  have HSS := Lib.hid hSS
  have HS := Lib.hid hS
  have HP0 := Lib.hid P0
  clear hW0 hz0 P0 hSS hd hn hS hlen hre les
  go_enter Tryz.func50, Tryz.ntmps50
  go_wp2_with fail
  rw [HW0.out]
  refine hcl.out.mono ?_
  rintro e w1 ⟨v1, rfl, hown1, hb0⟩
  have ho1 : OwnL W0.heap.size W0 es v1 w1 := ⟨hown1, hb0⟩
  have hq1 := ho1.old HP0.out (by have := Hz0.out; omega)
  have p9 := cell_of_row w1 w.heap.size 9 _ _ _ hq1.2.1
  simp at p9
  have Hq1 := Lib.hid hq1
  clear ho1 hown1 hq1 hb0
  go_wp2
  go_loopw [3, 22] (fun sv i wr => FlQ aggE W0.heap.size W0 es gs w.heap.size (.cells #[.int .i64 a.k, .int .i64 a.op, .string a.nm, .bool a.all, .slice a.TA a.tl a.tc, .slice a.RA a.rl a.rc, .slice IA is.length icap, .slice EA es.length ecap, .slice a.SA a.sl a.sc, .slice GA gs.length gcap, .slice WA ws.length wcap, .slice KA ks.length kcap, .int .i64 a.off, .int .i64 a.cnt] 59 (0, 0)) sv i wr) (fun _ i _ => gs.length - (intOf i).toNat)
  case atStart => exact ⟨0, Nat.zero_le _, rfl, by simpa using Hq1.out⟩
  case round =>
    obtain ⟨j, hj, rfl, ho⟩ := hrel
    have hb := ho.1.2
    have hzr := hb.size
    by_cases hlt : j < gs.length
    · obtain ⟨x, ad, hx, rfl, hbx, hat⟩ := (rg.keep (HSS.out wr hb) (fun _ h => h)).get hlt
      have hxa := ig x (mem_of_get? hx)
      obtain ⟨v0, v1, v2, A3, cap3, bz, F3, fcap3, fz, hx2⟩ := hxa.agg
      obtain ⟨hx2e, xra, xrf, xia, xif⟩ := hx2
      have hxE : aggE x = bz ++ fz := by rw [hx2e]; rfl
      have hxc : x.c = [.int .i64 v0, .int .i64 v1, .bool v2, .slice A3 bz.length cap3, .slice F3 fz.length fcap3] := by rw [hx2e]; rfl
      have hle := len_take_flat2 (f := aggE) j hx
      rw [hxE, List.length_append] at hle
      have hbd := hb1.out
      obtain ⟨L1, hL1⟩ : ∃ L1, es ++ (gs.take j).flatMap aggE = L1 := ⟨_, rfl⟩
      have hlen1 : L1.length + bz.length + fz.length ≤ 1048576 := by rw [← hL1, List.length_append]; omega
      have hlen1a : L1.length + bz.length ≤ 1048576 := by omega
      rw [hL1] at ho
      have hat' := fun (k : Nat) (u : Value) (h : ([.int .i64 v0, .int .i64 v1, .bool v2, .slice A3 bz.length cap3, .slice F3 fz.length fcap3] : List Value)[k]? = some u) => hat k u (by rw [hxc]; exact h)
      have d0 : wr.cell? (ad.add (j * 5)) = some (.int .i64 v0) := hat' 0 _ rfl
      have d1 : wr.cell? ⟨(ad.add (j * 5)).block, (ad.add (j * 5)).off + 1, none⟩ = some (.int .i64 v1) := hat' 1 _ rfl
      have d2 : wr.cell? ⟨(ad.add (j * 5)).block, (ad.add (j * 5)).off + 2, none⟩ = some (.bool v2) := hat' 2 _ rfl
      have d3 : wr.cell? ⟨(ad.add (j * 5)).block, (ad.add (j * 5)).off + 3, none⟩ = some (.slice A3 bz.length cap3) := hat' 3 _ rfl
      have d4 : wr.cell? ⟨(ad.add (j * 5)).block, (ad.add (j * 5)).off + 4, none⟩ = some (.slice F3 fz.length fcap3) := hat' 4 _ rfl
      obtain ⟨W1, hW1⟩ : ∃ W1, wr.alloc (.cells #[.int .i64 v0, .int .i64 v1, .bool v2, .slice A3 bz.length cap3, .slice F3 fz.length fcap3] 99) = W1 := ⟨_, rfl⟩
      have hbW1 : Below wr.heap.size wr W1 := by rw [← hW1]; exact bel1 _ _
      have hzW1 : wr.heap.size < W1.heap.size := by rw [← hW1]; simp
      have e1 : W1.heap[wr.heap.size]? = some (.cells #[.int .i64 v0, .int .i64 v1, .bool v2, .slice A3 bz.length cap3, .slice F3 fz.length fcap3] 99 (0, 0)) := by rw [← hW1]; exact heap_alloc_new wr _
      have hb1' : Below W0.heap.size W0 W1 := hb.trans (hbW1.mono hzr)
      have g3 := cell_of_row W1 wr.heap.size 3 _ _ _ e1
      simp at g3
      have hsrca := Lib.hid (SrcAt.keep xra (HSS.out W1 hb1') (by decide) (fun y hy => (xia y hy).len))
      have hfla := Lib.hid (flatD_len (l := bz) (c := 14) (fun y hy => (xia y hy).len))
      have hona := Lib.hid (ones_flat xia)
      have hlL : L1.length + bz.length ≤ 1048576 := by exact hlen1a
      have h3a : Hid (L1.length + bz.length ≤ maxLen) := by show _ ≤ _; unfold maxLen; omega
      have h4a : Hid ((L1.length + bz.length) * 184 ≤ 140737488355328) := by show _ ≤ _; omega
      have hzza : Hid (W0.heap.size ≤ W1.heap.size) := (hb1').size
      clear hlL
      have Ho2 := Lib.hid (ho.1.below rfl hbW1)
      have Ho := Lib.hid ho
      have Hx := Lib.hid hx
      have HxE := Lib.hid hxE
      have HW1 := Lib.hid hW1
      have E1 := Lib.hid e1
      have HL1 := Lib.hid hL1
      have Hl := Lib.hid hlen1
      clear hat hat' hxc hx2e hx hW1 e1 ho hxa hxE hL1 hlen1 hlen1a hle hbd
      go_upto_region 5 with (fail)
      rw [HW1.out]
      clear d0 d1 d2 d3 d4
      go_upto_region 6 with (at_builtin; refine wpList_append_row _ rfl _ _ 28 rfl W0.heap.size 31 i0 _ 14 184 Tryz.underlying28 hi iz isz iby rfl (by decide) u3 _ _ rfl Ho2.out.1 A3 bz.length cap3 (bz.flatMap DT.c) rfl hfla.out hsrca.out hona.out h3a.out h4a.out hzza.out ?_; intro sva wa howna hga hma)
      have hsta := Ho.out.step rfl hbW1 (k := bz) howna hga hma
      have ea := Ho.out.1.box hga hzW1
      have e4 := ea.trans E1.out
      have g4 := cell_of_row wa wr.heap.size 4 _ _ _ e4
      simp at g4
      have hba := hsta.1.2
      have hsrcb := Lib.hid (SrcAt.keep xrf (HSS.out wa hba) (by decide) (fun y hy => (xif y hy).len))
      have hflb := Lib.hid (flatD_len (l := fz) (c := 14) (fun y hy => (xif y hy).len))
      have honb := Lib.hid (ones_flat xif)
      have hlL : (L1 ++ bz).length + fz.length ≤ 1048576 := by rw [List.length_append]; exact Hl.out
      have h3b : Hid ((L1 ++ bz).length + fz.length ≤ maxLen) := by show _ ≤ _; unfold maxLen; omega
      have h4b : Hid (((L1 ++ bz).length + fz.length) * 184 ≤ 140737488355328) := by show _ ≤ _; omega
      have hzzb : Hid (W0.heap.size ≤ wa.heap.size) := (hba).size
      clear hlL
      have Hsta := Lib.hid hsta
      clear hsta ea e4 howna g3
      go_wp2_with (at_builtin; refine wpList_append_row _ rfl _ _ 28 rfl W0.heap.size 31 i0 _ 14 184 Tryz.underlying28 hi iz isz iby rfl (by decide) sva _ _ rfl Hsta.out.1.1 F3 fz.length fcap3 (fz.flatMap DT.c) rfl hflb.out hsrcb.out honb.out h3b.out h4b.out hzzb.out ?_; intro svb wb hownb hgb hmb)
      have hst := FlQ.step Hx.out (by have h := Hsta.out.step rfl (Below.refl _ _) (k := fz) hownb hgb hmb; rw [List.append_assoc, ← HxE.out, ← HL1.out] at h; exact h)
      have Hst := Lib.hid hst
      clear hst hownb
      go_roundw
      case rel => exact Hst.out
      case measure => simp [intOf]; omega
    · obtain rfl : j = gs.length := by omega
      rw [List.take_length] at ho
      have p10 := cell_of_row wr w.heap.size 10 _ _ _ ho.2.1
      simp at p10
      have Hq2 := Lib.hid ho
      clear ho p9 hb hzr hlt
      go_wp2
      go_loopw [3, 38] (fun sv i wr => FlQ winE W0.heap.size W0 (es ++ gs.flatMap aggE) ws w.heap.size (.cells #[.int .i64 a.k, .int .i64 a.op, .string a.nm, .bool a.all, .slice a.TA a.tl a.tc, .slice a.RA a.rl a.rc, .slice IA is.length icap, .slice EA es.length ecap, .slice a.SA a.sl a.sc, .slice GA gs.length gcap, .slice WA ws.length wcap, .slice KA ks.length kcap, .int .i64 a.off, .int .i64 a.cnt] 59 (0, 0)) sv i wr) (fun _ i _ => ws.length - (intOf i).toNat)
      case atStart => exact ⟨0, Nat.zero_le _, rfl, by simpa using Hq2.out⟩
      case round =>
        obtain ⟨j, hj, rfl, ho⟩ := hrel
        have hb := ho.1.2
        have hzr := hb.size
        by_cases hlt : j < ws.length
        · obtain ⟨x, ad, hx, rfl, hbx, hat⟩ := (rwi.keep (HSS.out wr hb) (fun _ h => h)).get hlt
          have hxa := iw x (mem_of_get? hx)
          have hxn : x.n ≤ 1048576 := by have := n_mem (mem_of_get? hx); have := Lwn.out; omega
          obtain ⟨y0, y1, A2, cap2, az, G2, gc2, g2, P2, pc2, p2, K2, kc2, k2, T2, tc2, t2, z7, z8, z9, z10, z11, hx2⟩ := hxa.win
          obtain ⟨hx2e, xra, xrg, xrp, xrk, xrt, xia, xig, xip, xik, xit⟩ := hx2
          have hxE : winE x = az ++ g2.flatMap aggE ++ p2 ++ (k2 ++ t2).map keyE := by rw [hx2e]; rfl
          have hxc : x.c = [.int .i64 y0, .int .i64 y1, .slice A2 az.length cap2, .slice G2 g2.length gc2, .slice P2 p2.length pc2, .slice K2 k2.length kc2, .slice T2 t2.length tc2, .int .i64 z7, .int .i64 z8, .int .i64 z9, .int .i64 z10, .int .i64 z11] := by rw [hx2e]; rfl
          have hle := len_take_flat2 (f := winE) j hx
          rw [hxE] at hle
          have hbd := hb2.out
          obtain ⟨L2, hL2⟩ : ∃ L2, (es ++ gs.flatMap aggE) ++ (ws.take j).flatMap winE = L2 := ⟨_, rfl⟩
          have hlen2 : L2.length + (az.length + (g2.flatMap aggE).length + p2.length + k2.length + t2.length) ≤ 1048576 := by rw [← hL2, List.length_append]; simp only [List.length_append, List.length_map] at hle hbd ⊢; omega
          rw [hL2] at ho
          have lg2 : g2.length ≤ 1048576 := by have := len_nL g2; rw [hx2e, DT.n_node] at hxn; simp at hxn; omega
          have lk2 : k2.length ≤ 1048576 := by omega
          have lt2 : t2.length ≤ 1048576 := by omega
          have hat' := fun (k : Nat) (u : Value) (h : ([.int .i64 y0, .int .i64 y1, .slice A2 az.length cap2, .slice G2 g2.length gc2, .slice P2 p2.length pc2, .slice K2 k2.length kc2, .slice T2 t2.length tc2, .int .i64 z7, .int .i64 z8, .int .i64 z9, .int .i64 z10, .int .i64 z11] : List Value)[k]? = some u) => hat k u (by rw [hxc]; exact h)
          have d0 : wr.cell? (ad.add (j * 12)) = some (.int .i64 y0) := hat' 0 _ rfl
          have d1 : wr.cell? ⟨(ad.add (j * 12)).block, (ad.add (j * 12)).off + 1, none⟩ = some (.int .i64 y1) := hat' 1 _ rfl
          have d2 : wr.cell? ⟨(ad.add (j * 12)).block, (ad.add (j * 12)).off + 2, none⟩ = some (.slice A2 az.length cap2) := hat' 2 _ rfl
          have d3 : wr.cell? ⟨(ad.add (j * 12)).block, (ad.add (j * 12)).off + 3, none⟩ = some (.slice G2 g2.length gc2) := hat' 3 _ rfl
          have d4 : wr.cell? ⟨(ad.add (j * 12)).block, (ad.add (j * 12)).off + 4, none⟩ = some (.slice P2 p2.length pc2) := hat' 4 _ rfl
          have d5 : wr.cell? ⟨(ad.add (j * 12)).block, (ad.add (j * 12)).off + 5, none⟩ = some (.slice K2 k2.length kc2) := hat' 5 _ rfl
          have d6 : wr.cell? ⟨(ad.add (j * 12)).block, (ad.add (j * 12)).off + 6, none⟩ = some (.slice T2 t2.length tc2) := hat' 6 _ rfl
          have d7 : wr.cell? ⟨(ad.add (j * 12)).block, (ad.add (j * 12)).off + 7, none⟩ = some (.int .i64 z7) := hat' 7 _ rfl
          have d8 : wr.cell? ⟨(ad.add (j * 12)).block, (ad.add (j * 12)).off + 8, none⟩ = some (.int .i64 z8) := hat' 8 _ rfl
          have d9 : wr.cell? ⟨(ad.add (j * 12)).block, (ad.add (j * 12)).off + 9, none⟩ = some (.int .i64 z9) := hat' 9 _ rfl
          have d10 : wr.cell? ⟨(ad.add (j * 12)).block, (ad.add (j * 12)).off + 10, none⟩ = some (.int .i64 z10) := hat' 10 _ rfl
          have d11 : wr.cell? ⟨(ad.add (j * 12)).block, (ad.add (j * 12)).off + 11, none⟩ = some (.int .i64 z11) := hat' 11 _ rfl
          obtain ⟨W1, hW1⟩ : ∃ W1, wr.alloc (.cells #[.int .i64 y0, .int .i64 y1, .slice A2 az.length cap2, .slice G2 g2.length gc2, .slice P2 p2.length pc2, .slice K2 k2.length kc2, .slice T2 t2.length tc2, .int .i64 z7, .int .i64 z8, .int .i64 z9, .int .i64 z10, .int .i64 z11] 103) = W1 := ⟨_, rfl⟩
          have hbW1 : Below wr.heap.size wr W1 := by rw [← hW1]; exact bel1 _ _
          have hzW1 : wr.heap.size < W1.heap.size := by rw [← hW1]; simp
          have e1 : W1.heap[wr.heap.size]? = some (.cells #[.int .i64 y0, .int .i64 y1, .slice A2 az.length cap2, .slice G2 g2.length gc2, .slice P2 p2.length pc2, .slice K2 k2.length kc2, .slice T2 t2.length tc2, .int .i64 z7, .int .i64 z8, .int .i64 z9, .int .i64 z10, .int .i64 z11] 103 (0, 0)) := by rw [← hW1]; exact heap_alloc_new wr _
          have hb1' : Below W0.heap.size W0 W1 := hb.trans (hbW1.mono hzr)
          have g2c := cell_of_row W1 wr.heap.size 2 _ _ _ e1
          simp at g2c
          have hlen2a : L2.length + az.length ≤ 1048576 := by omega
          have hsrca := Lib.hid (SrcAt.keep xra (HSS.out W1 hb1') (by decide) (fun y hy => (xia y hy).len))
          have hfla := Lib.hid (flatD_len (l := az) (c := 14) (fun y hy => (xia y hy).len))
          have hona := Lib.hid (ones_flat xia)
          have hlL : L2.length + az.length ≤ 1048576 := by exact hlen2a
          have h3a : Hid (L2.length + az.length ≤ maxLen) := by show _ ≤ _; unfold maxLen; omega
          have h4a : Hid ((L2.length + az.length) * 184 ≤ 140737488355328) := by show _ ≤ _; omega
          have hzza : Hid (W0.heap.size ≤ W1.heap.size) := (hb1').size
          clear hlL
          have Ho2 := Lib.hid (ho.1.below rfl hbW1)
          have Ho := Lib.hid ho
          have Hx := Lib.hid hx
          have HxE := Lib.hid hxE
          have HW1 := Lib.hid hW1
          have E1 := Lib.hid e1
          have HL2 := Lib.hid hL2
          have Hl := Lib.hid hlen2
          clear hat hat' hxc hx2e hx hW1 e1 ho hxa hxE hL2 hlen2 hlen2a hle hbd hxn
          go_upto_region 11 with (fail)
          rw [HW1.out]
          clear d0 d1 d2 d3 d4 d5 d6 d7 d8 d9 d10 d11
          go_upto_region 12 with (at_builtin; refine wpList_append_row _ rfl _ _ 28 rfl W0.heap.size 31 i0 _ 14 184 Tryz.underlying28 hi iz isz iby rfl (by decide) u3 _ _ rfl Ho2.out.1 A2 az.length cap2 (az.flatMap DT.c) rfl hfla.out hsrca.out hona.out h3a.out h4a.out hzza.out ?_; intro sva wa howna hga hma)
          have hsta := Ho.out.step rfl hbW1 (k := az) howna hga hma
          have ea := (Ho.out.1.box hga hzW1).trans E1.out
          have hsq : OwQ W0.heap.size W0 (L2 ++ az) wr.heap.size (.cells #[.int .i64 y0, .int .i64 y1, .slice A2 az.length cap2, .slice G2 g2.length gc2, .slice P2 p2.length pc2, .slice K2 k2.length kc2, .slice T2 t2.length tc2, .int .i64 z7, .int .i64 z8, .int .i64 z9, .int .i64 z10, .int .i64 z11] 103 (0, 0)) sva wa := ⟨hsta.1, ea, Ho.out.1.ne hma hzW1⟩
          have gg3 := cell_of_row wa wr.heap.size 3 _ _ _ ea
          simp at gg3
          obtain ⟨L3, hL3⟩ : ∃ L3, L2 ++ az = L3 := ⟨_, rfl⟩
          rw [hL3] at hsq
          have hbd3 : Hid (L3.length + (g2.flatMap aggE).length ≤ 1048576) := by show _ ≤ _; have := Hl.out; rw [← hL3, List.length_append]; omega
          have HL3 := Lib.hid hL3
          have Hsq := Lib.hid hsq
          obtain ⟨wo, hwo⟩ : ∃ wo, wo = wr := ⟨_, rfl⟩
          subst hwo
          clear hsta ea howna hsq hL3 hga hma g2c
          go_wp2
          go_loopw [3, 49] (fun sv i wr => FlQ aggE W0.heap.size W0 L3 g2 wo.heap.size (.cells #[.int .i64 y0, .int .i64 y1, .slice A2 az.length cap2, .slice G2 g2.length gc2, .slice P2 p2.length pc2, .slice K2 k2.length kc2, .slice T2 t2.length tc2, .int .i64 z7, .int .i64 z8, .int .i64 z9, .int .i64 z10, .int .i64 z11] 103 (0, 0)) sv i wr) (fun _ i _ => g2.length - (intOf i).toNat)
          case atStart => exact ⟨0, Nat.zero_le _, rfl, by simpa using Hsq.out⟩
          case round =>
            obtain ⟨j, hj, rfl, ho⟩ := hrel
            have hb := ho.1.2
            have hzr := hb.size
            by_cases hlt : j < g2.length
            · obtain ⟨x, ad, hx, rfl, hbx, hat⟩ := (xrg.keep (HSS.out wr hb) (fun _ h => h)).get hlt
              have hxa := xig x (mem_of_get? hx)
              obtain ⟨v0, v1, v2, A3, cap3, bz, F3, fcap3, fz, hx2⟩ := hxa.agg
              obtain ⟨hx2e, xra, xrf, xia, xif⟩ := hx2
              have hxE : aggE x = bz ++ fz := by rw [hx2e]; rfl
              have hxc : x.c = [.int .i64 v0, .int .i64 v1, .bool v2, .slice A3 bz.length cap3, .slice F3 fz.length fcap3] := by rw [hx2e]; rfl
              have hle := len_take_flat2 (f := aggE) j hx
              rw [hxE, List.length_append] at hle
              have hbd := hbd3.out
              obtain ⟨L1, hL1⟩ : ∃ L1, L3 ++ (g2.take j).flatMap aggE = L1 := ⟨_, rfl⟩
              have hlen1 : L1.length + bz.length + fz.length ≤ 1048576 := by rw [← hL1, List.length_append]; omega
              have hlen1a : L1.length + bz.length ≤ 1048576 := by omega
              rw [hL1] at ho
              have hat' := fun (k : Nat) (u : Value) (h : ([.int .i64 v0, .int .i64 v1, .bool v2, .slice A3 bz.length cap3, .slice F3 fz.length fcap3] : List Value)[k]? = some u) => hat k u (by rw [hxc]; exact h)
              have d0 : wr.cell? (ad.add (j * 5)) = some (.int .i64 v0) := hat' 0 _ rfl
              have d1 : wr.cell? ⟨(ad.add (j * 5)).block, (ad.add (j * 5)).off + 1, none⟩ = some (.int .i64 v1) := hat' 1 _ rfl
              have d2 : wr.cell? ⟨(ad.add (j * 5)).block, (ad.add (j * 5)).off + 2, none⟩ = some (.bool v2) := hat' 2 _ rfl
              have d3 : wr.cell? ⟨(ad.add (j * 5)).block, (ad.add (j * 5)).off + 3, none⟩ = some (.slice A3 bz.length cap3) := hat' 3 _ rfl
              have d4 : wr.cell? ⟨(ad.add (j * 5)).block, (ad.add (j * 5)).off + 4, none⟩ = some (.slice F3 fz.length fcap3) := hat' 4 _ rfl
              obtain ⟨W1, hW1⟩ : ∃ W1, wr.alloc (.cells #[.int .i64 v0, .int .i64 v1, .bool v2, .slice A3 bz.length cap3, .slice F3 fz.length fcap3] 99) = W1 := ⟨_, rfl⟩
              have hbW1 : Below wr.heap.size wr W1 := by rw [← hW1]; exact bel1 _ _
              have hzW1 : wr.heap.size < W1.heap.size := by rw [← hW1]; simp
              have e1 : W1.heap[wr.heap.size]? = some (.cells #[.int .i64 v0, .int .i64 v1, .bool v2, .slice A3 bz.length cap3, .slice F3 fz.length fcap3] 99 (0, 0)) := by rw [← hW1]; exact heap_alloc_new wr _
              have hb1' : Below W0.heap.size W0 W1 := hb.trans (hbW1.mono hzr)
              have g3 := cell_of_row W1 wr.heap.size 3 _ _ _ e1
              simp at g3
              have hsrca := Lib.hid (SrcAt.keep xra (HSS.out W1 hb1') (by decide) (fun y hy => (xia y hy).len))
              have hfla := Lib.hid (flatD_len (l := bz) (c := 14) (fun y hy => (xia y hy).len))
              have hona := Lib.hid (ones_flat xia)
              have hlL : L1.length + bz.length ≤ 1048576 := by exact hlen1a
              have h3a : Hid (L1.length + bz.length ≤ maxLen) := by show _ ≤ _; unfold maxLen; omega
              have h4a : Hid ((L1.length + bz.length) * 184 ≤ 140737488355328) := by show _ ≤ _; omega
              have hzza : Hid (W0.heap.size ≤ W1.heap.size) := (hb1').size
              clear hlL
              have Ho2 := Lib.hid (ho.1.below rfl hbW1)
              have Ho := Lib.hid ho
              have Hx := Lib.hid hx
              have HxE := Lib.hid hxE
              have HW1 := Lib.hid hW1
              have E1 := Lib.hid e1
              have HL1 := Lib.hid hL1
              have Hl := Lib.hid hlen1
              clear hat hat' hxc hx2e hx hW1 e1 ho hxa hxE hL1 hlen1 hlen1a hle hbd
              go_upto_region 15 with (fail)
              rw [HW1.out]
              clear d0 d1 d2 d3 d4
              go_upto_region 16 with (at_builtin; refine wpList_append_row _ rfl _ _ 28 rfl W0.heap.size 31 i0 _ 14 184 Tryz.underlying28 hi iz isz iby rfl (by decide) u3 _ _ rfl Ho2.out.1 A3 bz.length cap3 (bz.flatMap DT.c) rfl hfla.out hsrca.out hona.out h3a.out h4a.out hzza.out ?_; intro sva wa howna hga hma)
              have hsta := Ho.out.step rfl hbW1 (k := bz) howna hga hma
              have ea := Ho.out.1.box hga hzW1
              have e4 := ea.trans E1.out
              have g4 := cell_of_row wa wr.heap.size 4 _ _ _ e4
              simp at g4
              have hba := hsta.1.2
              have hsrcb := Lib.hid (SrcAt.keep xrf (HSS.out wa hba) (by decide) (fun y hy => (xif y hy).len))
              have hflb := Lib.hid (flatD_len (l := fz) (c := 14) (fun y hy => (xif y hy).len))
              have honb := Lib.hid (ones_flat xif)
              have hlL : (L1 ++ bz).length + fz.length ≤ 1048576 := by rw [List.length_append]; exact Hl.out
              have h3b : Hid ((L1 ++ bz).length + fz.length ≤ maxLen) := by show _ ≤ _; unfold maxLen; omega
              have h4b : Hid (((L1 ++ bz).length + fz.length) * 184 ≤ 140737488355328) := by show _ ≤ _; omega
              have hzzb : Hid (W0.heap.size ≤ wa.heap.size) := (hba).size
              clear hlL
              have Hsta := Lib.hid hsta
              clear hsta ea e4 howna g3
              go_wp2_with (at_builtin; refine wpList_append_row _ rfl _ _ 28 rfl W0.heap.size 31 i0 _ 14 184 Tryz.underlying28 hi iz isz iby rfl (by decide) sva _ _ rfl Hsta.out.1.1 F3 fz.length fcap3 (fz.flatMap DT.c) rfl hflb.out hsrcb.out honb.out h3b.out h4b.out hzzb.out ?_; intro svb wb hownb hgb hmb)
              have hst := FlQ.step Hx.out (by have h := Hsta.out.step rfl (Below.refl _ _) (k := fz) hownb hgb hmb; rw [List.append_assoc, ← HxE.out, ← HL1.out] at h; exact h)
              have Hst := Lib.hid hst
              clear hst hownb
              go_roundw
              case rel => exact Hst.out
              case measure => simp [intOf]; omega
            · obtain rfl : j = g2.length := by omega
              rw [List.take_length] at ho
              have gg4 := cell_of_row wr wo.heap.size 4 _ _ _ ho.2.1
              simp at gg4
              have hsrcp := Lib.hid (SrcAt.keep xrp (HSS.out wr hb) (by decide) (fun y hy => (xip y hy).len))
              have hflp := Lib.hid (flatD_len (l := p2) (c := 14) (fun y hy => (xip y hy).len))
              have honp := Lib.hid (ones_flat xip)
              have hlL : (L3 ++ g2.flatMap aggE).length + p2.length ≤ 1048576 := by have := Hl.out; rw [← HL3.out]; simp only [List.length_append]; omega
              have h3p : Hid ((L3 ++ g2.flatMap aggE).length + p2.length ≤ maxLen) := by show _ ≤ _; unfold maxLen; omega
              have h4p : Hid (((L3 ++ g2.flatMap aggE).length + p2.length) * 184 ≤ 140737488355328) := by show _ ≤ _; omega
              have hzzp : Hid (W0.heap.size ≤ wr.heap.size) := (hb).size
              clear hlL
              have Ho3 := Lib.hid ho
              clear ho gg3 hlt
              go_upto_region 19 with (at_builtin; refine wpList_append_row _ rfl _ _ 28 rfl W0.heap.size 31 i0 _ 14 184 Tryz.underlying28 hi iz isz iby rfl (by decide) u3 _ _ rfl Ho3.out.1.1 P2 p2.length pc2 (p2.flatMap DT.c) rfl hflp.out hsrcp.out honp.out h3p.out h4p.out hzzp.out ?_; intro svp wp hownp hgp hmp)
              have hstp := Ho3.out.step rfl (Below.refl _ _) (k := p2) hownp hgp hmp
              have gg5 := cell_of_row wp wo.heap.size 5 _ _ _ hstp.2.1
              simp at gg5
              obtain ⟨L4, hL4⟩ : ∃ L4, L3 ++ g2.flatMap aggE ++ p2 = L4 := ⟨_, rfl⟩
              rw [hL4] at hstp
              have hbd4 : Hid (L4.length + (k2.flatMap (fun x => [keyE x])).length ≤ 1048576) := by show _ ≤ _; have := Hl.out; rw [← hL4, ← HL3.out, map_flat]; simp only [List.length_append, List.length_map]; omega
              have hlen4 : Hid (L4.length + k2.length + t2.length ≤ 1048576) := by show _ ≤ _; have := Hl.out; rw [← hL4, ← HL3.out]; simp only [List.length_append]; omega
              have HL4 := Lib.hid hL4
              have Hstp := Lib.hid hstp
              clear hstp hL4 hownp hgp hmp gg4 hb hzr
              go_wp2
              go_loopw [3, 69] (fun sv i wr => FlQ (fun x => [keyE x]) W0.heap.size W0 L4 k2 wo.heap.size (.cells #[.int .i64 y0, .int .i64 y1, .slice A2 az.length cap2, .slice G2 g2.length gc2, .slice P2 p2.length pc2, .slice K2 k2.length kc2, .slice T2 t2.length tc2, .int .i64 z7, .int .i64 z8, .int .i64 z9, .int .i64 z10, .int .i64 z11] 103 (0, 0)) sv i wr) (fun _ i _ => k2.length - (intOf i).toNat)
              case atStart => exact ⟨0, Nat.zero_le _, rfl, by simpa using Hstp.out⟩
              case round =>
                obtain ⟨j, hj, rfl, ho⟩ := hrel
                have hb := ho.1.2
                have hzr := hb.size
                by_cases hlt : j < k2.length
                · obtain ⟨x, ad, hx, rfl, hbx, hat⟩ := (xrk.keep (HSS.out wr hb) (fun _ h => h)).get hlt
                  have hxk := xik x (mem_of_get? hx)
                  have hle := len_take_flat2 (f := fun x => [keyE x]) j hx
                  have hbd := hbd4.out
                  obtain ⟨L1, hL1⟩ : ∃ L1, L4 ++ (k2.take j).flatMap (fun x => [keyE x]) = L1 := ⟨_, rfl⟩
                  have hlL : L1.length + 1 ≤ 1048576 := by rw [← hL1, List.length_append]; simp only [List.length_singleton] at hle; omega
                  rw [hL1] at ho
                  have Hat := Lib.hid hat
                  have hx16 := hxk.len
                  have hx14 := hxk.key.1.len
                  have HiK : Hid ((Tryz.prog.info? 105).map (·.size) = some x.c.length) := by show _ = _; rw [hx16]; exact sizeKey
                  have HiK2 : Hid ((Tryz.prog.info? 105).map (·.size) = some x.c.toArray.size) := by show _ = _; rw [List.size_toArray, hx16]; exact sizeKey
                  have HiE : Hid ((Tryz.prog.info? 31).map (·.size) = some (keyE x).c.length) := by show _ = _; rw [hx14]; exact sizeExpr
                  have Hz16 : Hid (x.c.toArray.size = 16) := by show _ = _; rw [List.size_toArray, hx16]; rfl
                  have Hz14 : Hid ((keyE x).c.toArray.size = 14) := by show _ = _; rw [List.size_toArray, hx14]; rfl
                  have H1 := Lib.hid (all_one hxk.ones)
                  have H1e := Lib.hid hxk.key.1.ones
                  have Hcell := Lib.hid (fun (j : Nat) (u : Value) (h : (keyE x).c[j]? = some u) => new_cellsT wr x.c 105 j u (hxk.key_pre h))
                  obtain ⟨W1, hW1⟩ : ∃ W1, wr.alloc (.cells x.c.toArray 105) = W1 := ⟨_, rfl⟩
                  have hbW1 : Below wr.heap.size wr W1 := by rw [← hW1]; exact bel1 _ _
                  have hb1' : Below W0.heap.size W0 W1 := hb.trans (hbW1.mono hzr)
                  have h3c : Hid (L1.length + 1 ≤ maxLen) := by show _ ≤ _; unfold maxLen; omega
                  have h4c : Hid ((L1.length + 1) * 184 ≤ 140737488355328) := by show _ ≤ _; omega
                  have hzzc : Hid (∀ o, W0.heap.size ≤ (W1.alloc o).heap.size) := fun o => by have := hb1'.size; simp; omega
                  have Ho2 := Lib.hid (ho.1.below rfl hbW1)
                  have Ho := Lib.hid ho
                  have Hx := Lib.hid hx
                  have HW1 := Lib.hid hW1
                  have HL1 := Lib.hid hL1
                  clear hat hx hW1 ho hxk hL1 hlL hle hbd hx16 hx14
                  go_upto_region 22 with (first | (refine wpList_load_st rfl 105 _ rfl _ Tryz.underlying105 rfl (ad.add (j * 16)) x.c HiK.out rfl Hat.out ?_) | (refine wpList_store_st rfl 105 _ _ rfl _ x.c.toArray HiK2.out Hz16.out.symm H1.out rfl rfl ?_))
                  go_wp2_with (first | (refine wpList_load_st rfl 31 _ rfl _ Tryz.underlying31 rfl ⟨wr.heap.size, 0, none⟩ (keyE x).c HiE.out rfl Hcell.out ?_; rw [HW1.out]) | (refine wpList_one_st rfl 28 31 _ rfl i0 Tryz.underlying28 hi _ iz (keyE x).c.toArray (isz.trans Hz14.out.symm) Hz14.out.symm (by rw [Hz14.out]; decide) (by rw [Hz14.out]; decide) rfl ?_) | (at_builtin; refine wpList_append_row _ rfl _ _ 28 rfl W0.heap.size 31 i0 _ 14 184 Tryz.underlying28 hi iz isz iby rfl (by decide) u3 _ _ rfl (Ho2.out.1.alloc _) (some ⟨W1.heap.size, 0, none⟩) 1 1 ((keyE x).c) rfl (by rw [← List.size_toArray, Hz14.out]) (new_src _ _ _) H1e.out h3c.out h4c.out (hzzc.out _) ?_; intro svc wc hownc hgc hmc))
                  have hst := FlQ.step (f := fun x => [keyE x]) Hx.out (by have h := Ho.out.step (k := [keyE x]) rfl (hbW1.trans ((bel1 _ _).mono hbW1.size)) (by simpa using hownc) hgc hmc; rw [← HL1.out] at h; exact h)
                  have Hst := Lib.hid hst
                  clear hst hownc
                  go_roundw
                  case rel => exact Hst.out
                  case measure => simp [intOf]; omega
                · obtain rfl : j = k2.length := by omega
                  rw [List.take_length] at ho
                  have gg6 := cell_of_row wr wo.heap.size 6 _ _ _ ho.2.1
                  simp at gg6
                  obtain ⟨L5, hL5⟩ : ∃ L5, L4 ++ k2.flatMap (fun x => [keyE x]) = L5 := ⟨_, rfl⟩
                  rw [hL5] at ho
                  have hbd5 : Hid (L5.length + (t2.flatMap (fun x => [keyE x])).length ≤ 1048576) := by show _ ≤ _; have := hlen4.out; rw [← hL5, map_flat, map_flat]; simp only [List.length_append, List.length_map]; omega
                  have HL5 := Lib.hid hL5
                  have Ho5 := Lib.hid ho
                  clear ho hL5 gg5 hb hzr hlt
                  go_wp2
                  go_loopw [3, 82] (fun sv i wr => FlQ (fun x => [keyE x]) W0.heap.size W0 L5 t2 wo.heap.size (.cells #[.int .i64 y0, .int .i64 y1, .slice A2 az.length cap2, .slice G2 g2.length gc2, .slice P2 p2.length pc2, .slice K2 k2.length kc2, .slice T2 t2.length tc2, .int .i64 z7, .int .i64 z8, .int .i64 z9, .int .i64 z10, .int .i64 z11] 103 (0, 0)) sv i wr) (fun _ i _ => t2.length - (intOf i).toNat)
                  case atStart => exact ⟨0, Nat.zero_le _, rfl, by simpa using Ho5.out⟩
                  case round =>
                    obtain ⟨j, hj, rfl, ho⟩ := hrel
                    have hb := ho.1.2
                    have hzr := hb.size
                    by_cases hlt : j < t2.length
                    · obtain ⟨x, ad, hx, rfl, hbx, hat⟩ := (xrt.keep (HSS.out wr hb) (fun _ h => h)).get hlt
                      have hxk := xit x (mem_of_get? hx)
                      have hle := len_take_flat2 (f := fun x => [keyE x]) j hx
                      have hbd := hbd5.out
                      obtain ⟨L1, hL1⟩ : ∃ L1, L5 ++ (t2.take j).flatMap (fun x => [keyE x]) = L1 := ⟨_, rfl⟩
                      have hlL : L1.length + 1 ≤ 1048576 := by rw [← hL1, List.length_append]; simp only [List.length_singleton] at hle; omega
                      rw [hL1] at ho
                      have Hat := Lib.hid hat
                      have hx16 := hxk.len
                      have hx14 := hxk.key.1.len
                      have HiK : Hid ((Tryz.prog.info? 105).map (·.size) = some x.c.length) := by show _ = _; rw [hx16]; exact sizeKey
                      have HiK2 : Hid ((Tryz.prog.info? 105).map (·.size) = some x.c.toArray.size) := by show _ = _; rw [List.size_toArray, hx16]; exact sizeKey
                      have HiE : Hid ((Tryz.prog.info? 31).map (·.size) = some (keyE x).c.length) := by show _ = _; rw [hx14]; exact sizeExpr
                      have Hz16 : Hid (x.c.toArray.size = 16) := by show _ = _; rw [List.size_toArray, hx16]; rfl
                      have Hz14 : Hid ((keyE x).c.toArray.size = 14) := by show _ = _; rw [List.size_toArray, hx14]; rfl
                      have H1 := Lib.hid (all_one hxk.ones)
                      have H1e := Lib.hid hxk.key.1.ones
                      have Hcell := Lib.hid (fun (j : Nat) (u : Value) (h : (keyE x).c[j]? = some u) => new_cellsT wr x.c 105 j u (hxk.key_pre h))
                      obtain ⟨W1, hW1⟩ : ∃ W1, wr.alloc (.cells x.c.toArray 105) = W1 := ⟨_, rfl⟩
                      have hbW1 : Below wr.heap.size wr W1 := by rw [← hW1]; exact bel1 _ _
                      have hb1' : Below W0.heap.size W0 W1 := hb.trans (hbW1.mono hzr)
                      have h3c : Hid (L1.length + 1 ≤ maxLen) := by show _ ≤ _; unfold maxLen; omega
                      have h4c : Hid ((L1.length + 1) * 184 ≤ 140737488355328) := by show _ ≤ _; omega
                      have hzzc : Hid (∀ o, W0.heap.size ≤ (W1.alloc o).heap.size) := fun o => by have := hb1'.size; simp; omega
                      have Ho2 := Lib.hid (ho.1.below rfl hbW1)
                      have Ho := Lib.hid ho
                      have Hx := Lib.hid hx
                      have HW1 := Lib.hid hW1
                      have HL1 := Lib.hid hL1
                      clear hat hx hW1 ho hxk hL1 hlL hle hbd hx16 hx14
                      go_upto_region 27 with (first | (refine wpList_load_st rfl 105 _ rfl _ Tryz.underlying105 rfl (ad.add (j * 16)) x.c HiK.out rfl Hat.out ?_) | (refine wpList_store_st rfl 105 _ _ rfl _ x.c.toArray HiK2.out Hz16.out.symm H1.out rfl rfl ?_))
                      go_wp2_with (first | (refine wpList_load_st rfl 31 _ rfl _ Tryz.underlying31 rfl ⟨wr.heap.size, 0, none⟩ (keyE x).c HiE.out rfl Hcell.out ?_; rw [HW1.out]) | (refine wpList_one_st rfl 28 31 _ rfl i0 Tryz.underlying28 hi _ iz (keyE x).c.toArray (isz.trans Hz14.out.symm) Hz14.out.symm (by rw [Hz14.out]; decide) (by rw [Hz14.out]; decide) rfl ?_) | (at_builtin; refine wpList_append_row _ rfl _ _ 28 rfl W0.heap.size 31 i0 _ 14 184 Tryz.underlying28 hi iz isz iby rfl (by decide) u3 _ _ rfl (Ho2.out.1.alloc _) (some ⟨W1.heap.size, 0, none⟩) 1 1 ((keyE x).c) rfl (by rw [← List.size_toArray, Hz14.out]) (new_src _ _ _) H1e.out h3c.out h4c.out (hzzc.out _) ?_; intro svc wc hownc hgc hmc))
                      have hst := FlQ.step (f := fun x => [keyE x]) Hx.out (by have h := Ho.out.step (k := [keyE x]) rfl (hbW1.trans ((bel1 _ _).mono hbW1.size)) (by simpa using hownc) hgc hmc; rw [← HL1.out] at h; exact h)
                      have Hst := Lib.hid hst
                      clear hst hownc
                      go_roundw
                      case rel => exact Hst.out
                      case measure => simp [intOf]; omega
                    · obtain rfl : j = t2.length := by omega
                      rw [List.take_length] at ho
                      have hst := FlQ.step (f := winE) Hx.out (by have h := ho.1.old HP0.out (by have := Hz0.out; omega); rw [← HL5.out, ← HL4.out, ← HL3.out, map_flat, map_flat] at h; rw [HxE.out, HL2.out, List.map_append]; simp only [List.append_assoc] at h ⊢; exact h)
                      have Hst := Lib.hid hst
                      clear hst ho gg6 hlt
                      go_wp2
                      go_roundw
                      case rel => exact Hst.out
                      case measure => simp [intOf]; omega
        · obtain rfl : j = ws.length := by omega
          rw [List.take_length] at ho
          have p11 := cell_of_row wr w.heap.size 11 _ _ _ ho.2.1
          simp at p11
          have Hq6 := Lib.hid ho
          clear ho p10 hb hzr hlt
          go_wp2
          go_loopw [3, 96] (fun sv i wr => FlQ (fun x => [keyE x]) W0.heap.size W0 (es ++ gs.flatMap aggE ++ ws.flatMap winE) ks w.heap.size (.cells #[.int .i64 a.k, .int .i64 a.op, .string a.nm, .bool a.all, .slice a.TA a.tl a.tc, .slice a.RA a.rl a.rc, .slice IA is.length icap, .slice EA es.length ecap, .slice a.SA a.sl a.sc, .slice GA gs.length gcap, .slice WA ws.length wcap, .slice KA ks.length kcap, .int .i64 a.off, .int .i64 a.cnt] 59 (0, 0)) sv i wr) (fun _ i _ => ks.length - (intOf i).toNat)
          case atStart => exact ⟨0, Nat.zero_le _, rfl, by simpa using Hq6.out⟩
          case round =>
            obtain ⟨j, hj, rfl, ho⟩ := hrel
            have hb := ho.1.2
            have hzr := hb.size
            by_cases hlt : j < ks.length
            · obtain ⟨x, ad, hx, rfl, hbx, hat⟩ := (rk.keep (HSS.out wr hb) (fun _ h => h)).get hlt
              have hxk := ik x (mem_of_get? hx)
              have hle := len_take_flat2 (f := fun x => [keyE x]) j hx
              have hbd := hb6.out
              obtain ⟨L1, hL1⟩ : ∃ L1, (es ++ gs.flatMap aggE ++ ws.flatMap winE) ++ (ks.take j).flatMap (fun x => [keyE x]) = L1 := ⟨_, rfl⟩
              have hlL : L1.length + 1 ≤ 1048576 := by rw [← hL1, List.length_append]; simp only [List.length_singleton] at hle; omega
              rw [hL1] at ho
              have Hat := Lib.hid hat
              have hx16 := hxk.len
              have hx14 := hxk.key.1.len
              have HiK : Hid ((Tryz.prog.info? 105).map (·.size) = some x.c.length) := by show _ = _; rw [hx16]; exact sizeKey
              have HiK2 : Hid ((Tryz.prog.info? 105).map (·.size) = some x.c.toArray.size) := by show _ = _; rw [List.size_toArray, hx16]; exact sizeKey
              have HiE : Hid ((Tryz.prog.info? 31).map (·.size) = some (keyE x).c.length) := by show _ = _; rw [hx14]; exact sizeExpr
              have Hz16 : Hid (x.c.toArray.size = 16) := by show _ = _; rw [List.size_toArray, hx16]; rfl
              have Hz14 : Hid ((keyE x).c.toArray.size = 14) := by show _ = _; rw [List.size_toArray, hx14]; rfl
              have H1 := Lib.hid (all_one hxk.ones)
              have H1e := Lib.hid hxk.key.1.ones
              have Hcell := Lib.hid (fun (j : Nat) (u : Value) (h : (keyE x).c[j]? = some u) => new_cellsT wr x.c 105 j u (hxk.key_pre h))
              obtain ⟨W1, hW1⟩ : ∃ W1, wr.alloc (.cells x.c.toArray 105) = W1 := ⟨_, rfl⟩
              have hbW1 : Below wr.heap.size wr W1 := by rw [← hW1]; exact bel1 _ _
              have hb1' : Below W0.heap.size W0 W1 := hb.trans (hbW1.mono hzr)
              have h3c : Hid (L1.length + 1 ≤ maxLen) := by show _ ≤ _; unfold maxLen; omega
              have h4c : Hid ((L1.length + 1) * 184 ≤ 140737488355328) := by show _ ≤ _; omega
              have hzzc : Hid (∀ o, W0.heap.size ≤ (W1.alloc o).heap.size) := fun o => by have := hb1'.size; simp; omega
              have Ho2 := Lib.hid (ho.1.below rfl hbW1)
              have Ho := Lib.hid ho
              have Hx := Lib.hid hx
              have HW1 := Lib.hid hW1
              have HL1 := Lib.hid hL1
              clear hat hx hW1 ho hxk hL1 hlL hle hbd hx16 hx14
              go_upto_region 33 with (first | (refine wpList_load_st rfl 105 _ rfl _ Tryz.underlying105 rfl (ad.add (j * 16)) x.c HiK.out rfl Hat.out ?_) | (refine wpList_store_st rfl 105 _ _ rfl _ x.c.toArray HiK2.out Hz16.out.symm H1.out rfl rfl ?_))
              go_wp2_with (first | (refine wpList_load_st rfl 31 _ rfl _ Tryz.underlying31 rfl ⟨wr.heap.size, 0, none⟩ (keyE x).c HiE.out rfl Hcell.out ?_; rw [HW1.out]) | (refine wpList_one_st rfl 28 31 _ rfl i0 Tryz.underlying28 hi _ iz (keyE x).c.toArray (isz.trans Hz14.out.symm) Hz14.out.symm (by rw [Hz14.out]; decide) (by rw [Hz14.out]; decide) rfl ?_) | (at_builtin; refine wpList_append_row _ rfl _ _ 28 rfl W0.heap.size 31 i0 _ 14 184 Tryz.underlying28 hi iz isz iby rfl (by decide) u3 _ _ rfl (Ho2.out.1.alloc _) (some ⟨W1.heap.size, 0, none⟩) 1 1 ((keyE x).c) rfl (by rw [← List.size_toArray, Hz14.out]) (new_src _ _ _) H1e.out h3c.out h4c.out (hzzc.out _) ?_; intro svc wc hownc hgc hmc))
              have hst := FlQ.step (f := fun x => [keyE x]) Hx.out (by have h := Ho.out.step (k := [keyE x]) rfl (hbW1.trans ((bel1 _ _).mono hbW1.size)) (by simpa using hownc) hgc hmc; rw [← HL1.out] at h; exact h)
              have Hst := Lib.hid hst
              clear hst hownc
              go_roundw
              case rel => exact Hst.out
              case measure => simp [intOf]; omega
            · obtain rfl : j = ks.length := by omega
              rw [List.take_length, map_flat] at ho
              have Ho' := Lib.hid ho.1
              clear ho
              go_wp2
              go_ret
              exact ⟨_, rfl, own_base Ho'.out.1 hbw.size, hbw.trans (Ho'.out.2.mono hbw.size)⟩
end Go.Proofs.YthijagpnpcpcbaaGreat

