/-
  The expressions right in a relation, walked.
-/
import Derived.Test.YtoeamomklmoncaaDtE
namespace Go.Proofs.Ytoeamomklmoncaa
open Go.RowKit
/-- What a loop over structs with expressions has at its head. -/
def FlRel (f : DT → List DT) (B0 : Nat) (W0 : World) (L gs : List DT) (sv i : Value) (wr : World) : Prop := ∃ j : Nat, j ≤ gs.length ∧ i = .int .i64 j ∧ OwnL B0 W0 (L ++ (gs.take j).flatMap f) sv wr
theorem FlRel.step {f : DT → List DT} {B0 : Nat} {W0 w3 : World} {L gs : List DT} {sv' : Value} {j : Nat} {x : DT} (hx : gs[j]? = some x) (h : OwnL B0 W0 (L ++ (gs.take j).flatMap f ++ f x) sv' w3) : FlRel f B0 W0 L gs sv' (.int .i64 ((j : Int) + 1)) w3 := by
  refine ⟨j + 1, (List.getElem?_eq_some_iff.1 hx).1, by simp, ?_⟩
  rw [List.take_add_one, hx, List.flatMap_append]
  simpa using h
theorem map_flat (l : List DT) : l.flatMap (fun x => [keyE x]) = l.map keyE := List.map_eq_flatMap.symm
theorem DT.In.winE {S : Nat → Prop} {w : World} {d : DT} (h : DT.In S w .win d) : ∀ x, x ∈ winE d → DT.In S w .expr x := by
  obtain ⟨k, n, A, cap, az, G, gcap, gs, P, pcap, ps, K, kcap, ks, T, tcap, ts, u, fk, fn, tk, tn, hd⟩ := h.win
  obtain ⟨he, ra, rg, rp, rk, rt, ia, ig, ip, ik, it⟩ := hd
  subst he
  intro x hx
  rcases List.mem_append.1 (show x ∈ az ++ gs.flatMap Go.Proofs.Ytoeamomklmoncaa.aggE ++ ps ++ (ks ++ ts).map keyE from hx) with hx | hx
  · rcases List.mem_append.1 hx with hx | hx
    · rcases List.mem_append.1 hx with hx | hx
      · exact ia x hx
      · obtain ⟨y, hy, hxy⟩ := List.mem_flatMap.1 hx
        exact (ig y hy).aggE x hxy
    · exact ip x hx
  · obtain ⟨y, hy, rfl⟩ := List.mem_map.1 hx
    rcases List.mem_append.1 hy with hy | hy
    · exact (ik y hy).key.1
    · exact (it y hy).key.1
set_option maxRecDepth 100000 in
set_option maxHeartbeats 8000000 in
theorem mexprsOf_any (d : DT) (S : Nat → Prop) (w : World) (hd : DT.In S w .rel d) (hS : ∀ k, S k → k < w.heap.size) (hn : d.n ≤ 1048576) :
    Calls Try.prog 17 #[.agg d.c.toArray] w (ExPost (relE d) w) := by
  obtain ⟨i0, hi, iz, isz, iby⟩ := info_parts infoExpr
  obtain ⟨a, IA, icap, is, EA, ecap, es, GA, gcap, gs, WA, wcap, ws, KA, kcap, ks, h⟩ := hd.rel
  obtain ⟨he, _, _, ri, re, rg, rwi, rk, ii, ie, ig, iw, ik⟩ := h
  subst he
  show Calls _ _ #[.agg #[.int .i64 a.k, .int .i64 a.op, .string a.nm, .bool a.all, .slice a.TA a.tl a.tc, .slice a.RA a.rl a.rc, .slice IA is.length icap, .slice EA es.length ecap, .slice a.SA a.sl a.sc, .slice GA gs.length gcap, .slice WA ws.length wcap, .slice KA ks.length kcap, .int .i64 a.off, .int .i64 a.cnt]] _ (ExPost (es ++ gs.flatMap aggE ++ ws.flatMap winE ++ ks.map keyE) w)
  rw [DT.n_node] at hn
  have hsum : nL is + nL es + nL gs + nL ws + nL ks + 1 ≤ 1048576 := by simp at hn; omega
  have le := len_nL es
  have lg := len_nL gs
  have lw := len_nL ws
  have lk := len_nL ks
  have lga := len_flat (f := aggE) (l := gs) fun y hy => (ig y hy).aggLen
  have lwa := len_flat (f := winE) (l := ws) fun y hy => (iw y hy).winLen
  obtain ⟨W0, hW0⟩ : ∃ W0, w.alloc (.cells #[.int .i64 a.k, .int .i64 a.op, .string a.nm, .bool a.all, .slice a.TA a.tl a.tc, .slice a.RA a.rl a.rc, .slice IA is.length icap, .slice EA es.length ecap, .slice a.SA a.sl a.sc, .slice GA gs.length gcap, .slice WA ws.length wcap, .slice KA ks.length kcap, .int .i64 a.off, .int .i64 a.cnt] 31) = W0 := ⟨_, rfl⟩
  have hbw : Below w.heap.size w W0 := by rw [← hW0]; exact bel1 _ _
  have hz0 : W0.heap.size = w.heap.size + 1 := by rw [← hW0]; simp
  have P0 : W0.heap[w.heap.size]? = some (.cells #[.int .i64 a.k, .int .i64 a.op, .string a.nm, .bool a.all, .slice a.TA a.tl a.tc, .slice a.RA a.rl a.rc, .slice IA is.length icap, .slice EA es.length ecap, .slice a.SA a.sl a.sc, .slice GA gs.length gcap, .slice WA ws.length wcap, .slice KA ks.length kcap, .int .i64 a.off, .int .i64 a.cnt] 31 (0, 0)) := by rw [← hW0]; exact heap_alloc_new w _
  have hk : Hid (∀ W, Below W0.heap.size W0 W → W.cell? ⟨w.heap.size, 7, none⟩ = some (.slice EA es.length ecap) ∧ W.cell? ⟨w.heap.size, 9, none⟩ = some (.slice GA gs.length gcap) ∧ W.cell? ⟨w.heap.size, 10, none⟩ = some (.slice WA ws.length wcap) ∧ W.cell? ⟨w.heap.size, 11, none⟩ = some (.slice KA ks.length kcap)) := fun W h => by
    have Q0 := (h.block w.heap.size (by omega)).trans P0
    exact ⟨cell_of_row W w.heap.size 7 _ _ _ Q0, cell_of_row W w.heap.size 9 _ _ _ Q0, cell_of_row W w.heap.size 10 _ _ _ Q0, cell_of_row W w.heap.size 11 _ _ _ Q0⟩
  have hSS : ∀ W, Below W0.heap.size W0 W → ∀ k, S k → W.heap[k]? = w.heap[k]? := fun W h k hk => (h.block k (by have := hS k hk; omega)).trans (hbw.block k (hS k hk))
  have hcl := Lib.hid (cloneE_any EA ecap es S W0 (re.keep (hSS W0 (Below.refl _ _)) (fun _ h => h)) (fun x hx => (ie x hx).len) (fun x hx => (ie x hx).ones) (by omega))
  have HW0 := Lib.hid hW0
  have Hz0 := Lib.hid hz0
  have HSS := Lib.hid hSS
  have HS := Lib.hid hS
  clear hW0 hz0 P0 hSS hd hn hS
  go_enter Try.func17, Try.ntmps17
  go_wp2_with fail
  rw [HW0.out]
  refine hcl.out.mono ?_
  rintro e w1 ⟨v1, rfl, hown1, hb1⟩
  have ho1 : OwnL W0.heap.size W0 es v1 w1 := ⟨hown1, hb1⟩
  obtain ⟨p7, p9, p10, p11⟩ := hk.out w1 hb1
  have Ho1 := Lib.hid ho1
  clear ho1 hown1
  go_wp2
  go_loopw [3, 16] (fun sv i wr => FlRel aggE W0.heap.size W0 es gs sv i wr) (fun _ i _ => gs.length - (intOf i).toNat)
  case atStart => exact ⟨0, Nat.zero_le _, rfl, by simpa using Ho1.out⟩
  case round =>
    obtain ⟨j, hj, rfl, ho⟩ := hrel
    have hb := ho.2
    have hzr := hb.size
    try clear p7 p9 p10 p11
    obtain ⟨p7, p9, p10, p11⟩ := hk.out wr hb
    by_cases hlt : j < gs.length
    · obtain ⟨x, ad, hx, rfl, hbx, hat⟩ := (rg.keep (HSS.out wr hb) (fun _ h => h)).get hlt
      have hxa := ig x (mem_of_get? hx)
      have hxn : x.n ≤ 1048576 := by have := n_mem (mem_of_get? hx); omega
      have hex : Hid (∀ W, Below W0.heap.size W0 W → Calls Try.prog 24 #[.agg x.c.toArray] W (ExPost (aggE x) W)) := fun W h => mexprsOfAgg_any x S W (hxa.keep (HSS.out W h) (fun _ h => h)) (fun k hk => by have := HS.out k hk; have := h.size; have := Hz0.out; omega) hxn
      have hle := len_take_flat (f := aggE) (fun y hy => (ig y hy).aggLen) j hx
      have hin := hxa.aggE
      obtain ⟨y0, y1, y2, A2, cap2, bz, F2, fcap2, fz, hx2⟩ := hxa.agg
      have hx2e := hx2.e
      obtain ⟨W1, hW1⟩ : ∃ W1, wr.alloc (.cells #[.int .i64 y0, .int .i64 y1, .bool y2, .slice A2 bz.length cap2, .slice F2 fz.length fcap2] 64) = W1 := ⟨_, rfl⟩
      have hbW1 : Below wr.heap.size wr W1 := by rw [← hW1]; exact bel1 _ _
      have hb1' : Below W0.heap.size W0 W1 := hb.trans (hbW1.mono hzr)
      have hxc : x.c = [.int .i64 y0, .int .i64 y1, .bool y2, .slice A2 bz.length cap2, .slice F2 fz.length fcap2] := by rw [hx2e]; rfl
      have hex1 := hex.out W1 hb1'
      rw [hxc] at hex1
      have hat' := fun (k : Nat) (u : Value) (h : ([.int .i64 y0, .int .i64 y1, .bool y2, .slice A2 bz.length cap2, .slice F2 fz.length fcap2] : List Value)[k]? = some u) => hat k u (by rw [hxc]; exact h)
      have d0 : wr.cell? (ad.add (j * 5)) = some (.int .i64 y0) := hat' 0 _ rfl
      have d1 : wr.cell? ⟨(ad.add (j * 5)).block, (ad.add (j * 5)).off + 1, none⟩ = some (.int .i64 y1) := hat' 1 _ rfl
      have d2 : wr.cell? ⟨(ad.add (j * 5)).block, (ad.add (j * 5)).off + 2, none⟩ = some (.bool y2) := hat' 2 _ rfl
      have d3 : wr.cell? ⟨(ad.add (j * 5)).block, (ad.add (j * 5)).off + 3, none⟩ = some (.slice A2 bz.length cap2) := hat' 3 _ rfl
      have d4 : wr.cell? ⟨(ad.add (j * 5)).block, (ad.add (j * 5)).off + 4, none⟩ = some (.slice F2 fz.length fcap2) := hat' 4 _ rfl
      have Hex1 := Lib.hid hex1
      have Hx := Lib.hid hx
      have HW1 := Lib.hid hW1
      have Hin := Lib.hid hin
      have Ho := Lib.hid ho
      clear hat hat' hx2 hx2e hxc hex hex1 hx hW1 hxa hin ho
      go_wp2_with fail
      rw [HW1.out]
      refine Hex1.out.mono ?_
      rintro e w2 ⟨v2, rfl, hown2, hb2⟩
      obtain ⟨A3, cap3, rfl, hrow3, _⟩ := own_structs hown2 rfl (fun y hy => (Hin.out y hy).len)
      have hbr2 : Below wr.heap.size wr w2 := hbW1.trans (hb2.mono hbW1.size)
      have hsrc := Lib.hid (hrow3.src (by decide) (fun y hy => (Hin.out y hy).len))
      have hfl := Lib.hid (flatD_len (l := aggE x) (c := 14) (fun y hy => (Hin.out y hy).len))
      have hon := Lib.hid (ones_flat Hin.out)
      have hlL : (es ++ (gs.take j).flatMap aggE).length + (aggE x).length ≤ 1048576 := by simp only [List.length_append] at *; omega
      have h3 : Hid ((es ++ (gs.take j).flatMap aggE).length + (aggE x).length ≤ maxLen) := by show _ ≤ _; unfold maxLen; omega
      have h4 : Hid (((es ++ (gs.take j).flatMap aggE).length + (aggE x).length) * 184 ≤ 140737488355328) := by show _ ≤ _; omega
      have hzz : Hid (W0.heap.size ≤ w2.heap.size) := Nat.le_trans hzr hbr2.size
      have Ho2 := Lib.hid (Ho.out.below rfl hbr2)
      clear hown2 hrow3 d0 d1 d2 d3 d4
      go_wp2_with (at_builtin; refine wpList_append_row _ rfl _ _ 25 rfl W0.heap.size 49 i0 _ 14 184 Try.underlying25 hi iz isz iby rfl (by decide) u3 _ _ rfl Ho2.out.1 A3 (aggE x).length cap3 ((aggE x).flatMap DT.c) rfl hfl.out hsrc.out hon.out h3.out h4.out hzz.out ?_; intro sv' w3 hown3 hg3 hm3)
      have hst := FlRel.step Hx.out (Ho.out.step rfl hbr2 hown3 hg3)
      have Hst := Lib.hid hst
      clear hst hown3
      go_roundw
      case rel => exact Hst.out
      case measure => simp [intOf]; omega
    · obtain rfl : j = gs.length := by omega
      rw [List.take_length] at ho
      have Ho0 := Lib.hid ho
      clear ho
      go_wp2
      go_loopw [3, 28] (fun sv i wr => FlRel winE W0.heap.size W0 (es ++ gs.flatMap aggE) ws sv i wr) (fun _ i _ => ws.length - (intOf i).toNat)
      case atStart => exact ⟨0, Nat.zero_le _, rfl, by simpa using Ho0.out⟩
      case round =>
        clear hb hzr hlt
        obtain ⟨j, hj, rfl, ho⟩ := hrel
        have hb := ho.2
        have hzr := hb.size
        try clear p7 p9 p10 p11
        obtain ⟨p7, p9, p10, p11⟩ := hk.out wr hb
        by_cases hlt : j < ws.length
        · obtain ⟨x, ad, hx, rfl, hbx, hat⟩ := (rwi.keep (HSS.out wr hb) (fun _ h => h)).get hlt
          have hxa := iw x (mem_of_get? hx)
          have hxn : x.n ≤ 1048576 := by have := n_mem (mem_of_get? hx); omega
          have hex : Hid (∀ W, Below W0.heap.size W0 W → Calls Try.prog 25 #[.agg x.c.toArray] W (ExPost (winE x) W)) := fun W h => mexprsOfWindow_any x S W (hxa.keep (HSS.out W h) (fun _ h => h)) (fun k hk => by have := HS.out k hk; have := h.size; have := Hz0.out; omega) hxn
          have hle := len_take_flat (f := winE) (fun y hy => (iw y hy).winLen) j hx
          have hin := hxa.winE
          obtain ⟨y0, y1, A2, cap2, bz, G2, gc2, g2, P2, pc2, p2z, K2, kc2, k2z, T2, tc2, t2z, z7, z8, z9, z10, z11, hx2⟩ := hxa.win
          have hx2e := hx2.e
          obtain ⟨W1, hW1⟩ : ∃ W1, wr.alloc (.cells #[.int .i64 y0, .int .i64 y1, .slice A2 bz.length cap2, .slice G2 g2.length gc2, .slice P2 p2z.length pc2, .slice K2 k2z.length kc2, .slice T2 t2z.length tc2, .int .i64 z7, .int .i64 z8, .int .i64 z9, .int .i64 z10, .int .i64 z11] 68) = W1 := ⟨_, rfl⟩
          have hbW1 : Below wr.heap.size wr W1 := by rw [← hW1]; exact bel1 _ _
          have hb1' : Below W0.heap.size W0 W1 := hb.trans (hbW1.mono hzr)
          have hxc : x.c = [.int .i64 y0, .int .i64 y1, .slice A2 bz.length cap2, .slice G2 g2.length gc2, .slice P2 p2z.length pc2, .slice K2 k2z.length kc2, .slice T2 t2z.length tc2, .int .i64 z7, .int .i64 z8, .int .i64 z9, .int .i64 z10, .int .i64 z11] := by rw [hx2e]; rfl
          have hex1 := hex.out W1 hb1'
          rw [hxc] at hex1
          have hat' := fun (k : Nat) (u : Value) (h : ([.int .i64 y0, .int .i64 y1, .slice A2 bz.length cap2, .slice G2 g2.length gc2, .slice P2 p2z.length pc2, .slice K2 k2z.length kc2, .slice T2 t2z.length tc2, .int .i64 z7, .int .i64 z8, .int .i64 z9, .int .i64 z10, .int .i64 z11] : List Value)[k]? = some u) => hat k u (by rw [hxc]; exact h)
          have d0 : wr.cell? (ad.add (j * 12)) = some (.int .i64 y0) := hat' 0 _ rfl
          have d1 : wr.cell? ⟨(ad.add (j * 12)).block, (ad.add (j * 12)).off + 1, none⟩ = some (.int .i64 y1) := hat' 1 _ rfl
          have d2 : wr.cell? ⟨(ad.add (j * 12)).block, (ad.add (j * 12)).off + 2, none⟩ = some (.slice A2 bz.length cap2) := hat' 2 _ rfl
          have d3 : wr.cell? ⟨(ad.add (j * 12)).block, (ad.add (j * 12)).off + 3, none⟩ = some (.slice G2 g2.length gc2) := hat' 3 _ rfl
          have d4 : wr.cell? ⟨(ad.add (j * 12)).block, (ad.add (j * 12)).off + 4, none⟩ = some (.slice P2 p2z.length pc2) := hat' 4 _ rfl
          have d5 : wr.cell? ⟨(ad.add (j * 12)).block, (ad.add (j * 12)).off + 5, none⟩ = some (.slice K2 k2z.length kc2) := hat' 5 _ rfl
          have d6 : wr.cell? ⟨(ad.add (j * 12)).block, (ad.add (j * 12)).off + 6, none⟩ = some (.slice T2 t2z.length tc2) := hat' 6 _ rfl
          have d7 : wr.cell? ⟨(ad.add (j * 12)).block, (ad.add (j * 12)).off + 7, none⟩ = some (.int .i64 z7) := hat' 7 _ rfl
          have d8 : wr.cell? ⟨(ad.add (j * 12)).block, (ad.add (j * 12)).off + 8, none⟩ = some (.int .i64 z8) := hat' 8 _ rfl
          have d9 : wr.cell? ⟨(ad.add (j * 12)).block, (ad.add (j * 12)).off + 9, none⟩ = some (.int .i64 z9) := hat' 9 _ rfl
          have d10 : wr.cell? ⟨(ad.add (j * 12)).block, (ad.add (j * 12)).off + 10, none⟩ = some (.int .i64 z10) := hat' 10 _ rfl
          have d11 : wr.cell? ⟨(ad.add (j * 12)).block, (ad.add (j * 12)).off + 11, none⟩ = some (.int .i64 z11) := hat' 11 _ rfl
          have Hex1 := Lib.hid hex1
          have Hx := Lib.hid hx
          have HW1 := Lib.hid hW1
          have Hin := Lib.hid hin
          have Ho := Lib.hid ho
          clear hat hat' hx2 hx2e hxc hex hex1 hx hW1 hxa hin ho
          go_wp2_with fail
          rw [HW1.out]
          refine Hex1.out.mono ?_
          rintro e w2 ⟨v2, rfl, hown2, hb2⟩
          obtain ⟨A3, cap3, rfl, hrow3, _⟩ := own_structs hown2 rfl (fun y hy => (Hin.out y hy).len)
          have hbr2 : Below wr.heap.size wr w2 := hbW1.trans (hb2.mono hbW1.size)
          have hsrc := Lib.hid (hrow3.src (by decide) (fun y hy => (Hin.out y hy).len))
          have hfl := Lib.hid (flatD_len (l := winE x) (c := 14) (fun y hy => (Hin.out y hy).len))
          have hon := Lib.hid (ones_flat Hin.out)
          have hlL : ((es ++ gs.flatMap aggE) ++ (ws.take j).flatMap winE).length + (winE x).length ≤ 1048576 := by simp only [List.length_append] at *; omega
          have h3 : Hid (((es ++ gs.flatMap aggE) ++ (ws.take j).flatMap winE).length + (winE x).length ≤ maxLen) := by show _ ≤ _; unfold maxLen; omega
          have h4 : Hid ((((es ++ gs.flatMap aggE) ++ (ws.take j).flatMap winE).length + (winE x).length) * 184 ≤ 140737488355328) := by show _ ≤ _; omega
          have hzz : Hid (W0.heap.size ≤ w2.heap.size) := Nat.le_trans hzr hbr2.size
          have Ho2 := Lib.hid (Ho.out.below rfl hbr2)
          clear hown2 hrow3 d0 d1 d2 d3 d4 d5 d6 d7 d8 d9 d10 d11
          go_wp2_with (at_builtin; refine wpList_append_row _ rfl _ _ 25 rfl W0.heap.size 49 i0 _ 14 184 Try.underlying25 hi iz isz iby rfl (by decide) u3 _ _ rfl Ho2.out.1 A3 (winE x).length cap3 ((winE x).flatMap DT.c) rfl hfl.out hsrc.out hon.out h3.out h4.out hzz.out ?_; intro sv' w3 hown3 hg3 hm3)
          have hst := FlRel.step Hx.out (Ho.out.step rfl hbr2 hown3 hg3)
          have Hst := Lib.hid hst
          clear hst hown3
          go_roundw
          case rel => exact Hst.out
          case measure => simp [intOf]; omega
        · obtain rfl : j = ws.length := by omega
          rw [List.take_length] at ho
          have Ho00 := Lib.hid ho
          clear ho
          go_wp2
          go_loopw [3, 40] (fun sv i wr => FlRel (fun x => [keyE x]) W0.heap.size W0 (es ++ gs.flatMap aggE ++ ws.flatMap winE) ks sv i wr) (fun _ i _ => ks.length - (intOf i).toNat)
          case atStart => exact ⟨0, Nat.zero_le _, rfl, by simpa using Ho00.out⟩
          case round =>
            clear hb hzr hlt p7 p9 p10 p11
            obtain ⟨j, hj, rfl, ho⟩ := hrel
            have hb := ho.2
            have hzr := hb.size
            by_cases hlt : j < ks.length
            · obtain ⟨x, ad, hx, rfl, hbx, hat⟩ := (rk.keep (HSS.out wr hb) (fun _ h => h)).get hlt
              have hxk := ik x (mem_of_get? hx)
              obtain ⟨hxe, dn, fi, hxc, _⟩ := hxk.key
              obtain ⟨b, A2, cap2, bz, B2, bcap2, ss, hxd⟩ := hxe.expr
              have hkc : (keyE x).c = [.int .i64 b.k, .int .i64 b.op, .int .i64 b.up, .int .i64 b.pos, .int .i64 b.tk, .int .i64 b.tsc, .slice b.TA b.tl b.tc, .int .i64 b.vk, .int .i64 b.vn, .int .i64 b.vsc, .string b.s, .slice b.VA b.vl b.vc, .slice A2 bz.length cap2, .slice B2 ss.length bcap2] := by rw [hxd.e]; rfl
              rw [hkc] at hxc
              have hat' := fun (k : Nat) (u : Value) (h : ([.int .i64 b.k, .int .i64 b.op, .int .i64 b.up, .int .i64 b.pos, .int .i64 b.tk, .int .i64 b.tsc, .slice b.TA b.tl b.tc, .int .i64 b.vk, .int .i64 b.vn, .int .i64 b.vsc, .string b.s, .slice b.VA b.vl b.vc, .slice A2 bz.length cap2, .slice B2 ss.length bcap2, .bool dn, .bool fi] : List Value)[k]? = some u) => hat k u (by rw [hxc]; exact h)
              have d0 : wr.cell? (ad.add (j * 16)) = some (.int .i64 b.k) := hat' 0 _ rfl
              have d1 : wr.cell? ⟨(ad.add (j * 16)).block, (ad.add (j * 16)).off + 1, none⟩ = some (.int .i64 b.op) := hat' 1 _ rfl
              have d2 : wr.cell? ⟨(ad.add (j * 16)).block, (ad.add (j * 16)).off + 2, none⟩ = some (.int .i64 b.up) := hat' 2 _ rfl
              have d3 : wr.cell? ⟨(ad.add (j * 16)).block, (ad.add (j * 16)).off + 3, none⟩ = some (.int .i64 b.pos) := hat' 3 _ rfl
              have d4 : wr.cell? ⟨(ad.add (j * 16)).block, (ad.add (j * 16)).off + 4, none⟩ = some (.int .i64 b.tk) := hat' 4 _ rfl
              have d5 : wr.cell? ⟨(ad.add (j * 16)).block, (ad.add (j * 16)).off + 5, none⟩ = some (.int .i64 b.tsc) := hat' 5 _ rfl
              have d6 : wr.cell? ⟨(ad.add (j * 16)).block, (ad.add (j * 16)).off + 6, none⟩ = some (.slice b.TA b.tl b.tc) := hat' 6 _ rfl
              have d7 : wr.cell? ⟨(ad.add (j * 16)).block, (ad.add (j * 16)).off + 7, none⟩ = some (.int .i64 b.vk) := hat' 7 _ rfl
              have d8 : wr.cell? ⟨(ad.add (j * 16)).block, (ad.add (j * 16)).off + 8, none⟩ = some (.int .i64 b.vn) := hat' 8 _ rfl
              have d9 : wr.cell? ⟨(ad.add (j * 16)).block, (ad.add (j * 16)).off + 9, none⟩ = some (.int .i64 b.vsc) := hat' 9 _ rfl
              have d10 : wr.cell? ⟨(ad.add (j * 16)).block, (ad.add (j * 16)).off + 10, none⟩ = some (.string b.s) := hat' 10 _ rfl
              have d11 : wr.cell? ⟨(ad.add (j * 16)).block, (ad.add (j * 16)).off + 11, none⟩ = some (.slice b.VA b.vl b.vc) := hat' 11 _ rfl
              have d12 : wr.cell? ⟨(ad.add (j * 16)).block, (ad.add (j * 16)).off + 12, none⟩ = some (.slice A2 bz.length cap2) := hat' 12 _ rfl
              have d13 : wr.cell? ⟨(ad.add (j * 16)).block, (ad.add (j * 16)).off + 13, none⟩ = some (.slice B2 ss.length bcap2) := hat' 13 _ rfl
              have d14 : wr.cell? ⟨(ad.add (j * 16)).block, (ad.add (j * 16)).off + 14, none⟩ = some (.bool dn) := hat' 14 _ rfl
              have d15 : wr.cell? ⟨(ad.add (j * 16)).block, (ad.add (j * 16)).off + 15, none⟩ = some (.bool fi) := hat' 15 _ rfl
              obtain ⟨W1, hW1⟩ : ∃ W1, wr.alloc (.cells #[.int .i64 b.k, .int .i64 b.op, .int .i64 b.up, .int .i64 b.pos, .int .i64 b.tk, .int .i64 b.tsc, .slice b.TA b.tl b.tc, .int .i64 b.vk, .int .i64 b.vn, .int .i64 b.vsc, .string b.s, .slice b.VA b.vl b.vc, .slice A2 bz.length cap2, .slice B2 ss.length bcap2, .bool dn, .bool fi] 70) = W1 := ⟨_, rfl⟩
              have hbW1 : Below wr.heap.size wr W1 := by rw [← hW1]; exact bel1 _ _
              have e1 : W1.heap[wr.heap.size]? = some (.cells #[.int .i64 b.k, .int .i64 b.op, .int .i64 b.up, .int .i64 b.pos, .int .i64 b.tk, .int .i64 b.tsc, .slice b.TA b.tl b.tc, .int .i64 b.vk, .int .i64 b.vn, .int .i64 b.vsc, .string b.s, .slice b.VA b.vl b.vc, .slice A2 bz.length cap2, .slice B2 ss.length bcap2, .bool dn, .bool fi] 70 (0, 0)) := by rw [← hW1]; exact heap_alloc_new wr _
              have g0 := cell_of_row W1 wr.heap.size 0 _ _ _ e1
              have g1 := cell_of_row W1 wr.heap.size 1 _ _ _ e1
              have g2 := cell_of_row W1 wr.heap.size 2 _ _ _ e1
              have g3 := cell_of_row W1 wr.heap.size 3 _ _ _ e1
              have g4 := cell_of_row W1 wr.heap.size 4 _ _ _ e1
              have g5 := cell_of_row W1 wr.heap.size 5 _ _ _ e1
              have g6 := cell_of_row W1 wr.heap.size 6 _ _ _ e1
              have g7 := cell_of_row W1 wr.heap.size 7 _ _ _ e1
              have g8 := cell_of_row W1 wr.heap.size 8 _ _ _ e1
              have g9 := cell_of_row W1 wr.heap.size 9 _ _ _ e1
              have g10 := cell_of_row W1 wr.heap.size 10 _ _ _ e1
              have g11 := cell_of_row W1 wr.heap.size 11 _ _ _ e1
              have g12 := cell_of_row W1 wr.heap.size 12 _ _ _ e1
              have g13 := cell_of_row W1 wr.heap.size 13 _ _ _ e1
              simp at g0 g1 g2 g3 g4 g5 g6 g7 g8 g9 g10 g11 g12 g13
              have hlL : (es ++ gs.flatMap aggE ++ ws.flatMap winE ++ (ks.take j).flatMap (fun x => [keyE x])).length + 1 ≤ 1048576 := by
                rw [map_flat]
                simp only [List.length_append, List.length_map, List.length_take] at *
                omega
              have h3 : Hid ((es ++ gs.flatMap aggE ++ ws.flatMap winE ++ (ks.take j).flatMap (fun x => [keyE x])).length + 1 ≤ maxLen) := by show _ ≤ _; unfold maxLen; omega
              have h4 : Hid (((es ++ gs.flatMap aggE ++ ws.flatMap winE ++ (ks.take j).flatMap (fun x => [keyE x])).length + 1) * 184 ≤ 140737488355328) := by show _ ≤ _; omega
              have hzz : Hid (∀ o, W0.heap.size ≤ (W1.alloc o).heap.size) := fun o => by have := hbW1.size; simp; omega
              have Ho2 := Lib.hid (ho.below rfl hbW1)
              have Ho := Lib.hid ho
              have Hx := Lib.hid hx
              have Hkc := Lib.hid hkc
              have HW1 := Lib.hid hW1
              clear hat hat' hxc hxd hkc hx hW1 e1 ho hxe hxk
              go_upto_region 15 with (fail)
              rw [HW1.out]
              go_wp2_with (at_builtin; refine wpList_append_row _ rfl _ _ 25 rfl W0.heap.size 49 i0 _ 14 184 Try.underlying25 hi iz isz iby rfl (by decide) u3 _ _ rfl (Ho2.out.1.alloc _) (some ⟨W1.heap.size, 0, none⟩) 1 1 [.int .i64 b.k, .int .i64 b.op, .int .i64 b.up, .int .i64 b.pos, .int .i64 b.tk, .int .i64 b.tsc, .slice b.TA b.tl b.tc, .int .i64 b.vk, .int .i64 b.vn, .int .i64 b.vsc, .string b.s, .slice b.VA b.vl b.vc, .slice A2 bz.length cap2, .slice B2 ss.length bcap2] rfl rfl (new_src _ _ _) (by simp [Value.oneCell']) h3.out h4.out (hzz.out _) ?_; intro sv6 w6 hown6 hg6 hm6)
              have hst := FlRel.step (f := fun x => [keyE x]) Hx.out (Ho.out.step (k := [keyE x]) rfl (hbW1.trans ((bel1 _ _).mono hbW1.size)) (by simpa [Hkc.out] using hown6) hg6)
              have Hst := Lib.hid hst
              clear hst hown6
              go_roundw
              case rel => exact Hst.out
              case measure => simp [intOf]; omega
            · obtain rfl : j = ks.length := by omega
              rw [List.take_length, map_flat] at ho
              have Ho' := Lib.hid ho
              clear ho
              go_wp2
              go_ret
              exact ⟨_, rfl, own_base Ho'.out.1 hbw.size, hbw.trans (Ho'.out.2.mono hbw.size)⟩
end Go.Proofs.Ytoeamomklmoncaa
