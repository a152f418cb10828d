/-
  The expressions of a window, walked.
-/
import Derived.Test.YtoeamomklmoncaaDtD
import Derived.Deep.DeepCutAuto
namespace Go.Proofs.Ytoeamomklmoncaa
open Go.RowKit
theorem own_below {w w' : World} {B e size n : Nat} {v : Value} {xs : List Value} (h : w.ownsRow B e size v n xs) (hb : Below w.heap.size w w') : w'.ownsRow B e size v n xs := by
  refine ⟨h.1, ?_⟩
  rcases h.2 with hn | ⟨g, cap, cur, e1, e2, e3, rest⟩
  · exact .inl hn
  · exact .inr ⟨g, cap, cur, e1, e2, (hb.block g (Array.getElem?_eq_some_iff.1 e3).1).trans e3, rest⟩
/-- A row of expressions that is being made. -/
def OwnL (B0 : Nat) (W0 : World) (L : List DT) (sv : Value) (wr : World) : Prop := wr.ownsRow B0 49 14 sv L.length (L.flatMap DT.c) ∧ Below B0 W0 wr
theorem OwnL.step {B0 : Nat} {W0 wr w2 w3 : World} {L k : List DT} {sv sv' : Value} (h : OwnL B0 W0 L sv wr) (hB : W0.heap.size = B0) (hb2 : Below wr.heap.size wr w2) (hown : w3.ownsRow B0 49 14 sv' (L.length + k.length) (L.flatMap DT.c ++ k.flatMap DT.c)) (hg : w2.grownBy w3 sv.ownBlock) : OwnL B0 W0 (L ++ k) sv' w3 := by
  refine ⟨by rw [List.length_append, List.flatMap_append]; exact hown, ?_⟩
  have hz := h.2.size
  exact (h.2.trans (hb2.mono (by omega))).grown hg (by have := hb2.size; omega) (fun q hq => (h.1.lt q hq).1)
theorem OwnL.below {B0 : Nat} {W0 wr w2 : World} {L : List DT} {sv : Value} (h : OwnL B0 W0 L sv wr) (hB : W0.heap.size = B0) (hb2 : Below wr.heap.size wr w2) : OwnL B0 W0 L sv w2 :=
  ⟨own_below h.1 hb2, h.2.trans (hb2.mono (by have := h.2.size; omega))⟩
/-- What a loop over aggregates has at its head. -/
def AgRel (B0 : Nat) (W0 : World) (L gs : List DT) (sv i : Value) (wr : World) : Prop := ∃ j : Nat, j ≤ gs.length ∧ i = .int .i64 j ∧ OwnL B0 W0 (L ++ (gs.take j).flatMap aggE) sv wr
/-- What a loop over keys has at its head; the keys lie in the block of v4, which stays as it was in W4. -/
def KeRel (B0 : Nat) (W0 : World) (L ks : List DT) (W4 : World) (v4 : Value) (sv i : Value) (wr : World) : Prop := ∃ j : Nat, j ≤ ks.length ∧ i = .int .i64 j ∧ OwnL B0 W0 (L ++ (ks.take j).map keyE) sv wr ∧ W4.heap.size ≤ wr.heap.size ∧ ∀ q, v4.ownBlock = some q → wr.heap[q]? = W4.heap[q]? ∧ sv.ownBlock ≠ some q
theorem AgRel.step {B0 : Nat} {W0 w3 : World} {L gs : List DT} {sv' : Value} {j : Nat} {x : DT} (hx : gs[j]? = some x) (h : OwnL B0 W0 (L ++ (gs.take j).flatMap aggE ++ aggE x) sv' w3) : AgRel B0 W0 L gs sv' (.int .i64 ((j : Int) + 1)) w3 := by
  refine ⟨j + 1, (List.getElem?_eq_some_iff.1 hx).1, by simp, ?_⟩
  rw [List.take_add_one, hx, List.flatMap_append]
  simpa using h
theorem KeRel.step {B0 : Nat} {W0 wr w2 w3 : World} {L ks : List DT} {W4 : World} {v4 sv sv' : Value} {j : Nat} {x : DT} (hx : ks[j]? = some x) (h : OwnL B0 W0 (L ++ (ks.take j).map keyE ++ [keyE x]) sv' w3) (hb2 : Below wr.heap.size wr w2) (hg : w2.grownBy w3 sv.ownBlock) (hm : Moved w2 sv sv') (hz : W4.heap.size ≤ wr.heap.size) (hv4 : ∀ q, v4.ownBlock = some q → q < W4.heap.size) (hk : ∀ q, v4.ownBlock = some q → wr.heap[q]? = W4.heap[q]? ∧ sv.ownBlock ≠ some q) : KeRel B0 W0 L ks W4 v4 sv' (.int .i64 ((j : Int) + 1)) w3 := by
  have hz2 := hb2.size
  refine ⟨j + 1, (List.getElem?_eq_some_iff.1 hx).1, by simp, ?_, by have := hg.size; omega, fun q hq => ?_⟩
  · rw [List.take_add_one, hx, List.map_append]
    simpa using h
  · obtain ⟨h1, h2⟩ := hk q hq
    have h3 := hv4 q hq
    refine ⟨(hg.block q (by omega) (fun e => h2 e.symm)).trans ((hb2.block q (by omega)).trans h1), fun e => ?_⟩
    rcases hm with hm | hm
    · exact h2 (hm ▸ e)
    · have := hm q e; omega
theorem new_src (w : World) (cs : Array Value) (t : TypeId) : SrcAt (w.alloc (.cells cs t)) (some ⟨w.heap.size, 0, none⟩) cs.toList := .inr ⟨_, rfl, fun j u hu => by
  have hadd : (⟨w.heap.size, 0, none⟩ : Addr).add j = ⟨w.heap.size, j, none⟩ := by unfold Addr.add; split <;> simp_all
  rw [hadd, cell_new, ← Array.getElem?_toList]
  exact hu⟩
theorem len_take_flat {f : DT → List DT} {l : List DT} (h : ∀ x, x ∈ l → (f x).length ≤ x.n) (j : Nat) {x : DT} (hx : l[j]? = some x) : ((l.take j).flatMap f).length + (f x).length ≤ nL l := by
  have h1 := len_flat (f := f) (l := l.take j) fun y hy => h y (List.mem_of_mem_take hy)
  have h2 := nL_take l j
  rw [drop_of_get? hx, nL_cons] at h2
  have h3 := h x (mem_of_get? hx)
  omega
theorem DT.In.aggE {S : Nat → Prop} {w : World} {d : DT} (h : DT.In S w .agg d) : ∀ x, x ∈ aggE d → DT.In S w .expr x := by
  obtain ⟨k, at1, ds, A, cap, az, F, fcap, fs, hd⟩ := h.agg
  obtain ⟨he, ra, rf, ia, iff⟩ := hd
  subst he
  intro x hx
  rcases List.mem_append.1 (show x ∈ az ++ fs from hx) with hx | hx
  · exact ia x hx
  · exact iff x hx
theorem ones_flat {l : List DT} {S : Nat → Prop} {w : World} {t : Ty} (h : ∀ x, x ∈ l → DT.In S w t x) : ∀ u, u ∈ l.flatMap DT.c → u.oneCell' = true := fun u hu => by
  obtain ⟨x, hx, hux⟩ := List.mem_flatMap.1 hu
  exact (h x hx).ones u hux
set_option maxRecDepth 100000 in
set_option maxHeartbeats 4000000 in
theorem mexprsOfWindow_any (d : DT) (S : Nat → Prop) (w : World) (hd : DT.In S w .win d) (hS : ∀ k, S k → k < w.heap.size) (hn : d.n ≤ 1048576) :
    Calls Try.prog 25 #[.agg d.c.toArray] w (ExPost (winE d) w) := by
  obtain ⟨i0, hi, iz, isz, iby⟩ := info_parts infoExpr
  have hl := hd.winLen
  obtain ⟨wk, wn, A, cap, az, G, gcap, gs, P, pcap, ps, K, kcap, ks, T, tcap, ts, u7, u8, u9, u10, u11, h⟩ := hd.win
  obtain ⟨he, ra, rg, rp, rk, rt, ia, ig, ip, ik, it⟩ := h
  subst he
  show Calls _ _ #[.agg #[.int .i64 wk, .int .i64 wn, .slice A az.length cap, .slice G gs.length gcap, .slice P ps.length pcap, .slice K ks.length kcap, .slice T ts.length tcap, .int .i64 u7, .int .i64 u8, .int .i64 u9, .int .i64 u10, .int .i64 u11]] _ (ExPost (az ++ gs.flatMap aggE ++ ps ++ (ks ++ ts).map keyE) w)
  rw [DT.n_node] at hn
  have hsum : nL az + nL gs + nL ps + nL ks + nL ts + 1 ≤ 1048576 := by simp at hn; omega
  have la := len_nL az
  have lp := len_nL ps
  have lk := len_nL ks
  have lt := len_nL ts
  have lg := len_nL gs
  obtain ⟨W0, hW0⟩ : ∃ W0, w.alloc (.cells #[.int .i64 wk, .int .i64 wn, .slice A az.length cap, .slice G gs.length gcap, .slice P ps.length pcap, .slice K ks.length kcap, .slice T ts.length tcap, .int .i64 u7, .int .i64 u8, .int .i64 u9, .int .i64 u10, .int .i64 u11] 68) = W0 := ⟨_, rfl⟩
  have hbw : Below w.heap.size w W0 := by rw [← hW0]; exact bel1 _ _
  have hz0 : W0.heap.size = w.heap.size + 1 := by rw [← hW0]; simp
  have P0 : W0.heap[w.heap.size]? = some (.cells #[.int .i64 wk, .int .i64 wn, .slice A az.length cap, .slice G gs.length gcap, .slice P ps.length pcap, .slice K ks.length kcap, .slice T ts.length tcap, .int .i64 u7, .int .i64 u8, .int .i64 u9, .int .i64 u10, .int .i64 u11] 68 (0, 0)) := by rw [← hW0]; exact heap_alloc_new w _
  have hk : Hid (∀ W, Below W0.heap.size W0 W → W.cell? ⟨w.heap.size, 2, none⟩ = some (.slice A az.length cap) ∧ W.cell? ⟨w.heap.size, 3, none⟩ = some (.slice G gs.length gcap) ∧ W.cell? ⟨w.heap.size, 4, none⟩ = some (.slice P ps.length pcap) ∧ W.cell? ⟨w.heap.size, 5, none⟩ = some (.slice K ks.length kcap) ∧ W.cell? ⟨w.heap.size, 6, none⟩ = some (.slice T ts.length tcap)) := fun W h => by
    have Q0 := (h.block w.heap.size (by omega)).trans P0
    exact ⟨cell_of_row W w.heap.size 2 _ _ _ Q0, cell_of_row W w.heap.size 3 _ _ _ Q0, cell_of_row W w.heap.size 4 _ _ _ Q0, cell_of_row W w.heap.size 5 _ _ _ Q0, cell_of_row W w.heap.size 6 _ _ _ Q0⟩
  have hSS : ∀ W, Below W0.heap.size W0 W → ∀ k, S k → W.heap[k]? = w.heap[k]? := fun W h k hk => (h.block k (by have := hS k hk; omega)).trans (hbw.block k (hS k hk))
  have hcl := Lib.hid (cloneE_any A cap az S W0 (ra.keep (hSS W0 (Below.refl _ _)) (fun _ h => h)) (fun x hx => (ia x hx).len) (fun x hx => (ia x hx).ones) (by omega))
  have HW0 := Lib.hid hW0
  have Hz0 := Lib.hid hz0
  have HSS := Lib.hid hSS
  have HS := Lib.hid hS
  clear hW0 hz0 P0 hSS hd hl hn hS
  go_enter Try.func25, Try.ntmps25
  go_wp2_with fail
  rw [HW0.out]
  refine hcl.out.mono ?_
  rintro e w1 ⟨v1, rfl, hown1, hb1⟩
  have ho1 : OwnL W0.heap.size W0 az v1 w1 := ⟨hown1, hb1⟩
  obtain ⟨p2, p3, p4, p5, p6⟩ := hk.out w1 hb1
  have Ho1 := Lib.hid ho1
  clear ho1 hown1
  go_wp2
  go_loopw [3, 14] (fun sv i wr => AgRel W0.heap.size W0 az gs sv i wr) (fun _ i _ => gs.length - (intOf i).toNat)
  case atStart => exact ⟨0, Nat.zero_le _, rfl, by simpa using Ho1.out⟩
  case round =>
    obtain ⟨j, hj, rfl, ho⟩ := hrel
    have hb := ho.2
    have hzr := hb.size
    clear p2 p3 p4 p5 p6
    obtain ⟨p2, p3, p4, p5, p6⟩ := hk.out wr hb
    by_cases hlt : j < gs.length
    · obtain ⟨x, ad, hx, rfl, hbx, hat⟩ := (rg.keep (HSS.out wr hb) (fun _ h => h)).get hlt
      have hxa := ig x (mem_of_get? hx)
      have hxn : x.n ≤ 1048576 := by have := n_mem (mem_of_get? hx); omega
      have hex : Hid (∀ W, Below W0.heap.size W0 W → Calls Try.prog 24 #[.agg x.c.toArray] W (ExPost (aggE x) W)) := fun W h => mexprsOfAgg_any x S W (hxa.keep (HSS.out W h) (fun _ h => h)) (fun k hk => by have := HS.out k hk; have := h.size; have := Hz0.out; omega) hxn
      have hle := len_take_flat (f := aggE) (fun y hy => (ig y hy).aggLen) j hx
      have hin := hxa.aggE
      obtain ⟨y0, y1, y2, A2, cap2, bz, F2, fcap2, fz, hx2⟩ := hxa.agg
      have hx2e := hx2.e
      obtain ⟨W1, hW1⟩ : ∃ W1, wr.alloc (.cells #[.int .i64 y0, .int .i64 y1, .bool y2, .slice A2 bz.length cap2, .slice F2 fz.length fcap2] 64) = W1 := ⟨_, rfl⟩
      have hbW1 : Below wr.heap.size wr W1 := by rw [← hW1]; exact bel1 _ _
      have hb1' : Below W0.heap.size W0 W1 := hb.trans (hbW1.mono hzr)
      have hxc : x.c = [.int .i64 y0, .int .i64 y1, .bool y2, .slice A2 bz.length cap2, .slice F2 fz.length fcap2] := by rw [hx2e]; rfl
      have hex1 := hex.out W1 hb1'
      rw [hxc] at hex1
      have hat' := fun (k : Nat) (u : Value) (h : [.int .i64 y0, .int .i64 y1, .bool y2, .slice A2 bz.length cap2, .slice F2 fz.length fcap2][k]? = some u) => hat k u (by rw [hxc]; exact h)
      have d0 : wr.cell? (ad.add (j * 5)) = some (.int .i64 y0) := hat' 0 _ rfl
      have d1 : wr.cell? ⟨(ad.add (j * 5)).block, (ad.add (j * 5)).off + 1, none⟩ = some (.int .i64 y1) := hat' 1 _ rfl
      have d2 : wr.cell? ⟨(ad.add (j * 5)).block, (ad.add (j * 5)).off + 2, none⟩ = some (.bool y2) := hat' 2 _ rfl
      have d3 : wr.cell? ⟨(ad.add (j * 5)).block, (ad.add (j * 5)).off + 3, none⟩ = some (.slice A2 bz.length cap2) := hat' 3 _ rfl
      have d4 : wr.cell? ⟨(ad.add (j * 5)).block, (ad.add (j * 5)).off + 4, none⟩ = some (.slice F2 fz.length fcap2) := hat' 4 _ rfl
      have Hex1 := Lib.hid hex1
      have Hx := Lib.hid hx
      have HW1 := Lib.hid hW1
      have Hin := Lib.hid hin
      have Ho := Lib.hid ho
      clear hat hat' hx2 hx2e hxc hex hex1 hx hW1 hxa hin ho
      go_wp2_with fail
      rw [HW1.out]
      refine Hex1.out.mono ?_
      rintro e w2 ⟨v2, rfl, hown2, hb2⟩
      obtain ⟨A3, cap3, rfl, hrow3, _⟩ := own_structs hown2 rfl (fun y hy => (Hin.out y hy).len)
      have hbr2 : Below wr.heap.size wr w2 := hbW1.trans (hb2.mono hbW1.size)
      have hsrc := Lib.hid (hrow3.src (by decide) (fun y hy => (Hin.out y hy).len))
      have hfl := Lib.hid (flatD_len (l := aggE x) (c := 14) (fun y hy => (Hin.out y hy).len))
      have hon := Lib.hid (ones_flat Hin.out)
      have hlL : (az ++ (gs.take j).flatMap aggE).length + (aggE x).length ≤ 1048576 := by rw [List.length_append]; omega
      have h3 : Hid ((az ++ (gs.take j).flatMap aggE).length + (aggE x).length ≤ maxLen) := by show _ ≤ _; unfold maxLen; omega
      have h4 : Hid (((az ++ (gs.take j).flatMap aggE).length + (aggE x).length) * 184 ≤ 140737488355328) := by show _ ≤ _; omega
      have hzz : Hid (W0.heap.size ≤ w2.heap.size) := Nat.le_trans hzr hbr2.size
      have Ho2 := Lib.hid (Ho.out.below rfl hbr2)
      clear hown2 hrow3 d0 d1 d2 d3 d4
      go_wp2_with (at_builtin; refine wpList_append_row _ rfl _ _ 25 rfl W0.heap.size 49 i0 _ 14 184 Try.underlying25 hi iz isz iby rfl (by decide) u3 _ _ rfl Ho2.out.1 A3 (aggE x).length cap3 ((aggE x).flatMap DT.c) rfl hfl.out hsrc.out hon.out h3.out h4.out hzz.out ?_; intro sv' w3 hown3 hg3 hm3)
      have hst := AgRel.step Hx.out (Ho.out.step rfl hbr2 hown3 hg3)
      have Hst := Lib.hid hst
      clear hst hown3
      go_roundw
      case rel => exact Hst.out
      case measure => simp [intOf]; omega
    · obtain rfl : j = gs.length := by omega
      rw [List.take_length] at ho
      have hgl := len_flat (f := aggE) (l := gs) fun y hy => (ig y hy).aggLen
      have hsrc := Lib.hid (SrcAt.keep rp (HSS.out wr hb) (by decide) (fun y hy => (ip y hy).len))
      have hfl := Lib.hid (flatD_len (l := ps) (c := 14) (fun y hy => (ip y hy).len))
      have hon := Lib.hid (ones_flat ip)
      have hlL : (az ++ gs.flatMap aggE).length + ps.length ≤ 1048576 := by rw [List.length_append]; omega
      have h3 : Hid ((az ++ gs.flatMap aggE).length + ps.length ≤ maxLen) := by show _ ≤ _; unfold maxLen; omega
      have h4 : Hid (((az ++ gs.flatMap aggE).length + ps.length) * 184 ≤ 140737488355328) := by show _ ≤ _; omega
      have hgr : Hid (∀ w3, wr.grownBy w3 u3.ownBlock → Below W0.heap.size W0 w3) := fun w3 hg => hb.grown hg hzr (fun q hq => (ho.1.lt q hq).1)
      have Ho := Lib.hid ho
      clear ho p2 p3
      go_wp2_with (at_builtin; refine wpList_append_row _ rfl _ _ 25 rfl W0.heap.size 49 i0 _ 14 184 Try.underlying25 hi iz isz iby rfl (by decide) u3 _ _ rfl Ho.out.1 P ps.length pcap (ps.flatMap DT.c) rfl hfl.out hsrc.out hon.out h3.out h4.out hzr ?_; intro sv3 w3 hown3 hg3 hm3; obtain ⟨_, _, _, q5, q6⟩ := hk.out w3 (hgr.out w3 hg3))
      have ho3 := Lib.hid (Ho.out.step rfl (Below.refl _ _) hown3 hg3)
      have hb3 := hgr.out w3 hg3
      clear hown3 hg3 hm3 p4 p5 p6
      generalize hW4 : World.alloc _ _ = W4
      have hbW4 : Below w3.heap.size w3 W4 := by rw [← hW4]; exact bel1 _ _
      have c0 : W4.cell? ⟨w3.heap.size, 0, none⟩ = some (.slice K ks.length kcap) := by rw [← hW4]; simp
      have c1 : W4.cell? ⟨w3.heap.size, 1, none⟩ = some (.slice T ts.length tcap) := by rw [← hW4]; simp
      have hb4 : Below W0.heap.size W0 W4 := hb3.trans (hbW4.mono hb3.size)
      have hkt : ∀ x, x ∈ ks ++ ts → DT.In S w .key x := fun x hx => by
        rcases List.mem_append.1 hx with hx | hx
        · exact ik x hx
        · exact it x hx
      have hcc := Lib.hid (concatK_two K T kcap tcap ks ts w3.heap.size S W4 (rk.keep (HSS.out W4 hb4) (fun _ h => h)) (rt.keep (HSS.out W4 hb4) (fun _ h => h)) (fun k hk => by have := HS.out k hk; have := hb4.size; have := Hz0.out; omega) (fun x hx => (hkt x hx).len) (fun x hx => (hkt x hx).ones) (by omega) c0 c1)
      clear hW4 c0 c1 q5 q6
      refine hcc.out.mono ?_
      rintro e w5 ⟨v5, rfl, hown5, hb5⟩
      obtain ⟨kl, hkl⟩ : ∃ kl, ks ++ ts = kl := ⟨_, rfl⟩
      rw [hkl] at hown5 hkt
      have hkn : kl.length ≤ 1048576 := by rw [← hkl, List.length_append]; omega
      have hkn2 : (az ++ gs.flatMap aggE ++ ps).length + kl.length ≤ 1048576 := by rw [← hkl]; simp only [List.length_append]; omega
      obtain ⟨A5, cap5, rfl, hrow5, _⟩ := own_structs hown5 rfl (fun x hx => (hkt x hx).len)
      have hv5 := hown5.lt
      have hz5 := hb5.size
      have hzW4 := hbW4.size
      have h35 : Below w3.heap.size w3 w5 := hbW4.trans (hb5.mono hbW4.size)
      have hst0 : KeRel W0.heap.size W0 (az ++ gs.flatMap aggE ++ ps) kl w5 (.slice A5 kl.length cap5) sv3 (.int .i64 0) w5 := by
        refine ⟨0, Nat.zero_le _, rfl, by simpa using ho3.out.below rfl h35, Nat.le_refl _, fun q hq => ⟨rfl, fun e => ?_⟩⟩
        have h1 := (ho3.out.1.lt q e).2
        have h2 := (hv5 q hq).1
        omega
      have Hst0 := Lib.hid hst0
      have Hkl := Lib.hid hkl
      have Hrow5 := Lib.hid hrow5
      have Hv5 := Lib.hid (fun q hq => (hv5 q hq).2)
      clear hst0 hown5 hv5 hkl hrow5
      go_wp2
      go_loopw [3, 34] (fun sv i wr => KeRel W0.heap.size W0 (az ++ gs.flatMap aggE ++ ps) kl w5 (.slice A5 kl.length cap5) sv i wr) (fun _ i _ => kl.length - (intOf i).toNat)
      case atStart => exact Hst0.out
      case round =>
        obtain ⟨j, hj, rfl, ho, hzj, hkq⟩ := hrel
        have hbj := ho.2
        have hzrj := hbj.size
        by_cases hlt2 : j < kl.length
        · obtain ⟨x, ad, hx, hA5, hbx, hat⟩ := (Hrow5.out.keep (S' := fun _ => True) (fun q hq => (hkq q hq.1).1) (fun _ _ => trivial)).get hlt2
          have hxk := hkt x (mem_of_get? hx)
          obtain ⟨hxe, dn, fi, hxc, _⟩ := hxk.key
          obtain ⟨a, A2, cap2, bz, B2, bcap2, ss, hxd⟩ := hxe.expr
          have hkc : (keyE x).c = [.int .i64 a.k, .int .i64 a.op, .int .i64 a.up, .int .i64 a.pos, .int .i64 a.tk, .int .i64 a.tsc, .slice a.TA a.tl a.tc, .int .i64 a.vk, .int .i64 a.vn, .int .i64 a.vsc, .string a.s, .slice a.VA a.vl a.vc, .slice A2 bz.length cap2, .slice B2 ss.length bcap2] := by rw [hxd.e]; rfl
          rw [hkc] at hxc
          subst hA5
          have hat' := fun (k : Nat) (u : Value) (h : ([.int .i64 a.k, .int .i64 a.op, .int .i64 a.up, .int .i64 a.pos, .int .i64 a.tk, .int .i64 a.tsc, .slice a.TA a.tl a.tc, .int .i64 a.vk, .int .i64 a.vn, .int .i64 a.vsc, .string a.s, .slice a.VA a.vl a.vc, .slice A2 bz.length cap2, .slice B2 ss.length bcap2, .bool dn, .bool fi] : List Value)[k]? = some u) => hat k u (by rw [hxc]; exact h)
          have d0 : wr.cell? (ad.add (j * 16)) = some (.int .i64 a.k) := hat' 0 _ rfl
          have d1 : wr.cell? ⟨(ad.add (j * 16)).block, (ad.add (j * 16)).off + 1, none⟩ = some (.int .i64 a.op) := hat' 1 _ rfl
          have d2 : wr.cell? ⟨(ad.add (j * 16)).block, (ad.add (j * 16)).off + 2, none⟩ = some (.int .i64 a.up) := hat' 2 _ rfl
          have d3 : wr.cell? ⟨(ad.add (j * 16)).block, (ad.add (j * 16)).off + 3, none⟩ = some (.int .i64 a.pos) := hat' 3 _ rfl
          have d4 : wr.cell? ⟨(ad.add (j * 16)).block, (ad.add (j * 16)).off + 4, none⟩ = some (.int .i64 a.tk) := hat' 4 _ rfl
          have d5 : wr.cell? ⟨(ad.add (j * 16)).block, (ad.add (j * 16)).off + 5, none⟩ = some (.int .i64 a.tsc) := hat' 5 _ rfl
          have d6 : wr.cell? ⟨(ad.add (j * 16)).block, (ad.add (j * 16)).off + 6, none⟩ = some (.slice a.TA a.tl a.tc) := hat' 6 _ rfl
          have d7 : wr.cell? ⟨(ad.add (j * 16)).block, (ad.add (j * 16)).off + 7, none⟩ = some (.int .i64 a.vk) := hat' 7 _ rfl
          have d8 : wr.cell? ⟨(ad.add (j * 16)).block, (ad.add (j * 16)).off + 8, none⟩ = some (.int .i64 a.vn) := hat' 8 _ rfl
          have d9 : wr.cell? ⟨(ad.add (j * 16)).block, (ad.add (j * 16)).off + 9, none⟩ = some (.int .i64 a.vsc) := hat' 9 _ rfl
          have d10 : wr.cell? ⟨(ad.add (j * 16)).block, (ad.add (j * 16)).off + 10, none⟩ = some (.string a.s) := hat' 10 _ rfl
          have d11 : wr.cell? ⟨(ad.add (j * 16)).block, (ad.add (j * 16)).off + 11, none⟩ = some (.slice a.VA a.vl a.vc) := hat' 11 _ rfl
          have d12 : wr.cell? ⟨(ad.add (j * 16)).block, (ad.add (j * 16)).off + 12, none⟩ = some (.slice A2 bz.length cap2) := hat' 12 _ rfl
          have d13 : wr.cell? ⟨(ad.add (j * 16)).block, (ad.add (j * 16)).off + 13, none⟩ = some (.slice B2 ss.length bcap2) := hat' 13 _ rfl
          have d14 : wr.cell? ⟨(ad.add (j * 16)).block, (ad.add (j * 16)).off + 14, none⟩ = some (.bool dn) := hat' 14 _ rfl
          have d15 : wr.cell? ⟨(ad.add (j * 16)).block, (ad.add (j * 16)).off + 15, none⟩ = some (.bool fi) := hat' 15 _ rfl
          obtain ⟨W1, hW1⟩ : ∃ W1, wr.alloc (.cells #[.int .i64 a.k, .int .i64 a.op, .int .i64 a.up, .int .i64 a.pos, .int .i64 a.tk, .int .i64 a.tsc, .slice a.TA a.tl a.tc, .int .i64 a.vk, .int .i64 a.vn, .int .i64 a.vsc, .string a.s, .slice a.VA a.vl a.vc, .slice A2 bz.length cap2, .slice B2 ss.length bcap2, .bool dn, .bool fi] 70) = W1 := ⟨_, rfl⟩
          have hbW1 : Below wr.heap.size wr W1 := by rw [← hW1]; exact bel1 _ _
          have e1 : W1.heap[wr.heap.size]? = some (.cells #[.int .i64 a.k, .int .i64 a.op, .int .i64 a.up, .int .i64 a.pos, .int .i64 a.tk, .int .i64 a.tsc, .slice a.TA a.tl a.tc, .int .i64 a.vk, .int .i64 a.vn, .int .i64 a.vsc, .string a.s, .slice a.VA a.vl a.vc, .slice A2 bz.length cap2, .slice B2 ss.length bcap2, .bool dn, .bool fi] 70 (0, 0)) := by rw [← hW1]; exact heap_alloc_new wr _
          have g0 := cell_of_row W1 wr.heap.size 0 _ _ _ e1
          have g1 := cell_of_row W1 wr.heap.size 1 _ _ _ e1
          have g2 := cell_of_row W1 wr.heap.size 2 _ _ _ e1
          have g3 := cell_of_row W1 wr.heap.size 3 _ _ _ e1
          have g4 := cell_of_row W1 wr.heap.size 4 _ _ _ e1
          have g5 := cell_of_row W1 wr.heap.size 5 _ _ _ e1
          have g6 := cell_of_row W1 wr.heap.size 6 _ _ _ e1
          have g7 := cell_of_row W1 wr.heap.size 7 _ _ _ e1
          have g8 := cell_of_row W1 wr.heap.size 8 _ _ _ e1
          have g9 := cell_of_row W1 wr.heap.size 9 _ _ _ e1
          have g10 := cell_of_row W1 wr.heap.size 10 _ _ _ e1
          have g11 := cell_of_row W1 wr.heap.size 11 _ _ _ e1
          have g12 := cell_of_row W1 wr.heap.size 12 _ _ _ e1
          have g13 := cell_of_row W1 wr.heap.size 13 _ _ _ e1
          simp at g0 g1 g2 g3 g4 g5 g6 g7 g8 g9 g10 g11 g12 g13
          have hlL : (az ++ gs.flatMap aggE ++ ps ++ (kl.take j).map keyE).length + 1 ≤ 1048576 := by
            rw [List.length_append, List.length_map, List.length_take]
            omega
          have h3 : Hid ((az ++ gs.flatMap aggE ++ ps ++ (kl.take j).map keyE).length + 1 ≤ maxLen) := by show _ ≤ _; unfold maxLen; omega
          have h4 : Hid (((az ++ gs.flatMap aggE ++ ps ++ (kl.take j).map keyE).length + 1) * 184 ≤ 140737488355328) := by show _ ≤ _; omega
          have hzz : Hid (∀ o, W0.heap.size ≤ (W1.alloc o).heap.size) := fun o => by have := hbW1.size; simp; omega
          have Ho2 := Lib.hid (ho.below rfl hbW1)
          have Ho := Lib.hid ho
          have Hx := Lib.hid hx
          have Hkc := Lib.hid hkc
          have Hkq := Lib.hid hkq
          have HW1 := Lib.hid hW1
          clear hat hat' hxc hxd hkc hx hW1 e1 ho hkq hxe hxk
          go_upto_region 11 with (fail)
          rw [HW1.out]
          go_wp2_with (at_builtin; refine wpList_append_row _ rfl _ _ 25 rfl W0.heap.size 49 i0 _ 14 184 Try.underlying25 hi iz isz iby rfl (by decide) u3 _ _ rfl (Ho2.out.1.alloc _) (some ⟨W1.heap.size, 0, none⟩) 1 1 [.int .i64 a.k, .int .i64 a.op, .int .i64 a.up, .int .i64 a.pos, .int .i64 a.tk, .int .i64 a.tsc, .slice a.TA a.tl a.tc, .int .i64 a.vk, .int .i64 a.vn, .int .i64 a.vsc, .string a.s, .slice a.VA a.vl a.vc, .slice A2 bz.length cap2, .slice B2 ss.length bcap2] rfl rfl (new_src _ _ _) (by simp [Value.oneCell']) h3.out h4.out (hzz.out _) ?_; intro sv6 w6 hown6 hg6 hm6)
          have hst := KeRel.step Hx.out (Ho.out.step (k := [keyE x]) rfl (hbW1.trans ((bel1 _ _).mono hbW1.size)) (by simpa [Hkc.out] using hown6) hg6) (hbW1.trans ((bel1 _ _).mono hbW1.size)) hg6 hm6 hzj Hv5.out Hkq.out
          have Hst := Lib.hid hst
          clear hst hown6
          go_roundw
          case rel => exact Hst.out
          case measure => simp [intOf]; omega
        · obtain rfl : j = kl.length := by omega
          rw [List.take_length, ← Hkl.out] at ho
          have Ho' := Lib.hid ho
          clear ho
          go_wp2
          go_ret
          exact ⟨_, rfl, own_base Ho'.out.1 hbw.size, hbw.trans (Ho'.out.2.mono hbw.size)⟩
end Go.Proofs.Ytoeamomklmoncaa
