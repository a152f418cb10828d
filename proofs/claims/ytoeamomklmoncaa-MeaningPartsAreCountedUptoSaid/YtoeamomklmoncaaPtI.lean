/-
  The reference's TablesOf, walked.
-/
import Derived.Test.YtoeamomklmoncaaPtH
namespace Go.Proofs.Ytoeamomklmoncaa
open Go.RowKit
theorem wpList_one_at {P : Program} {ops : Array Oper} {rest : List Oper} {o : Oper} {a : Act} {w : World} {Q : Exit → Act → World → Prop} (s : Nat) (hsz : w.heap.size = s) (hgd : o.guard = none) (t e : TypeId) (x : Operand) (ho : o.op = .buildSlice t 1 #[(0, x)])
    (i : TypeInfo) (ht : P.underlying t = some (.slice e)) (hi : P.info? e = some i) (z : Value) (hz : i.zero = some z) (cs : Array Value) (hs : i.size = cs.size) (hzs : z.cells.size = cs.size) (h0 : 0 < cs.size) (hb : cs.size ≤ 16777216) (hx : a.eval x = .agg cs)
    (h : wpList P ops Q rest (a.put o.dst (.slice (some ⟨s, 0, none⟩) 1 1)) (w.alloc (.cells cs e))) : wpList P ops Q (o :: rest) a w := by
  subst hsz
  exact wpList_one_st hgd t e x ho i ht hi z hz cs hs hzs h0 hb hx h
set_option maxRecDepth 100000 in
set_option maxHeartbeats 8000000 in
theorem tablesOf_not (f : Nat) (hf : f + 1 ≤ 1048576) (hQ : TQ f) (hE : TE f) (d : DT) (S : Nat → Prop) (w : World) (hd : DT.In S w .rel d) (hS : ∀ k, S k → k < w.heap.size) (hn : d.n ≤ f + 1) (h1 : dInt d 0 ≠ 1) :
    Calls Try.prog 15 #[.agg d.c.toArray] w (TPost (tabsR (f + 1) d) w) := by
  obtain ⟨i0, hi, iz, isz, iby⟩ := info_parts infoRel
  obtain ⟨d0, _, _, ⟨IA, icap, d6, ri⟩, _, ii, _, _⟩ := hd.relCells
  have hkr := nL_relE d
  have hlen := hd.len
  have hl1 := len_flat_n (f := tabsR f) (l := d.kid 0) (tabs_len f).1
  have hl2 := len_flat_n (f := tabsE f) (l := relE d) (tabs_len f).2
  rw [tabsR]
  have Hi := Lib.hid ii
  have Hri := Lib.hid ri
  obtain ⟨kn, hkn⟩ : ∃ n, (d.kid 0).length = n := ⟨_, rfl⟩
  have hkn2 : kn ≤ 1048576 := by have := len_nL (d.kid 0); omega
  rw [hkn] at d6
  obtain ⟨W0, hW0⟩ : ∃ W0, w.alloc (.cells d.c.toArray 31) = W0 := ⟨_, rfl⟩
  have hb0 : Below w.heap.size w W0 := by rw [← hW0]; exact bel1 _ _
  have e0 : W0.heap[w.heap.size]? = some (.cells d.c.toArray 31 (0, 0)) := by rw [← hW0]; exact heap_alloc_new w _
  have hz0 : W0.heap.size = w.heap.size + 1 := by rw [← hW0]; simp
  obtain ⟨kd, hkd⟩ : ∃ k, dInt d 0 = k := ⟨_, rfl⟩
  rw [hkd] at d0
  have p0 : W0.cell? ⟨w.heap.size, 0, none⟩ = some (.int .i64 kd) := by rw [cell_of_row _ _ 0 _ _ _ e0]; simpa using d0
  obtain ⟨B, hB1, hB2⟩ : ∃ B, W0.heap.size ≤ B ∧ B ≤ W0.heap.size := ⟨_, Nat.le_refl _, Nat.le_refl _⟩
  have HiR : Hid ((Try.prog.info? 31).map (·.size) = some d.c.length) := by show _ = _; rw [hlen]; exact sizeRel
  have HW0 := Lib.hid hW0
  have E0 := Lib.hid e0
  have HS : Hid (∀ k, S k → k < w.heap.size) := hS
  have D6 := Lib.hid d6
  have Hkn := Lib.hid hkn
  have Hd := Lib.hid hd
  have Hkd := Lib.hid hkd
  have Hlen := Lib.hid hlen
  clear hW0 e0 hS hd d0 d6 ii ri hkn hlen hkd
  have h1b : (kd == 1) = false := by rw [← Hkd.out]; simpa using h1
  rw [if_neg h1, List.nil_append]
  have HnB : Hid (OutD B W0 (.slice none 0 0) []) := OutD.nil _ _
  have HSS : Hid (∀ wr v', PFr No W0 (.slice none 0 0) wr v' → ∀ k, S k → wr.heap[k]? = w.heap[k]?) := fun wr v' h k hk => (h.lowD HnB.out (by omega) k (by have := HS.out k hk; omega)).trans (hb0.block k (HS.out k hk))
  have EB := E0
  have HbB := Lib.hid hb0
  have hBB : B ≤ W0.heap.size := by omega
  clear h1
  go_enter Try.func15, Try.ntmps15
  go_upto_region 2 with (fail)
  rw [HW0.out]
  go_upto_region 4 with (fail)
  obtain ⟨WB, hWB⟩ : ∃ WB, WB = W0 := ⟨_, rfl⟩
  subst hWB
  clear p0
  have c6 : WB.cell? ⟨w.heap.size, 6, none⟩ = some (.slice IA kn icap) := by rw [cell_of_row _ _ 6 _ _ _ EB.out]; simpa using D6.out
  go_wp2_with fail
  go_loopw [3, 20] (fun sv i wr => TLoop B WB (.slice none 0 0) [] (d.kid 0) (tabsR f) sv i wr) (fun _ i _ => kn - (intOf i).toNat)
  case atStart => exact TLoop.start HnB.out _ _
  case round =>
    obtain ⟨j, hj, rfl, ho, hpf⟩ := hrel
    have hz := hpf.size
    have hjn : j ≤ kn := by rw [← Hkn.out]; exact hj
    by_cases hlt : j < kn
    · obtain ⟨x, ad, hx, rfl, hbx, hat⟩ := (Hri.out.keep (HSS.out wr _ hpf) (fun _ h => h)).get (show j < (d.kid 0).length by rw [Hkn.out]; exact hlt)
      have hx0 := Hi.out x (mem_of_get? hx)
      have hxi := hx0.keep (HSS.out wr _ hpf) (fun _ h => h)
      have hx14 := hxi.len
      have HiE : Hid ((Try.prog.info? 31).map (·.size) = some x.c.length) := by show _ = _; rw [hx14]; exact sizeRel
      have HiE2 : Hid ((Try.prog.info? 31).map (·.size) = some x.c.toArray.size) := by show _ = _; rw [List.size_toArray, hx14]; exact sizeRel
      have Hz : Hid (x.c.toArray.size = 14) := by show _ = _; rw [List.size_toArray, hx14]; rfl
      have H1 := Lib.hid (all_one hxi.ones)
      have Hat := Lib.hid hat
      obtain ⟨W2, hW2⟩ : ∃ W2, wr.alloc (.cells x.c.toArray 31) = W2 := ⟨_, rfl⟩
      have Hcell : Hid (∀ j u, x.c[j]? = some u → W2.cell? ((⟨wr.heap.size, 0, none⟩ : Addr).add j) = some u) := by show ∀ j u, _ → _; rw [← hW2]; exact new_cells wr x.c 31
      have hbW2 : Below wr.heap.size wr W2 := by rw [← hW2]; exact bel1 _ _
      have hle := len_takeD (F := (tabsR f)) j hx
      have hxn := n_mem (mem_of_get? hx)
      have hSw : ∀ k, S k → k < wr.heap.size := fun k hk => by have := HS.out k hk; omega
      have hz2 := hbW2.size
      have hlen3 : ([] ++ ((d.kid 0).take j).flatMap (tabsR f)).length + (tabsR f x).length ≤ 1048576 := by simp only [List.length_append, List.length_nil, List.length_cons]; omega
      have Hcall : Hid (Calls Try.prog 15 #[.agg x.c.toArray] W2 (TPost (tabsR f x) W2)) := by
        show Calls _ _ _ _ _
        exact hQ x S W2 (hxi.keep (fun k hk => hbW2.block k (hSw k hk)) (fun _ h => h)) (fun k hk => by have := hSw k hk; omega) (by omega)
      have Hfx : Hid (∀ y, y ∈ tabsR f x → DT.In S w .rel y) := (tabs_in f).1 x hx0
      have Hx := Lib.hid hx
      have HW2 := Lib.hid hW2
      have Hpf := Lib.hid hpf
      have Ho := Lib.hid ho
      clear hat hxi hx14 hx hW2 hpf hle ho hx0
      go_upto_region 7 with (first | (refine wpList_load_st rfl 31 _ rfl _ Try.underlying31 rfl (ad.add (j * 14)) x.c HiE.out rfl Hat.out ?_) | (refine wpList_store_st rfl 31 _ _ rfl _ x.c.toArray HiE2.out Hz.out.symm H1.out rfl rfl ?_))
      rw [HW2.out]
      go_wp2_with (refine wpList_load_st rfl 31 _ rfl _ Try.underlying31 rfl ⟨wr.heap.size, 0, none⟩ x.c HiE.out rfl Hcell.out ?_)
      refine Hcall.out.mono ?_
      rintro e w3 ⟨v3, rfl, hown3, hb3⟩
      obtain ⟨A3, cap3, rfl, hsrc3, _, _, hxl3⟩ := own_srcN hown3
      have Hsrc3 := Lib.hid hsrc3
      have Hxl3 := Lib.hid hxl3
      have Hon3 : Hid (∀ u, u ∈ (tabsR f x).flatMap DT.c → u.oneCell' = true) := ones_flat Hfx.out
      have hbw3 : Below wr.heap.size wr w3 := hbW2.trans (hb3.mono hbW2.size)
      have Hown := Lib.hid (own_below Ho.out hbw3)
      have h3 : Hid (([] ++ ((d.kid 0).take j).flatMap (tabsR f)).length + (tabsR f x).length ≤ maxLen) := by show _ ≤ _; unfold maxLen; omega
      have h4 : Hid ((([] ++ ((d.kid 0).take j).flatMap (tabsR f)).length + (tabsR f x).length) * 248 ≤ 140737488355328) := by show _ ≤ _; omega
      have hzz : Hid (B ≤ w3.heap.size) := by show _ ≤ _; have := hbw3.size; omega
      clear hown3 hsrc3 hxl3
      go_wp2_with (at_builtin; refine wpList_append_row _ rfl _ _ 24 rfl B 31 i0 _ 14 248 Try.underlying24 hi iz isz iby rfl (by decide) u3 _ _ rfl Hown.out A3 (tabsR f x).length cap3 ((tabsR f x).flatMap DT.c) rfl Hxl3.out Hsrc3.out Hon3.out h3.out h4.out hzz.out ?_; intro sv' w4 hown4 hg4 hm4)
      have Hst : Hid (TLoop B WB (.slice none 0 0) [] (d.kid 0) (tabsR f) sv' (.int .i64 ((j : Int) + 1)) w4) := TLoop.step Hx.out Hpf.out hbw3 hown4 hg4 hm4
      clear hown4 hg4 hm4
      go_roundw
      case rel => first | exact Hst.out | ((repeat apply Exists.intro); exact ⟨Hst.out, rfl⟩)
      case measure => simp [intOf]; omega
    · obtain rfl : j = kn := by omega
      rw [show (d.kid 0).take j = d.kid 0 by rw [← Hkn.out]; exact List.take_length] at ho
      obtain ⟨wm, hwm⟩ : ∃ wm, wm = wr := ⟨_, rfl⟩
      subst hwm
      obtain ⟨um, hum⟩ : ∃ um, um = u3 := ⟨_, rfl⟩
      subst hum
      have em := (hpf.lowD HnB.out hBB w.heap.size (by omega)).trans EB.out
      have Hcm := Lib.hid (cells_of_heap em)
      have hSm : ∀ k, S k → k < wm.heap.size := fun k hk => by have := HS.out k hk; omega
      have Hex : Hid (Calls Try.prog 10 #[.agg d.c.toArray] wm (ExPost (relE d) wm)) := by
        show Calls _ _ _ _ _
        exact rExprsOf_any d S wm (Hd.out.keep (HSS.out wm um hpf) (fun _ h => h)) hSm (by omega)
      have Hie : Hid (∀ x, x ∈ relE d → DT.In S w .expr x) := Hd.out.relE
      obtain ⟨en, hen⟩ : ∃ n, (relE d).length = n := ⟨_, rfl⟩
      have hen2 : en ≤ 1048576 := by have := Hd.out.relLen; omega
      have HSm := Lib.hid (HSS.out wm um hpf)
      have Ho := Lib.hid ho
      have Hpf := Lib.hid hpf
      have Hen := Lib.hid hen
      have hzm := hz
      clear ho hpf em c6 hlt hz hSm
      go_wp2_with (refine wpList_load_st rfl 31 _ rfl _ Try.underlying31 rfl ⟨w.heap.size, 0, none⟩ d.c HiR.out rfl Hcm.out ?_)
      refine Hex.out.mono ?_
      rintro e we ⟨v2, rfl, hown2, hbe⟩
      obtain ⟨A2, cap2, rfl, hrow2⟩ := own_structs2 hown2 rfl (fun x hx => (Hie.out x hx).len)
      have Hrow2 := Lib.hid hrow2
      have hoe : OutD B we um ([] ++ (d.kid 0).flatMap (tabsR f)) := own_below Ho.out hbe
      have hze := hbe.size
      have HSE : Hid (∀ wr v'', PFr No we um wr v'' → ∀ (q : Nat), (∃ cs : Array Value, we.heap[q]? = some (Obj.cells cs 49 (0, 0))) → wr.heap[q]? = we.heap[q]?) := fun wr v'' h q hq => by
        obtain ⟨cs, hcs⟩ := hq
        exact h.keptD hoe hcs (by decide)
      have HSI : Hid (∀ wr v'', PFr No we um wr v'' → ∀ k, S k → wr.heap[k]? = w.heap[k]?) := fun wr v'' h k hk => (h.lowD hoe (by omega) k (by have := HS.out k hk; omega)).trans ((hbe.block k (by have := HS.out k hk; omega)).trans (HSm.out k hk))
      have Hoe := Lib.hid hoe
      clear hown2 hrow2 hoe
      rw [Hen.out]
      go_wp2_with fail
      go_loopw [3, 33] (fun sv i wr => TLoop B we um ([] ++ (d.kid 0).flatMap (tabsR f)) (relE d) (tabsE f) sv i wr) (fun _ i _ => en - (intOf i).toNat)
      case atStart => exact TLoop.start Hoe.out _ _
      case round =>
        obtain ⟨j, hj, rfl, ho, hpf⟩ := hrel
        have hz := hpf.size
        have hjn : j ≤ en := by rw [← Hen.out]; exact hj
        by_cases hlt : j < en
        · obtain ⟨x, ad, hx, rfl, hbx, hat⟩ := (Hrow2.out.keep (HSE.out wr _ hpf) (fun _ h => h)).get (show j < (relE d).length by rw [Hen.out]; exact hlt)
          have hx0 := Hie.out x (mem_of_get? hx)
          have hxi := hx0.keep (HSI.out wr _ hpf) (fun _ h => h)
          have hx14 := hxi.len
          have HiE : Hid ((Try.prog.info? 49).map (·.size) = some x.c.length) := by show _ = _; rw [hx14]; exact sizeExpr
          have HiE2 : Hid ((Try.prog.info? 49).map (·.size) = some x.c.toArray.size) := by show _ = _; rw [List.size_toArray, hx14]; exact sizeExpr
          have Hz : Hid (x.c.toArray.size = 14) := by show _ = _; rw [List.size_toArray, hx14]; rfl
          have H1 := Lib.hid (all_one hxi.ones)
          have Hat := Lib.hid hat
          obtain ⟨W2, hW2⟩ : ∃ W2, wr.alloc (.cells x.c.toArray 49) = W2 := ⟨_, rfl⟩
          have Hcell : Hid (∀ j u, x.c[j]? = some u → W2.cell? ((⟨wr.heap.size, 0, none⟩ : Addr).add j) = some u) := by show ∀ j u, _ → _; rw [← hW2]; exact new_cells wr x.c 49
          have hbW2 : Below wr.heap.size wr W2 := by rw [← hW2]; exact bel1 _ _
          have hle := len_takeD (F := (tabsE f)) j hx
          have hxn := n_mem (mem_of_get? hx)
          have hSw : ∀ k, S k → k < wr.heap.size := fun k hk => by have := HS.out k hk; omega
          have hz2 := hbW2.size
          have hlen3 : (([] ++ (d.kid 0).flatMap (tabsR f)) ++ ((relE d).take j).flatMap (tabsE f)).length + (tabsE f x).length ≤ 1048576 := by simp only [List.length_append, List.length_nil, List.length_cons]; omega
          have Hcall : Hid (Calls Try.prog 22 #[.agg x.c.toArray] W2 (TPost (tabsE f x) W2)) := by
            show Calls _ _ _ _ _
            exact hE x S W2 (hxi.keep (fun k hk => hbW2.block k (hSw k hk)) (fun _ h => h)) (fun k hk => by have := hSw k hk; omega) (by omega)
          have Hfx : Hid (∀ y, y ∈ tabsE f x → DT.In S w .rel y) := (tabs_in f).2 x hx0
          have Hx := Lib.hid hx
          have HW2 := Lib.hid hW2
          have Hpf := Lib.hid hpf
          have Ho := Lib.hid ho
          clear hat hxi hx14 hx hW2 hpf hle ho hx0
          go_upto_region 13 with (first | (refine wpList_load_st rfl 49 _ rfl _ Try.underlying49 rfl (ad.add (j * 14)) x.c HiE.out rfl Hat.out ?_) | (refine wpList_store_st rfl 49 _ _ rfl _ x.c.toArray HiE2.out Hz.out.symm H1.out rfl rfl ?_))
          rw [HW2.out]
          go_wp2_with (refine wpList_load_st rfl 49 _ rfl _ Try.underlying49 rfl ⟨wr.heap.size, 0, none⟩ x.c HiE.out rfl Hcell.out ?_)
          refine Hcall.out.mono ?_
          rintro e w3 ⟨v3, rfl, hown3, hb3⟩
          obtain ⟨A3, cap3, rfl, hsrc3, _, _, hxl3⟩ := own_srcN hown3
          have Hsrc3 := Lib.hid hsrc3
          have Hxl3 := Lib.hid hxl3
          have Hon3 : Hid (∀ u, u ∈ (tabsE f x).flatMap DT.c → u.oneCell' = true) := ones_flat Hfx.out
          have hbw3 : Below wr.heap.size wr w3 := hbW2.trans (hb3.mono hbW2.size)
          have Hown := Lib.hid (own_below Ho.out hbw3)
          have h3 : Hid ((([] ++ (d.kid 0).flatMap (tabsR f)) ++ ((relE d).take j).flatMap (tabsE f)).length + (tabsE f x).length ≤ maxLen) := by show _ ≤ _; unfold maxLen; omega
          have h4 : Hid (((([] ++ (d.kid 0).flatMap (tabsR f)) ++ ((relE d).take j).flatMap (tabsE f)).length + (tabsE f x).length) * 248 ≤ 140737488355328) := by show _ ≤ _; omega
          have hzz : Hid (B ≤ w3.heap.size) := by show _ ≤ _; have := hbw3.size; omega
          clear hown3 hsrc3 hxl3
          go_wp2_with (at_builtin; refine wpList_append_row _ rfl _ _ 24 rfl B 31 i0 _ 14 248 Try.underlying24 hi iz isz iby rfl (by decide) u3 _ _ rfl Hown.out A3 (tabsE f x).length cap3 ((tabsE f x).flatMap DT.c) rfl Hxl3.out Hsrc3.out Hon3.out h3.out h4.out hzz.out ?_; intro sv' w4 hown4 hg4 hm4)
          have Hst : Hid (TLoop B we um ([] ++ (d.kid 0).flatMap (tabsR f)) (relE d) (tabsE f) sv' (.int .i64 ((j : Int) + 1)) w4) := TLoop.step Hx.out Hpf.out hbw3 hown4 hg4 hm4
          clear hown4 hg4 hm4
          go_roundw
          case rel => first | exact Hst.out | ((repeat apply Exists.intro); exact ⟨Hst.out, rfl⟩)
          case measure => simp [intOf]; omega
        · obtain rfl : j = en := by omega
          rw [show (relE d).take j = relE d by rw [← Hen.out]; exact List.take_length] at ho
          have hbF : Below w.heap.size w wr := HbB.out.trans ((((Hpf.out.belowD HnB.out hBB).trans (hbe.mono (by omega))).trans (hpf.belowD Hoe.out (by omega))).mono (by omega))
          go_wp2_with fail
          go_ret
          exact ⟨_, rfl, own_base ho (by omega), hbF⟩
set_option maxRecDepth 100000 in
set_option maxHeartbeats 8000000 in
theorem tablesOf_tab (f : Nat) (hf : f + 1 ≤ 1048576) (hQ : TQ f) (hE : TE f) (d : DT) (S : Nat → Prop) (w : World) (hd : DT.In S w .rel d) (hS : ∀ k, S k → k < w.heap.size) (hn : d.n ≤ f + 1) (h1 : dInt d 0 = 1) :
    Calls Try.prog 15 #[.agg d.c.toArray] w (TPost (tabsR (f + 1) d) w) := by
  have hone := hd.ones
  obtain ⟨i0, hi, iz, isz, iby⟩ := info_parts infoRel
  obtain ⟨d0, _, _, ⟨IA, icap, d6, ri⟩, _, ii, _, _⟩ := hd.relCells
  have hkr := nL_relE d
  have hlen := hd.len
  have hl1 := len_flat_n (f := tabsR f) (l := d.kid 0) (tabs_len f).1
  have hl2 := len_flat_n (f := tabsE f) (l := relE d) (tabs_len f).2
  rw [tabsR]
  have Hi := Lib.hid ii
  have Hri := Lib.hid ri
  obtain ⟨kn, hkn⟩ : ∃ n, (d.kid 0).length = n := ⟨_, rfl⟩
  have hkn2 : kn ≤ 1048576 := by have := len_nL (d.kid 0); omega
  rw [hkn] at d6
  obtain ⟨W0, hW0⟩ : ∃ W0, w.alloc (.cells d.c.toArray 31) = W0 := ⟨_, rfl⟩
  have hb0 : Below w.heap.size w W0 := by rw [← hW0]; exact bel1 _ _
  have e0 : W0.heap[w.heap.size]? = some (.cells d.c.toArray 31 (0, 0)) := by rw [← hW0]; exact heap_alloc_new w _
  have hz0 : W0.heap.size = w.heap.size + 1 := by rw [← hW0]; simp
  obtain ⟨kd, hkd⟩ : ∃ k, dInt d 0 = k := ⟨_, rfl⟩
  rw [hkd] at d0
  have p0 : W0.cell? ⟨w.heap.size, 0, none⟩ = some (.int .i64 kd) := by rw [cell_of_row _ _ 0 _ _ _ e0]; simpa using d0
  obtain ⟨B, hB1, hB2⟩ : ∃ B, W0.heap.size ≤ B ∧ B ≤ W0.heap.size := ⟨_, Nat.le_refl _, Nat.le_refl _⟩
  have HiR : Hid ((Try.prog.info? 31).map (·.size) = some d.c.length) := by show _ = _; rw [hlen]; exact sizeRel
  have HW0 := Lib.hid hW0
  have E0 := Lib.hid e0
  have HS : Hid (∀ k, S k → k < w.heap.size) := hS
  have D6 := Lib.hid d6
  have Hkn := Lib.hid hkn
  have Hd := Lib.hid hd
  have Hkd := Lib.hid hkd
  have Hlen := Lib.hid hlen
  clear hW0 e0 hS hd d0 d6 ii ri hkn hlen hkd
  obtain rfl : kd = 1 := by rw [← Hkd.out]; exact h1
  rw [if_pos h1]
  have Hn0 : Hid (OutD B W0 (.slice none 0 0) []) := OutD.nil _ _
  have hBB0 : B ≤ W0.heap.size := by omega
  have h3 : Hid (0 + 1 ≤ maxLen) := by show _ ≤ _; unfold maxLen; omega
  have h4 : Hid ((0 + 1) * 248 ≤ 140737488355328) := by show _ ≤ _; omega
  have h5 : Hid (∀ o, B ≤ (W0.alloc o).heap.size) := fun o => by simp; omega
  have Hs5 : Hid (SrcAt (W0.alloc (.cells d.c.toArray 31)) (some ⟨w.heap.size + 1, 0, none⟩) d.c) := by
    show SrcAt _ _ _
    rw [← hz0]
    exact new_src W0 d.c.toArray _
  have Hcd : Hid (∀ j u, d.c[j]? = some u → W0.cell? ((⟨w.heap.size, 0, none⟩ : Addr).add j) = some u) := cells_of_heap E0.out
  have Hz14 : Hid (d.c.toArray.size = 14) := by show _ = _; rw [List.size_toArray, Hlen.out]; rfl
  have Hl14 : Hid (d.c.length = 1 * 14) := Hlen.out
  have Hz0 := Lib.hid hz0
  have Hone := Lib.hid hone
  clear h1 hone
  go_enter Try.func15, Try.ntmps15
  go_upto_region 2 with (fail)
  rw [HW0.out]
  go_upto_region 4 with (first | (refine wpList_load_st rfl 31 _ rfl _ Try.underlying31 rfl ⟨w.heap.size, 0, none⟩ d.c HiR.out rfl Hcd.out ?_) | (refine wpList_one_at (w.heap.size + 1) Hz0.out rfl 24 31 _ rfl i0 Try.underlying24 hi _ iz d.c.toArray (isz.trans Hz14.out.symm) Hz14.out.symm (by rw [Hz14.out]; decide) (by rw [Hz14.out]; decide) rfl ?_) | (at_builtin; refine wpList_append_row _ rfl _ _ 24 rfl B 31 i0 _ 14 248 Try.underlying24 hi iz isz iby rfl (by decide) (.slice none 0 0) 0 [] rfl (World.ownsRow_nil _ _ _ _) (some ⟨w.heap.size + 1, 0, none⟩) 1 1 d.c rfl Hl14.out Hs5.out Hone.out h3.out h4.out (h5.out _) ?_; intro sv1 w1 hown1 hg1 hm1))
  have hp1 : PFr No W0 (.slice none 0 0) w1 sv1 := pfr_step (bel1 W0 (.cells d.c.toArray 31)) hg1 hm1
  have hn1 : OutD B w1 sv1 [d] := by simpa [OutD] using hown1
  obtain ⟨WB, hWB⟩ : ∃ WB, WB = w1 := ⟨_, rfl⟩
  subst hWB
  have hB1 := hp1.belowD Hn0.out hBB0
  have EB := Lib.hid ((hp1.lowD Hn0.out hBB0 w.heap.size (by omega)).trans E0.out)
  have HbB : Hid (Below w.heap.size w WB) := hb0.trans (hB1.mono (by omega))
  have hBB : B ≤ WB.heap.size := by have := hB1.size; omega
  have HnB := Lib.hid hn1
  have HSS : Hid (∀ wr v', PFr No WB sv1 wr v' → ∀ k, S k → wr.heap[k]? = w.heap[k]?) := fun wr v' h k hk => (h.lowD HnB.out hBB k (by have := HS.out k hk; omega)).trans (HbB.out.block k (HS.out k hk))
  have hz1 := hB1.size
  clear hown1 hg1 hm1 hn1 hp1 hB1 p0
  have c6 : WB.cell? ⟨w.heap.size, 6, none⟩ = some (.slice IA kn icap) := by rw [cell_of_row _ _ 6 _ _ _ EB.out]; simpa using D6.out
  go_wp2_with fail
  go_loopw [3, 20] (fun sv i wr => TLoop B WB sv1 [d] (d.kid 0) (tabsR f) sv i wr) (fun _ i _ => kn - (intOf i).toNat)
  case atStart => exact TLoop.start HnB.out _ _
  case round =>
    obtain ⟨j, hj, rfl, ho, hpf⟩ := hrel
    have hz := hpf.size
    have hjn : j ≤ kn := by rw [← Hkn.out]; exact hj
    by_cases hlt : j < kn
    · obtain ⟨x, ad, hx, rfl, hbx, hat⟩ := (Hri.out.keep (HSS.out wr _ hpf) (fun _ h => h)).get (show j < (d.kid 0).length by rw [Hkn.out]; exact hlt)
      have hx0 := Hi.out x (mem_of_get? hx)
      have hxi := hx0.keep (HSS.out wr _ hpf) (fun _ h => h)
      have hx14 := hxi.len
      have HiE : Hid ((Try.prog.info? 31).map (·.size) = some x.c.length) := by show _ = _; rw [hx14]; exact sizeRel
      have HiE2 : Hid ((Try.prog.info? 31).map (·.size) = some x.c.toArray.size) := by show _ = _; rw [List.size_toArray, hx14]; exact sizeRel
      have Hz : Hid (x.c.toArray.size = 14) := by show _ = _; rw [List.size_toArray, hx14]; rfl
      have H1 := Lib.hid (all_one hxi.ones)
      have Hat := Lib.hid hat
      obtain ⟨W2, hW2⟩ : ∃ W2, wr.alloc (.cells x.c.toArray 31) = W2 := ⟨_, rfl⟩
      have Hcell : Hid (∀ j u, x.c[j]? = some u → W2.cell? ((⟨wr.heap.size, 0, none⟩ : Addr).add j) = some u) := by show ∀ j u, _ → _; rw [← hW2]; exact new_cells wr x.c 31
      have hbW2 : Below wr.heap.size wr W2 := by rw [← hW2]; exact bel1 _ _
      have hle := len_takeD (F := (tabsR f)) j hx
      have hxn := n_mem (mem_of_get? hx)
      have hSw : ∀ k, S k → k < wr.heap.size := fun k hk => by have := HS.out k hk; omega
      have hz2 := hbW2.size
      have hlen3 : ([d] ++ ((d.kid 0).take j).flatMap (tabsR f)).length + (tabsR f x).length ≤ 1048576 := by simp only [List.length_append, List.length_nil, List.length_cons]; omega
      have Hcall : Hid (Calls Try.prog 15 #[.agg x.c.toArray] W2 (TPost (tabsR f x) W2)) := by
        show Calls _ _ _ _ _
        exact hQ x S W2 (hxi.keep (fun k hk => hbW2.block k (hSw k hk)) (fun _ h => h)) (fun k hk => by have := hSw k hk; omega) (by omega)
      have Hfx : Hid (∀ y, y ∈ tabsR f x → DT.In S w .rel y) := (tabs_in f).1 x hx0
      have Hx := Lib.hid hx
      have HW2 := Lib.hid hW2
      have Hpf := Lib.hid hpf
      have Ho := Lib.hid ho
      clear hat hxi hx14 hx hW2 hpf hle ho hx0
      go_upto_region 7 with (first | (refine wpList_load_st rfl 31 _ rfl _ Try.underlying31 rfl (ad.add (j * 14)) x.c HiE.out rfl Hat.out ?_) | (refine wpList_store_st rfl 31 _ _ rfl _ x.c.toArray HiE2.out Hz.out.symm H1.out rfl rfl ?_))
      rw [HW2.out]
      go_wp2_with (refine wpList_load_st rfl 31 _ rfl _ Try.underlying31 rfl ⟨wr.heap.size, 0, none⟩ x.c HiE.out rfl Hcell.out ?_)
      refine Hcall.out.mono ?_
      rintro e w3 ⟨v3, rfl, hown3, hb3⟩
      obtain ⟨A3, cap3, rfl, hsrc3, _, _, hxl3⟩ := own_srcN hown3
      have Hsrc3 := Lib.hid hsrc3
      have Hxl3 := Lib.hid hxl3
      have Hon3 : Hid (∀ u, u ∈ (tabsR f x).flatMap DT.c → u.oneCell' = true) := ones_flat Hfx.out
      have hbw3 : Below wr.heap.size wr w3 := hbW2.trans (hb3.mono hbW2.size)
      have Hown := Lib.hid (own_below Ho.out hbw3)
      have h3 : Hid (([d] ++ ((d.kid 0).take j).flatMap (tabsR f)).length + (tabsR f x).length ≤ maxLen) := by show _ ≤ _; unfold maxLen; omega
      have h4 : Hid ((([d] ++ ((d.kid 0).take j).flatMap (tabsR f)).length + (tabsR f x).length) * 248 ≤ 140737488355328) := by show _ ≤ _; omega
      have hzz : Hid (B ≤ w3.heap.size) := by show _ ≤ _; have := hbw3.size; omega
      clear hown3 hsrc3 hxl3
      go_wp2_with (at_builtin; refine wpList_append_row _ rfl _ _ 24 rfl B 31 i0 _ 14 248 Try.underlying24 hi iz isz iby rfl (by decide) u3 _ _ rfl Hown.out A3 (tabsR f x).length cap3 ((tabsR f x).flatMap DT.c) rfl Hxl3.out Hsrc3.out Hon3.out h3.out h4.out hzz.out ?_; intro sv' w4 hown4 hg4 hm4)
      have Hst : Hid (TLoop B WB sv1 [d] (d.kid 0) (tabsR f) sv' (.int .i64 ((j : Int) + 1)) w4) := TLoop.step Hx.out Hpf.out hbw3 hown4 hg4 hm4
      clear hown4 hg4 hm4
      go_roundw
      case rel => first | exact Hst.out | ((repeat apply Exists.intro); exact ⟨Hst.out, rfl⟩)
      case measure => simp [intOf]; omega
    · obtain rfl : j = kn := by omega
      rw [show (d.kid 0).take j = d.kid 0 by rw [← Hkn.out]; exact List.take_length] at ho
      obtain ⟨wm, hwm⟩ : ∃ wm, wm = wr := ⟨_, rfl⟩
      subst hwm
      obtain ⟨um, hum⟩ : ∃ um, um = u3 := ⟨_, rfl⟩
      subst hum
      have em := (hpf.lowD HnB.out hBB w.heap.size (by omega)).trans EB.out
      have Hcm := Lib.hid (cells_of_heap em)
      have hSm : ∀ k, S k → k < wm.heap.size := fun k hk => by have := HS.out k hk; omega
      have Hex : Hid (Calls Try.prog 10 #[.agg d.c.toArray] wm (ExPost (relE d) wm)) := by
        show Calls _ _ _ _ _
        exact rExprsOf_any d S wm (Hd.out.keep (HSS.out wm um hpf) (fun _ h => h)) hSm (by omega)
      have Hie : Hid (∀ x, x ∈ relE d → DT.In S w .expr x) := Hd.out.relE
      obtain ⟨en, hen⟩ : ∃ n, (relE d).length = n := ⟨_, rfl⟩
      have hen2 : en ≤ 1048576 := by have := Hd.out.relLen; omega
      have HSm := Lib.hid (HSS.out wm um hpf)
      have Ho := Lib.hid ho
      have Hpf := Lib.hid hpf
      have Hen := Lib.hid hen
      have hzm := hz
      clear ho hpf em c6 hlt hz hSm
      go_wp2_with (refine wpList_load_st rfl 31 _ rfl _ Try.underlying31 rfl ⟨w.heap.size, 0, none⟩ d.c HiR.out rfl Hcm.out ?_)
      refine Hex.out.mono ?_
      rintro e we ⟨v2, rfl, hown2, hbe⟩
      obtain ⟨A2, cap2, rfl, hrow2⟩ := own_structs2 hown2 rfl (fun x hx => (Hie.out x hx).len)
      have Hrow2 := Lib.hid hrow2
      have hoe : OutD B we um ([d] ++ (d.kid 0).flatMap (tabsR f)) := own_below Ho.out hbe
      have hze := hbe.size
      have HSE : Hid (∀ wr v'', PFr No we um wr v'' → ∀ (q : Nat), (∃ cs : Array Value, we.heap[q]? = some (Obj.cells cs 49 (0, 0))) → wr.heap[q]? = we.heap[q]?) := fun wr v'' h q hq => by
        obtain ⟨cs, hcs⟩ := hq
        exact h.keptD hoe hcs (by decide)
      have HSI : Hid (∀ wr v'', PFr No we um wr v'' → ∀ k, S k → wr.heap[k]? = w.heap[k]?) := fun wr v'' h k hk => (h.lowD hoe (by omega) k (by have := HS.out k hk; omega)).trans ((hbe.block k (by have := HS.out k hk; omega)).trans (HSm.out k hk))
      have Hoe := Lib.hid hoe
      clear hown2 hrow2 hoe
      rw [Hen.out]
      go_wp2_with fail
      go_loopw [3, 33] (fun sv i wr => TLoop B we um ([d] ++ (d.kid 0).flatMap (tabsR f)) (relE d) (tabsE f) sv i wr) (fun _ i _ => en - (intOf i).toNat)
      case atStart => exact TLoop.start Hoe.out _ _
      case round =>
        obtain ⟨j, hj, rfl, ho, hpf⟩ := hrel
        have hz := hpf.size
        have hjn : j ≤ en := by rw [← Hen.out]; exact hj
        by_cases hlt : j < en
        · obtain ⟨x, ad, hx, rfl, hbx, hat⟩ := (Hrow2.out.keep (HSE.out wr _ hpf) (fun _ h => h)).get (show j < (relE d).length by rw [Hen.out]; exact hlt)
          have hx0 := Hie.out x (mem_of_get? hx)
          have hxi := hx0.keep (HSI.out wr _ hpf) (fun _ h => h)
          have hx14 := hxi.len
          have HiE : Hid ((Try.prog.info? 49).map (·.size) = some x.c.length) := by show _ = _; rw [hx14]; exact sizeExpr
          have HiE2 : Hid ((Try.prog.info? 49).map (·.size) = some x.c.toArray.size) := by show _ = _; rw [List.size_toArray, hx14]; exact sizeExpr
          have Hz : Hid (x.c.toArray.size = 14) := by show _ = _; rw [List.size_toArray, hx14]; rfl
          have H1 := Lib.hid (all_one hxi.ones)
          have Hat := Lib.hid hat
          obtain ⟨W2, hW2⟩ : ∃ W2, wr.alloc (.cells x.c.toArray 49) = W2 := ⟨_, rfl⟩
          have Hcell : Hid (∀ j u, x.c[j]? = some u → W2.cell? ((⟨wr.heap.size, 0, none⟩ : Addr).add j) = some u) := by show ∀ j u, _ → _; rw [← hW2]; exact new_cells wr x.c 49
          have hbW2 : Below wr.heap.size wr W2 := by rw [← hW2]; exact bel1 _ _
          have hle := len_takeD (F := (tabsE f)) j hx
          have hxn := n_mem (mem_of_get? hx)
          have hSw : ∀ k, S k → k < wr.heap.size := fun k hk => by have := HS.out k hk; omega
          have hz2 := hbW2.size
          have hlen3 : (([d] ++ (d.kid 0).flatMap (tabsR f)) ++ ((relE d).take j).flatMap (tabsE f)).length + (tabsE f x).length ≤ 1048576 := by simp only [List.length_append, List.length_nil, List.length_cons]; omega
          have Hcall : Hid (Calls Try.prog 22 #[.agg x.c.toArray] W2 (TPost (tabsE f x) W2)) := by
            show Calls _ _ _ _ _
            exact hE x S W2 (hxi.keep (fun k hk => hbW2.block k (hSw k hk)) (fun _ h => h)) (fun k hk => by have := hSw k hk; omega) (by omega)
          have Hfx : Hid (∀ y, y ∈ tabsE f x → DT.In S w .rel y) := (tabs_in f).2 x hx0
          have Hx := Lib.hid hx
          have HW2 := Lib.hid hW2
          have Hpf := Lib.hid hpf
          have Ho := Lib.hid ho
          clear hat hxi hx14 hx hW2 hpf hle ho hx0
          go_upto_region 13 with (first | (refine wpList_load_st rfl 49 _ rfl _ Try.underlying49 rfl (ad.add (j * 14)) x.c HiE.out rfl Hat.out ?_) | (refine wpList_store_st rfl 49 _ _ rfl _ x.c.toArray HiE2.out Hz.out.symm H1.out rfl rfl ?_))
          rw [HW2.out]
          go_wp2_with (refine wpList_load_st rfl 49 _ rfl _ Try.underlying49 rfl ⟨wr.heap.size, 0, none⟩ x.c HiE.out rfl Hcell.out ?_)
          refine Hcall.out.mono ?_
          rintro e w3 ⟨v3, rfl, hown3, hb3⟩
          obtain ⟨A3, cap3, rfl, hsrc3, _, _, hxl3⟩ := own_srcN hown3
          have Hsrc3 := Lib.hid hsrc3
          have Hxl3 := Lib.hid hxl3
          have Hon3 : Hid (∀ u, u ∈ (tabsE f x).flatMap DT.c → u.oneCell' = true) := ones_flat Hfx.out
          have hbw3 : Below wr.heap.size wr w3 := hbW2.trans (hb3.mono hbW2.size)
          have Hown := Lib.hid (own_below Ho.out hbw3)
          have h3 : Hid ((([d] ++ (d.kid 0).flatMap (tabsR f)) ++ ((relE d).take j).flatMap (tabsE f)).length + (tabsE f x).length ≤ maxLen) := by show _ ≤ _; unfold maxLen; omega
          have h4 : Hid (((([d] ++ (d.kid 0).flatMap (tabsR f)) ++ ((relE d).take j).flatMap (tabsE f)).length + (tabsE f x).length) * 248 ≤ 140737488355328) := by show _ ≤ _; omega
          have hzz : Hid (B ≤ w3.heap.size) := by show _ ≤ _; have := hbw3.size; omega
          clear hown3 hsrc3 hxl3
          go_wp2_with (at_builtin; refine wpList_append_row _ rfl _ _ 24 rfl B 31 i0 _ 14 248 Try.underlying24 hi iz isz iby rfl (by decide) u3 _ _ rfl Hown.out A3 (tabsE f x).length cap3 ((tabsE f x).flatMap DT.c) rfl Hxl3.out Hsrc3.out Hon3.out h3.out h4.out hzz.out ?_; intro sv' w4 hown4 hg4 hm4)
          have Hst : Hid (TLoop B we um ([d] ++ (d.kid 0).flatMap (tabsR f)) (relE d) (tabsE f) sv' (.int .i64 ((j : Int) + 1)) w4) := TLoop.step Hx.out Hpf.out hbw3 hown4 hg4 hm4
          clear hown4 hg4 hm4
          go_roundw
          case rel => first | exact Hst.out | ((repeat apply Exists.intro); exact ⟨Hst.out, rfl⟩)
          case measure => simp [intOf]; omega
        · obtain rfl : j = en := by omega
          rw [show (relE d).take j = relE d by rw [← Hen.out]; exact List.take_length] at ho
          have hbF : Below w.heap.size w wr := HbB.out.trans ((((Hpf.out.belowD HnB.out hBB).trans (hbe.mono (by omega))).trans (hpf.belowD Hoe.out (by omega))).mono (by omega))
          go_wp2_with fail
          go_ret
          exact ⟨_, rfl, own_base ho (by omega), hbF⟩
theorem tables_all : ∀ f, f ≤ 1048576 → TQ f ∧ TE f
  | 0, _ => ⟨fun d S w hd hS hn => by have := d.n_pos; omega, fun d S w hd hS hn => by have := d.n_pos; omega⟩
  | f + 1, hf => by
    obtain ⟨hQ, hE⟩ := tables_all f (by omega)
    refine ⟨fun d S w hd hS hn => ?_, tablesIn_step f hf hE hQ⟩
    by_cases h1 : dInt d 0 = 1
    · exact tablesOf_tab f hf hQ hE d S w hd hS hn h1
    · exact tablesOf_not f hf hQ hE d S w hd hS hn h1
end Go.Proofs.Ytoeamomklmoncaa
