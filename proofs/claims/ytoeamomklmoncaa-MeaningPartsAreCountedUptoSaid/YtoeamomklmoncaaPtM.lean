/-
  The visitor that gathers tables, over a relation; meaning.Tables.
-/
import Derived.Test.YtoeamomklmoncaaPtL
import Derived.Test.YtoeamomklmoncaaPtK
namespace Go.Proofs.Ytoeamomklmoncaa
open Go.RowKit Go.Sort
set_option maxRecDepth 100000 in
set_option maxHeartbeats 4000000 in
theorem vrel_step (hT : TabOk) (g B f : Nat) (hf : f + 1 ≤ 1048576) (hE : VE g B f) (hR : VR g B f) : VR g B (f + 1) := by
  intro d v w L S hd hS hn hi hL
  obtain ⟨_, _, _, ⟨IA, icap, d6, ri⟩, _, ii, _, _⟩ := hd.relCells
  have hkr := nL_relE d
  have hlt := hi.lt
  have hlen := hd.len
  have hmeth := methTR
  rw [tabsR] at hL ⊢
  simp only [List.length_append] at hL
  have HiD : Hid ((Try.prog.info? 31).map (·.size) = some d.c.length) := by show _ = _; rw [hlen]; exact sizeRel
  have Hi := Lib.hid ii
  have Hri := Lib.hid ri
  obtain ⟨kn, hkn⟩ : ∃ n, (d.kid 0).length = n := ⟨_, rfl⟩
  have hkn2 : kn ≤ 1048576 := by have := len_nL (d.kid 0); omega
  rw [hkn] at d6
  obtain ⟨own, hown⟩ : ∃ o, (if dInt d 0 = 1 then [d] else []) = o := ⟨_, rfl⟩
  have hol : own.length ≤ 1 := by rw [← hown]; split <;> simp
  obtain ⟨W0, hW0⟩ : ∃ W0, w.alloc (.cells d.c.toArray 31) = W0 := ⟨_, rfl⟩
  have hb0 : Below w.heap.size w W0 := by rw [← hW0]; exact bel1 _ _
  have e0 : W0.heap[w.heap.size]? = some (.cells d.c.toArray 31 (0, 0)) := by rw [← hW0]; exact heap_alloc_new w _
  have Hcd : Hid (∀ j u, d.c[j]? = some u → W0.cell? ((⟨w.heap.size, 0, none⟩ : Addr).add j) = some u) := cells_of_heap e0
  have hi0 := hi.below hb0
  have hvne : some w.heap.size ≠ v.ownBlock := fun e => by have := (hi.2.2.lt _ e.symm).2; omega
  have hLb : L.length + 1 ≤ 1048576 ∨ dInt d 0 ≠ 1 := by
    by_cases h1 : dInt d 0 = 1
    · rw [if_pos h1] at hown
      left
      rw [if_pos h1] at hL
      simp at hL
      omega
    · exact .inr h1
  have hL1 : L.length + own.length + ((d.kid 0).flatMap (tabsR f)).length + ((relE d).flatMap (tabsE f)).length ≤ 1048576 := by rw [hown] at hL; omega
  have hvis : Hid (Calls Try.prog 66 #[.pointer (some ⟨g, 0, none⟩), .agg d.c.toArray] W0 (XPost g B v (L ++ own) W0)) := by
    rw [← hown]
    show Calls _ _ _ _ _
    exact hT g B d S W0 v L (hd.keep (fun k hk => hb0.block k (by have := hS k hk; omega)) (fun _ h => h)) hi0 hLb
  rw [hown]
  have HW0 := Lib.hid hW0
  have E0 := Lib.hid e0
  have HS := Lib.hid hS
  have D6 := Lib.hid d6
  have Hkn := Lib.hid hkn
  have Hi0 := Lib.hid hi0
  have Hd := Lib.hid hd
  clear hW0 e0 hS hd d6 ii ri hkn hlen hi hi0 hown hL hLb
  go_enter Try.func9, Try.ntmps9
  go_upto_region 1 with (fail)
  rw [HW0.out]
  go_wp2_with (refine wpList_load_st rfl 31 _ rfl _ Try.underlying31 rfl ⟨w.heap.size, 0, none⟩ d.c HiD.out rfl Hcd.out ?_)
  refine hvis.out.mono ?_
  rintro e W1 ⟨rfl, v1, hi1, hp1⟩
  have hng : w.heap.size ≠ g := by omega
  have Hbox : Hid (∀ wr v', PFr (· = g) W0 v wr v' → wr.heap[w.heap.size]? = some (.cells d.c.toArray 31 (0, 0))) := fun wr v' h => (h.block _ (Array.getElem?_eq_some_iff.1 E0.out).1 hng hvne).trans E0.out
  have e1 := Hbox.out W1 v1 hp1
  have c6 : W1.cell? ⟨w.heap.size, 6, none⟩ = some (.slice IA kn icap) := by rw [cell_of_row _ _ 6 _ _ _ e1]; simpa using D6.out
  have HSS : Hid (∀ wr v', PFr (· = g) W1 v1 wr v' → ∀ k, S k → wr.heap[k]? = w.heap[k]?) := fun wr v' h k hk => by
    have hkB := HS.out k hk
    exact (h.lowX hi1 k hkB).trans ((hp1.lowX Hi0.out k hkB).trans (hb0.block k (by omega)))
  have Hi1 := Lib.hid hi1
  have Hp1 := Lib.hid hp1
  clear e1 hi1 hp1 hvne
  go_wp2_with fail
  go_loopw [14] (fun i wr => VLoop g B W1 v1 (L ++ own) (d.kid 0) (tabsR f) i wr) (fun i _ => kn - (intOf i).toNat)
  case atStart => exact VLoop.start Hi1.out _ _
  case round =>
    obtain ⟨j, v', hj, rfl, hti, hpf⟩ := hrel
    have hz := hpf.size
    have hjn : j ≤ kn := by rw [← Hkn.out]; exact hj
    by_cases hlt : j < kn
    · obtain ⟨x, ad, hx, rfl, hbx, hat⟩ := (Hri.out.keep (HSS.out wr v' hpf) (fun _ h => h)).get (show j < (d.kid 0).length by rw [Hkn.out]; exact hlt)
      have hxi := (Hi.out x (mem_of_get? hx)).keep (HSS.out wr v' hpf) (fun _ h => h)
      have hx14 := hxi.len
      have HiE : Hid ((Try.prog.info? 31).map (·.size) = some x.c.length) := by show _ = _; rw [hx14]; exact sizeRel
      have HiE2 : Hid ((Try.prog.info? 31).map (·.size) = some x.c.toArray.size) := by show _ = _; rw [List.size_toArray, hx14]; exact sizeRel
      have Hz : Hid (x.c.toArray.size = 14) := by show _ = _; rw [List.size_toArray, hx14]; rfl
      have H1 := Lib.hid (all_one hxi.ones)
      have Hat := Lib.hid hat
      obtain ⟨W2, hW2⟩ : ∃ W2, wr.alloc (.cells x.c.toArray 31) = W2 := ⟨_, rfl⟩
      have Hcell : Hid (∀ j u, x.c[j]? = some u → W2.cell? ((⟨wr.heap.size, 0, none⟩ : Addr).add j) = some u) := by show ∀ j u, _ → _; rw [← hW2]; exact new_cells wr x.c 31
      have hbW2 : Below wr.heap.size wr W2 := by rw [← hW2]; exact bel1 _ _
      have hle := len_takeD (F := (tabsR f)) j hx
      have hxn := n_mem (mem_of_get? hx)
      have Hcall : Hid (Calls Try.prog 9 #[.iface 51 (.pointer (some ⟨g, 0, none⟩)), .agg x.c.toArray] W2 (XPost g B v' ((L ++ own) ++ ((d.kid 0).take j).flatMap (tabsR f) ++ tabsR f x) W2)) := by
        show Calls _ _ _ _ _
        exact hR x v' W2 _ S (hxi.keep (fun k hk => hbW2.block k (by have := HS.out k hk; have := hti.lt; omega)) (fun _ h => h)) HS.out (by omega) (hti.below hbW2) (by simp only [List.length_append]; omega)
      have Hx := Lib.hid hx
      have HW2 := Lib.hid hW2
      have Hpf := Lib.hid hpf
      clear hat hxi hx14 hx hW2 hti hpf hle
      go_upto_region 5 with (first | (refine wpList_load_st rfl 31 _ rfl _ Try.underlying31 rfl (ad.add (j * 14)) x.c HiE.out rfl Hat.out ?_) | (refine wpList_store_st rfl 31 _ _ rfl _ x.c.toArray HiE2.out Hz.out.symm H1.out rfl rfl ?_))
      rw [HW2.out]
      go_wp2_with (refine wpList_load_st rfl 31 _ rfl _ Try.underlying31 rfl ⟨wr.heap.size, 0, none⟩ x.c HiE.out rfl Hcell.out ?_)
      refine Hcall.out.mono ?_
      rintro e w3 ⟨rfl, v3, hti3, hpf3⟩
      have Hst : Hid (VLoop g B W1 v1 (L ++ own) (d.kid 0) (tabsR f) (.int .i64 ((j : Int) + 1)) w3) := VLoop.step Hx.out Hpf.out hbW2 hti3 hpf3
      clear hti3 hpf3
      go_wp2_with fail
      go_roundw
      case rel => exact Hst.out
      case measure => simp [intOf]; omega
    · obtain rfl : j = kn := by omega
      rw [show (d.kid 0).take j = d.kid 0 by rw [← Hkn.out]; exact List.take_length] at hti
      obtain ⟨wm, hwm⟩ : ∃ wm, wm = wr := ⟨_, rfl⟩
      subst hwm
      obtain ⟨vm, hvm⟩ : ∃ vm, vm = v' := ⟨_, rfl⟩
      subst hvm
      have Hcm := Lib.hid (cells_of_heap (Hbox.out wm vm (Hp1.out.trans hpf)))
      have hSm : ∀ k, S k → k < wm.heap.size := fun k hk => by have := HS.out k hk; have := hti.lt; omega
      have Hex : Hid (Calls Try.prog 17 #[.agg d.c.toArray] wm (ExPost (relE d) wm)) := by
        show Calls _ _ _ _ _
        exact mexprsOf_any d S wm (Hd.out.keep (HSS.out wm vm hpf) (fun _ h => h)) hSm (by omega)
      have Hie : Hid (∀ x, x ∈ relE d → DT.In S w .expr x) := Hd.out.relE
      obtain ⟨en, hen⟩ : ∃ n, (relE d).length = n := ⟨_, rfl⟩
      have hen2 : en ≤ 1048576 := by have := Hd.out.relLen; omega
      have HSm := Lib.hid (HSS.out wm vm hpf)
      have Hti := Lib.hid hti
      have Hpf := Lib.hid hpf
      have Hen := Lib.hid hen
      clear hti hpf c6 hlt hz hSm
      go_wp2_with (refine wpList_load_st rfl 31 _ rfl _ Try.underlying31 rfl ⟨w.heap.size, 0, none⟩ d.c HiD.out rfl Hcm.out ?_)
      refine Hex.out.mono ?_
      rintro e we ⟨v2, rfl, hown2, hbe⟩
      obtain ⟨A2, cap2, rfl, hrow2⟩ := own_structs2 hown2 rfl (fun x hx => (Hie.out x hx).len)
      have Hrow2 := Lib.hid hrow2
      have hte := Hti.out.below hbe
      have HSE : Hid (∀ wr v'', PFr (· = g) we vm wr v'' → ∀ (q : Nat), (∃ cs : Array Value, we.heap[q]? = some (Obj.cells cs 49 (0, 0))) → wr.heap[q]? = we.heap[q]?) := fun wr v'' h q hq => by
        obtain ⟨cs, hcs⟩ := hq
        exact h.keptX hte hcs (by decide) (by decide)
      have HSI : Hid (∀ wr v'', PFr (· = g) we vm wr v'' → ∀ k, S k → wr.heap[k]? = w.heap[k]?) := fun wr v'' h k hk => (h.lowX hte k (HS.out k hk)).trans ((hbe.block k (by have := HS.out k hk; have := Hti.out.lt; omega)).trans (HSm.out k hk))
      have Hte := Lib.hid hte
      clear hown2 hrow2 hte
      rw [Hen.out]
      go_wp2_with fail
      go_loopw [25] (fun i wr => VLoop g B we vm (L ++ own ++ (d.kid 0).flatMap (tabsR f)) (relE d) (tabsE f) i wr) (fun i _ => en - (intOf i).toNat)
      case atStart => exact VLoop.start Hte.out _ _
      case round =>
        obtain ⟨j, v', hj, rfl, hti, hpf⟩ := hrel
        have hz := hpf.size
        have hjn : j ≤ en := by rw [← Hen.out]; exact hj
        by_cases hlt : j < en
        · obtain ⟨x, ad, hx, rfl, hbx, hat⟩ := (Hrow2.out.keep (HSE.out wr v' hpf) (fun _ h => h)).get (show j < (relE d).length by rw [Hen.out]; exact hlt)
          have hxi := (Hie.out x (mem_of_get? hx)).keep (HSI.out wr v' hpf) (fun _ h => h)
          have hx14 := hxi.len
          have HiE : Hid ((Try.prog.info? 49).map (·.size) = some x.c.length) := by show _ = _; rw [hx14]; exact sizeExpr
          have HiE2 : Hid ((Try.prog.info? 49).map (·.size) = some x.c.toArray.size) := by show _ = _; rw [List.size_toArray, hx14]; exact sizeExpr
          have Hz : Hid (x.c.toArray.size = 14) := by show _ = _; rw [List.size_toArray, hx14]; rfl
          have H1 := Lib.hid (all_one hxi.ones)
          have Hat := Lib.hid hat
          obtain ⟨W2, hW2⟩ : ∃ W2, wr.alloc (.cells x.c.toArray 49) = W2 := ⟨_, rfl⟩
          have Hcell : Hid (∀ j u, x.c[j]? = some u → W2.cell? ((⟨wr.heap.size, 0, none⟩ : Addr).add j) = some u) := by show ∀ j u, _ → _; rw [← hW2]; exact new_cells wr x.c 49
          have hbW2 : Below wr.heap.size wr W2 := by rw [← hW2]; exact bel1 _ _
          have hle := len_takeD (F := (tabsE f)) j hx
          have hxn := n_mem (mem_of_get? hx)
          have Hcall : Hid (Calls Try.prog 18 #[.iface 51 (.pointer (some ⟨g, 0, none⟩)), .agg x.c.toArray] W2 (XPost g B v' ((L ++ own ++ (d.kid 0).flatMap (tabsR f)) ++ ((relE d).take j).flatMap (tabsE f) ++ tabsE f x) W2)) := by
            show Calls _ _ _ _ _
            exact hE x v' W2 _ S (hxi.keep (fun k hk => hbW2.block k (by have := HS.out k hk; have := hti.lt; omega)) (fun _ h => h)) HS.out (by omega) (hti.below hbW2) (by simp only [List.length_append]; omega)
          have Hx := Lib.hid hx
          have HW2 := Lib.hid hW2
          have Hpf := Lib.hid hpf
          clear hat hxi hx14 hx hW2 hti hpf hle
          go_upto_region 10 with (first | (refine wpList_load_st rfl 49 _ rfl _ Try.underlying49 rfl (ad.add (j * 14)) x.c HiE.out rfl Hat.out ?_) | (refine wpList_store_st rfl 49 _ _ rfl _ x.c.toArray HiE2.out Hz.out.symm H1.out rfl rfl ?_))
          rw [HW2.out]
          go_wp2_with (refine wpList_load_st rfl 49 _ rfl _ Try.underlying49 rfl ⟨wr.heap.size, 0, none⟩ x.c HiE.out rfl Hcell.out ?_)
          refine Hcall.out.mono ?_
          rintro e w3 ⟨rfl, v3, hti3, hpf3⟩
          have Hst : Hid (VLoop g B we vm (L ++ own ++ (d.kid 0).flatMap (tabsR f)) (relE d) (tabsE f) (.int .i64 ((j : Int) + 1)) w3) := VLoop.step Hx.out Hpf.out hbW2 hti3 hpf3
          clear hti3 hpf3
          go_wp2_with fail
          go_roundw
          case rel => exact Hst.out
          case measure => simp [intOf]; omega
        · obtain rfl : j = en := by omega
          rw [show (relE d).take j = relE d by rw [← Hen.out]; exact List.take_length] at hti
          go_wp2_with fail
          go_end0
          refine ⟨rfl, v', by simp only [List.append_assoc] at hti ⊢; exact hti, (PFr.below hb0).trans (Hp1.out.trans (Hpf.out.trans ((PFr.below hbe).trans hpf)))⟩
theorem visit_all (hT : TabOk) (g B : Nat) : ∀ f, f ≤ 1048576 → VE g B f ∧ VR g B f
  | 0, _ => ⟨fun e v w L S he hS hn => by have := e.n_pos; omega, fun d v w L S hd hS hn => by have := d.n_pos; omega⟩
  | f + 1, hf => by
    obtain ⟨hE, hR⟩ := visit_all hT g B f (by omega)
    exact ⟨vexpr_step g B f hf hE hR, vrel_step hT g B f hf hE hR⟩
end Go.Proofs.Ytoeamomklmoncaa
