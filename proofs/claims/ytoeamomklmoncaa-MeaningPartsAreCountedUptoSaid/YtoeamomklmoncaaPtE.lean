/-
  The counter over a relation; meaning.Parts.
-/
import Derived.Test.YtoeamomklmoncaaPtD
namespace Go.Proofs.Ytoeamomklmoncaa
open Go.RowKit
set_option maxRecDepth 100000 in
set_option maxHeartbeats 4000000 in
theorem crel_step (g f : Nat) (hf : f + 1 ≤ 1048576) (hE : KE g f) (hR : KR g f) : KR g (f + 1) := by
  intro d n B w S hd hS hBg hn hc hL
  obtain ⟨_, _, _, ⟨IA, icap, d6, ri⟩, _, ii, _, _⟩ := hd.relCells
  have hkr := nL_relE d
  have hlt := hc.lt
  have hlen := hd.len
  have hmeth := methR
  rw [partsR] at hL ⊢
  have HiD : Hid ((Try.prog.info? 31).map (·.size) = some d.c.length) := by show _ = _; rw [hlen]; exact sizeRel
  have Hi := Lib.hid ii
  have Hri := Lib.hid ri
  obtain ⟨kn, hkn⟩ : ∃ n, (d.kid 0).length = n := ⟨_, rfl⟩
  have hkn2 : kn ≤ 1048576 := by have := len_nL (d.kid 0); omega
  rw [hkn] at d6
  obtain ⟨W0, hW0⟩ : ∃ W0, w.alloc (.cells d.c.toArray 31) = W0 := ⟨_, rfl⟩
  have hb0 : Below w.heap.size w W0 := by rw [← hW0]; exact bel1 _ _
  have e0 : W0.heap[w.heap.size]? = some (.cells d.c.toArray 31 (0, 0)) := by rw [← hW0]; exact heap_alloc_new w _
  have Hcd : Hid (∀ j u, d.c[j]? = some u → W0.cell? ((⟨w.heap.size, 0, none⟩ : Addr).add j) = some u) := cells_of_heap e0
  have hcount := Lib.hid (countR_any g n d.c W0 (hc.below hb0) (by omega))
  have HW0 := Lib.hid hW0
  have E0 := Lib.hid e0
  have HS := Lib.hid hS
  have D6 := Lib.hid d6
  have Hkn := Lib.hid hkn
  have Hd := Lib.hid hd
  clear hW0 e0 hS hd d6 ii ri hkn hlen hc
  go_enter Try.func9, Try.ntmps9
  go_upto_region 1 with (fail)
  rw [HW0.out]
  go_wp2_with (refine wpList_load_st rfl 31 _ rfl _ Try.underlying31 rfl ⟨w.heap.size, 0, none⟩ d.c HiD.out rfl Hcd.out ?_)
  refine hcount.out.mono ?_
  rintro e W1 ⟨rfl, hc1, hch1⟩
  have hlt1 := hc1.lt
  have hw1 := hch1.size
  have hne : w.heap.size ≠ g := by omega
  have e1 : W1.heap[w.heap.size]? = some (.cells d.c.toArray 31 (0, 0)) := (hch1.block _ (Array.getElem?_eq_some_iff.1 E0.out).1 hne).trans E0.out
  have c6 : W1.cell? ⟨w.heap.size, 6, none⟩ = some (.slice IA kn icap) := by rw [cell_of_row _ _ 6 _ _ _ e1]; simpa using D6.out
  have hl1 : w.heap.size < W1.heap.size := (Array.getElem?_eq_some_iff.1 e1).1
  have HSS : Hid (∀ wr, Ch g W1 wr → ∀ k, S k → wr.heap[k]? = w.heap[k]?) := fun wr h k hk => by
    have hkB := HS.out k hk
    exact (h.block k (by omega) (by omega)).trans ((hch1.block k (by have := hb0.size; omega) (by omega)).trans (hb0.block k (by omega)))
  have E1 := Lib.hid e1
  have Hc1 := Lib.hid hc1
  have Hch1 := Lib.hid hch1
  clear e1 hc1 hch1
  go_wp2_with fail
  go_loopw [14] (fun i wr => CLoop g W1 (n + 1) (d.kid 0) (partsR f) i wr) (fun i _ => kn - (intOf i).toNat)
  case atStart => exact CLoop.start Hc1.out _ _
  case round =>
    obtain ⟨j, hj, rfl, hci, hch⟩ := hrel
    have hz := hch.size
    have hjn : j ≤ kn := by rw [← Hkn.out]; exact hj
    by_cases hlt : j < kn
    · obtain ⟨x, ad, hx, rfl, hbx, hat⟩ := (Hri.out.keep (HSS.out wr hch) (fun _ h => h)).get (show j < (d.kid 0).length by rw [Hkn.out]; exact hlt)
      have hxi := (Hi.out x (mem_of_get? hx)).keep (HSS.out wr hch) (fun _ h => h)
      have hx14 := hxi.len
      have HiE : Hid ((Try.prog.info? 31).map (·.size) = some x.c.length) := by show _ = _; rw [hx14]; exact sizeRel
      have HiE2 : Hid ((Try.prog.info? 31).map (·.size) = some x.c.toArray.size) := by show _ = _; rw [List.size_toArray, hx14]; exact sizeRel
      have Hz : Hid (x.c.toArray.size = 14) := by show _ = _; rw [List.size_toArray, hx14]; rfl
      have H1 := Lib.hid (all_one hxi.ones)
      have Hat := Lib.hid hat
      obtain ⟨W2, hW2⟩ : ∃ W2, wr.alloc (.cells x.c.toArray 31) = W2 := ⟨_, rfl⟩
      have Hcell : Hid (∀ j u, x.c[j]? = some u → W2.cell? ((⟨wr.heap.size, 0, none⟩ : Addr).add j) = some u) := by show ∀ j u, _ → _; rw [← hW2]; exact new_cells wr x.c 31
      have hbW2 : Below wr.heap.size wr W2 := by rw [← hW2]; exact bel1 _ _
      have hle := sum_take_le (F := (partsR f)) (d.kid 0) j hx
      have hxn := n_mem (mem_of_get? hx)
      have Hcall : Hid (Calls Try.prog 9 #[.iface 37 (.pointer (some ⟨g, 0, none⟩)), .agg x.c.toArray] W2 (CPost g (n + 1 + (((d.kid 0).take j).map (partsR f)).sum + partsR f x) W2)) := by
        show Calls _ _ _ _ _
        exact hR x _ B W2 S (hxi.keep (fun k hk => hbW2.block k (by have := HS.out k hk; have := hci.lt; omega)) (fun _ h => h)) HS.out hBg (by omega) (hci.below hbW2) (by omega)
      have Hx := Lib.hid hx
      have HW2 := Lib.hid hW2
      have Hch := Lib.hid hch
      clear hat hxi hx14 hx hW2 hci hch hle
      go_upto_region 5 with (first | (refine wpList_load_st rfl 31 _ rfl _ Try.underlying31 rfl (ad.add (j * 14)) x.c HiE.out rfl Hat.out ?_) | (refine wpList_store_st rfl 31 _ _ rfl _ x.c.toArray HiE2.out Hz.out.symm H1.out rfl rfl ?_))
      rw [HW2.out]
      go_wp2_with (refine wpList_load_st rfl 31 _ rfl _ Try.underlying31 rfl ⟨wr.heap.size, 0, none⟩ x.c HiE.out rfl Hcell.out ?_)
      refine Hcall.out.mono ?_
      rintro e w3 ⟨rfl, hci3, hch3⟩
      have Hst : Hid (CLoop g W1 (n + 1) (d.kid 0) (partsR f) (.int .i64 ((j : Int) + 1)) w3) := CLoop.step Hx.out Hch.out hbW2 hci3 hch3
      clear hci3 hch3
      go_wp2_with fail
      go_roundw
      case rel => exact Hst.out
      case measure => simp [intOf]; omega
    · obtain rfl : j = kn := by omega
      rw [show (d.kid 0).take j = d.kid 0 by rw [← Hkn.out]; exact List.take_length] at hci
      obtain ⟨wm, hwm⟩ : ∃ wm, wm = wr := ⟨_, rfl⟩
      subst hwm
      have em := (hch.block _ (Array.getElem?_eq_some_iff.1 E1.out).1 hne).trans E1.out
      have Hcm := Lib.hid (cells_of_heap em)
      have hSm : ∀ k, S k → k < wm.heap.size := fun k hk => by have := HS.out k hk; omega
      have Hex : Hid (Calls Try.prog 17 #[.agg d.c.toArray] wm (ExPost (relE d) wm)) := by
        show Calls _ _ _ _ _
        exact mexprsOf_any d S wm (Hd.out.keep (HSS.out wm hch) (fun _ h => h)) hSm (by omega)
      have Hie : Hid (∀ x, x ∈ relE d → DT.In S w .expr x) := Hd.out.relE
      obtain ⟨en, hen⟩ : ∃ n, (relE d).length = n := ⟨_, rfl⟩
      have hen2 : en ≤ 1048576 := by have := Hd.out.relLen; omega
      have HSm := Lib.hid (HSS.out wm hch)
      have Hci := Lib.hid hci
      have Hch := Lib.hid hch
      have Hen := Lib.hid hen
      have hzm := hz
      clear hci hch em c6 hlt hz hSm
      go_wp2_with (refine wpList_load_st rfl 31 _ rfl _ Try.underlying31 rfl ⟨w.heap.size, 0, none⟩ d.c HiD.out rfl Hcm.out ?_)
      refine Hex.out.mono ?_
      rintro e we ⟨v2, rfl, hown2, hbe⟩
      obtain ⟨A2, cap2, rfl, hrow2⟩ := own_structs2 hown2 rfl (fun x hx => (Hie.out x hx).len)
      have Hrow2 := Lib.hid hrow2
      have hce := Hci.out.below hbe
      have hze := hbe.size
      have HSE : Hid (∀ wr, Ch g we wr → ∀ (q : Nat), (∃ cs : Array Value, we.heap[q]? = some (Obj.cells cs 49 (0, 0))) → wr.heap[q]? = we.heap[q]?) := fun wr h q hq => by
        obtain ⟨cs, hcs⟩ := hq
        refine h.block q (Array.getElem?_eq_some_iff.1 hcs).1 (fun e => ?_)
        rw [e, show we.heap[g]? = _ from hce] at hcs
        cases hcs
      have HSI : Hid (∀ wr, Ch g we wr → ∀ k, S k → wr.heap[k]? = w.heap[k]?) := fun wr h k hk => (h.block k (by have := HS.out k hk; omega) (by have := HS.out k hk; omega)).trans ((hbe.block k (by have := HS.out k hk; omega)).trans (HSm.out k hk))
      have Hce := Lib.hid hce
      clear hown2 hrow2 hce
      rw [Hen.out]
      go_wp2_with fail
      go_loopw [25] (fun i wr => CLoop g we (n + 1 + ((d.kid 0).map (partsR f)).sum) (relE d) (partsE f) i wr) (fun i _ => en - (intOf i).toNat)
      case atStart => exact CLoop.start Hce.out _ _
      case round =>
        obtain ⟨j, hj, rfl, hci, hch⟩ := hrel
        have hz := hch.size
        have hjn : j ≤ en := by rw [← Hen.out]; exact hj
        by_cases hlt : j < en
        · obtain ⟨x, ad, hx, rfl, hbx, hat⟩ := (Hrow2.out.keep (HSE.out wr hch) (fun _ h => h)).get (show j < (relE d).length by rw [Hen.out]; exact hlt)
          have hxi := (Hie.out x (mem_of_get? hx)).keep (HSI.out wr hch) (fun _ h => h)
          have hx14 := hxi.len
          have HiE : Hid ((Try.prog.info? 49).map (·.size) = some x.c.length) := by show _ = _; rw [hx14]; exact sizeExpr
          have HiE2 : Hid ((Try.prog.info? 49).map (·.size) = some x.c.toArray.size) := by show _ = _; rw [List.size_toArray, hx14]; exact sizeExpr
          have Hz : Hid (x.c.toArray.size = 14) := by show _ = _; rw [List.size_toArray, hx14]; rfl
          have H1 := Lib.hid (all_one hxi.ones)
          have Hat := Lib.hid hat
          obtain ⟨W2, hW2⟩ : ∃ W2, wr.alloc (.cells x.c.toArray 49) = W2 := ⟨_, rfl⟩
          have Hcell : Hid (∀ j u, x.c[j]? = some u → W2.cell? ((⟨wr.heap.size, 0, none⟩ : Addr).add j) = some u) := by show ∀ j u, _ → _; rw [← hW2]; exact new_cells wr x.c 49
          have hbW2 : Below wr.heap.size wr W2 := by rw [← hW2]; exact bel1 _ _
          have hle := sum_take_le (F := (partsE f)) (relE d) j hx
          have hxn := n_mem (mem_of_get? hx)
          have Hcall : Hid (Calls Try.prog 18 #[.iface 37 (.pointer (some ⟨g, 0, none⟩)), .agg x.c.toArray] W2 (CPost g (n + 1 + ((d.kid 0).map (partsR f)).sum + (((relE d).take j).map (partsE f)).sum + partsE f x) W2)) := by
            show Calls _ _ _ _ _
            exact hE x _ B W2 S (hxi.keep (fun k hk => hbW2.block k (by have := HS.out k hk; have := hci.lt; omega)) (fun _ h => h)) HS.out hBg (by omega) (hci.below hbW2) (by omega)
          have Hx := Lib.hid hx
          have HW2 := Lib.hid hW2
          have Hch := Lib.hid hch
          clear hat hxi hx14 hx hW2 hci hch hle
          go_upto_region 10 with (first | (refine wpList_load_st rfl 49 _ rfl _ Try.underlying49 rfl (ad.add (j * 14)) x.c HiE.out rfl Hat.out ?_) | (refine wpList_store_st rfl 49 _ _ rfl _ x.c.toArray HiE2.out Hz.out.symm H1.out rfl rfl ?_))
          rw [HW2.out]
          go_wp2_with (refine wpList_load_st rfl 49 _ rfl _ Try.underlying49 rfl ⟨wr.heap.size, 0, none⟩ x.c HiE.out rfl Hcell.out ?_)
          refine Hcall.out.mono ?_
          rintro e w3 ⟨rfl, hci3, hch3⟩
          have Hst : Hid (CLoop g we (n + 1 + ((d.kid 0).map (partsR f)).sum) (relE d) (partsE f) (.int .i64 ((j : Int) + 1)) w3) := CLoop.step Hx.out Hch.out hbW2 hci3 hch3
          clear hci3 hch3
          go_wp2_with fail
          go_roundw
          case rel => exact Hst.out
          case measure => simp [intOf]; omega
        · obtain rfl : j = en := by omega
          rw [show (relE d).take j = relE d by rw [← Hen.out]; exact List.take_length] at hci
          go_wp2_with fail
          go_end0
          refine ⟨rfl, ?_, ((Ch.of_below hb0).trans Hch1.out).trans (Hch.out.trans ((Ch.of_below hbe).trans hch))⟩
          rw [show n + (1 + ((d.kid 0).map (partsR f)).sum + ((relE d).map (partsE f)).sum) = n + 1 + ((d.kid 0).map (partsR f)).sum + ((relE d).map (partsE f)).sum by omega]
          exact hci
theorem count_all (g : Nat) : ∀ f, f ≤ 1048576 → KE g f ∧ KR g f
  | 0, _ => ⟨fun e n B w S he hS hB hn => by have := e.n_pos; omega, fun d n B w S hd hS hB hn => by have := d.n_pos; omega⟩
  | f + 1, hf => by
    obtain ⟨hE, hR⟩ := count_all g f (by omega)
    exact ⟨cexpr_step g f hf hE hR, crel_step g f hf hE hR⟩
set_option maxRecDepth 100000 in
set_option maxHeartbeats 1000000 in
theorem mParts_any (f : Nat) (hf : f ≤ 1048576) (d : DT) (S : Nat → Prop) (w : World) (hd : DT.In S w .rel d) (hS : ∀ k, S k → k < w.heap.size) (hn : d.n ≤ f) :
    Calls Try.prog 4 #[.agg d.c.toArray] w fun e w' => e = .returned (.int .i64 (partsR f d : Nat)) ∧ Below w.heap.size w w' := by
  have hlen := hd.len
  have HiD : Hid ((Try.prog.info? 31).map (·.size) = some d.c.length) := by show _ = _; rw [hlen]; exact sizeRel
  have hpl := (parts_le f).1 d
  have hW : Hid (∀ W, CInv (w.heap.size + 1) W 0 → Below w.heap.size w W → Calls Try.prog 9 #[.iface 37 (.pointer (some ⟨w.heap.size + 1, 0, none⟩)), .agg d.c.toArray] W (CPost (w.heap.size + 1) (partsR f d) W)) := fun W hi hb => by
    have h := (count_all (w.heap.size + 1) f hf).2 d 0 w.heap.size W S (hd.keep (fun k hk => hb.block k (hS k hk)) (fun _ h => h)) hS (by omega) hn hi (by omega)
    rw [Nat.zero_add] at h
    exact h
  have Hcell : Hid (∀ o j u, d.c[j]? = some u → ((w.alloc (.cells d.c.toArray 31)).alloc o).cell? ((⟨w.heap.size, 0, none⟩ : Addr).add j) = some u) := fun o j u hu => cell_old (new_cells w d.c 31 j u hu) o
  clear hd hS hn hlen
  go_enter Try.func4, Try.ntmps4
  go_wp2_with (refine wpList_load_st rfl 31 _ rfl _ Try.underlying31 rfl ⟨w.heap.size, 0, none⟩ d.c HiD.out rfl (Hcell.out _) ?_)
  generalize hW3 : World.alloc _ _ = W3
  have hb3 : Below w.heap.size w W3 := by rw [← hW3]; exact bel2 _ _ _
  have hi3 : CInv (w.heap.size + 1) W3 0 := by
    rw [← hW3]
    have h := heap_alloc_new (w.alloc (.cells d.c.toArray 31)) (.cells #[.int .i64 0] 39)
    simpa [CInv] using h
  refine (hW.out W3 hi3 hb3).mono ?_
  rintro e w4 ⟨rfl, hc4, hch4⟩
  have hb4 : Below w.heap.size w w4 := hb3.trans ⟨hch4.os, hch4.tape, hch4.output, hch4.size, fun k hk => hch4.block k (by have := hi3.lt; omega) (by omega)⟩
  have c4 : w4.cell? ⟨w.heap.size + 1, 0, none⟩ = some (.int .i64 ((partsR f d : Nat) : Int)) := cell_of_row _ _ 0 _ _ _ hc4
  clear hW3 hi3 hc4 hch4
  go_wp2_with fail
  go_ret
  exact ⟨rfl, hb4⟩
end Go.Proofs.Ytoeamomklmoncaa
