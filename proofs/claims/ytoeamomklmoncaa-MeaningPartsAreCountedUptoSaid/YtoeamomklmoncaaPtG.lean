/-
  The reference's Parts of a relation, walked.
-/
import Derived.Test.YtoeamomklmoncaaPtF
namespace Go.Proofs.Ytoeamomklmoncaa
open Go.RowKit
set_option maxRecDepth 100000 in
set_option maxHeartbeats 4000000 in
theorem parts_step (f : Nat) (hf : f + 1 ≤ 1048576) (hE : PE f) (hR : PQ f) : PQ (f + 1) := by
  intro d S w hd hS hn
  obtain ⟨_, _, _, ⟨IA, icap, d6, ri⟩, _, ii, _, _⟩ := hd.relCells
  have hkr := nL_relE d
  have hlen := hd.len
  have hl1 := sum_le (F := partsR f) (l := d.kid 0) (parts_le f).1
  have hl2 := sum_le (F := partsE f) (l := relE d) (parts_le f).2
  rw [partsR]
  have HiD : Hid ((Try.prog.info? 31).map (·.size) = some d.c.length) := by show _ = _; rw [hlen]; exact sizeRel
  have Hi := Lib.hid ii
  have Hri := Lib.hid ri
  obtain ⟨kn, hkn⟩ : ∃ n, (d.kid 0).length = n := ⟨_, rfl⟩
  have hkn2 : kn ≤ 1048576 := by have := len_nL (d.kid 0); omega
  rw [hkn] at d6
  obtain ⟨W0, hW0⟩ : ∃ W0, w.alloc (.cells d.c.toArray 31) = W0 := ⟨_, rfl⟩
  have hb0 : Below w.heap.size w W0 := by rw [← hW0]; exact bel1 _ _
  have e0 : W0.heap[w.heap.size]? = some (.cells d.c.toArray 31 (0, 0)) := by rw [← hW0]; exact heap_alloc_new w _
  have hl0 : w.heap.size < W0.heap.size := (Array.getElem?_eq_some_iff.1 e0).1
  have c6 : W0.cell? ⟨w.heap.size, 6, none⟩ = some (.slice IA kn icap) := by rw [cell_of_row _ _ 6 _ _ _ e0]; simpa using d6
  have HSS : Hid (∀ wr, Below W0.heap.size W0 wr → ∀ k, S k → wr.heap[k]? = w.heap[k]?) := fun wr h k hk => (h.block k (by have := hS k hk; omega)).trans (hb0.block k (hS k hk))
  have HW0 := Lib.hid hW0
  have E0 := Lib.hid e0
  have HS : Hid (∀ k, S k → k < w.heap.size) := hS
  have Hkn := Lib.hid hkn
  have Hd := Lib.hid hd
  clear hW0 e0 hS hd d6 ii ri hkn hlen
  go_enter Try.func5, Try.ntmps5
  go_upto_region 2 with (fail)
  rw [HW0.out]
  go_wp2_with fail
  go_loopw [3, 11] (fun sv i wr => NLoop W0 1 (d.kid 0) (partsR f) sv i wr) (fun _ i _ => kn - (intOf i).toNat)
  case atStart => exact NLoop.start _ _ _ _
  case round =>
    obtain ⟨j, s, hj, rfl, hs, rfl, hb⟩ := hrel
    have hz := hb.size
    have hjn : j ≤ kn := by rw [← Hkn.out]; exact hj
    by_cases hlt : j < kn
    · obtain ⟨x, ad, hx, rfl, hbx, hat⟩ := (Hri.out.keep (HSS.out wr hb) (fun _ h => h)).get (show j < (d.kid 0).length by rw [Hkn.out]; exact hlt)
      have hxi := (Hi.out x (mem_of_get? hx)).keep (HSS.out wr hb) (fun _ h => h)
      have hx14 := hxi.len
      have HiE : Hid ((Try.prog.info? 31).map (·.size) = some x.c.length) := by show _ = _; rw [hx14]; exact sizeRel
      have HiE2 : Hid ((Try.prog.info? 31).map (·.size) = some x.c.toArray.size) := by show _ = _; rw [List.size_toArray, hx14]; exact sizeRel
      have Hz : Hid (x.c.toArray.size = 14) := by show _ = _; rw [List.size_toArray, hx14]; rfl
      have H1 := Lib.hid (all_one hxi.ones)
      have Hat := Lib.hid hat
      obtain ⟨W2, hW2⟩ : ∃ W2, wr.alloc (.cells x.c.toArray 31) = W2 := ⟨_, rfl⟩
      have Hcell : Hid (∀ j u, x.c[j]? = some u → W2.cell? ((⟨wr.heap.size, 0, none⟩ : Addr).add j) = some u) := by show ∀ j u, _ → _; rw [← hW2]; exact new_cells wr x.c 31
      have hbW2 : Below wr.heap.size wr W2 := by rw [← hW2]; exact bel1 _ _
      have hle := sum_take_le (F := (partsR f)) (d.kid 0) j hx
      have hxn := n_mem (mem_of_get? hx)
      have hz2 := hbW2.size
      obtain ⟨q, hq⟩ : ∃ q, partsR f x = q := ⟨_, rfl⟩
      have hsq : s + q ≤ 1048576 := by omega
      have Hcall : Hid (Calls Try.prog 5 #[.agg x.c.toArray] W2 (NPost q W2)) := by
        rw [← hq]
        show Calls _ _ _ _ _
        exact hR x S W2 (hxi.keep (fun k hk => hbW2.block k (by have := HS.out k hk; omega)) (fun _ h => h)) (fun k hk => by have := HS.out k hk; omega) (by omega)
      have Hx := Lib.hid hx
      have HW2 := Lib.hid hW2
      have Hs := Lib.hid hs
      have Hq := Lib.hid hq
      clear hat hxi hx14 hx hW2 hle hs hq
      go_upto_region 5 with (first | (refine wpList_load_st rfl 31 _ rfl _ Try.underlying31 rfl (ad.add (j * 14)) x.c HiE.out rfl Hat.out ?_) | (refine wpList_store_st rfl 31 _ _ rfl _ x.c.toArray HiE2.out Hz.out.symm H1.out rfl rfl ?_))
      rw [HW2.out]
      go_wp2_with (refine wpList_load_st rfl 31 _ rfl _ Try.underlying31 rfl ⟨wr.heap.size, 0, none⟩ x.c HiE.out rfl Hcell.out ?_)
      refine Hcall.out.mono ?_
      rintro e w3 ⟨rfl, hb3⟩
      have Hst : Hid (NLoop W0 (1) (d.kid 0) (partsR f) (.int .i64 ((s : Int) + (q : Int))) (.int .i64 ((j : Int) + 1)) w3) := ⟨j + 1, s + q, (List.getElem?_eq_some_iff.1 Hx.out).1, by simp, by rw [sum_take Hx.out, ← Nat.add_assoc, ← Hs.out, Hq.out], by simp, hb.trans ((hbW2.trans (hb3.mono hbW2.size)).mono hz)⟩
      go_wp2_with fail
      go_roundw
      case rel => exact Hst.out
      case measure => simp [intOf]; omega
    · obtain rfl : j = kn := by omega
      rw [show (d.kid 0).take j = d.kid 0 by rw [← Hkn.out]; exact List.take_length] at hs
      obtain ⟨wm, hwm⟩ : ∃ wm, wm = wr := ⟨_, rfl⟩
      subst hwm
      obtain ⟨sm, hsm⟩ : ∃ sm, sm = s := ⟨_, rfl⟩
      subst hsm
      have em := (hb.block _ hl0).trans E0.out
      have Hcm := Lib.hid (cells_of_heap em)
      have hSm : ∀ k, S k → k < wm.heap.size := fun k hk => by have := HS.out k hk; omega
      have Hex : Hid (Calls Try.prog 10 #[.agg d.c.toArray] wm (ExPost (relE d) wm)) := by
        show Calls _ _ _ _ _
        exact rExprsOf_any d S wm (Hd.out.keep (HSS.out wm hb) (fun _ h => h)) hSm (by omega)
      have Hie : Hid (∀ x, x ∈ relE d → DT.In S w .expr x) := Hd.out.relE
      obtain ⟨en, hen⟩ : ∃ n, (relE d).length = n := ⟨_, rfl⟩
      have hen2 : en ≤ 1048576 := by have := Hd.out.relLen; omega
      have HSm := Lib.hid (HSS.out wm hb)
      have Hb := Lib.hid hb
      have Hen := Lib.hid hen
      have Hs2 := Lib.hid hs
      have hsb : sm ≤ 1 + nL (d.kid 0) := by omega
      have hzm := hz
      clear hb em c6 hlt hz hSm hs
      go_wp2_with (refine wpList_load_st rfl 31 _ rfl _ Try.underlying31 rfl ⟨w.heap.size, 0, none⟩ d.c HiD.out rfl Hcm.out ?_)
      refine Hex.out.mono ?_
      rintro e we ⟨v2, rfl, hown2, hbe⟩
      obtain ⟨A2, cap2, rfl, hrow2⟩ := own_structs2 hown2 rfl (fun x hx => (Hie.out x hx).len)
      have Hrow2 := Lib.hid hrow2
      have hze := hbe.size
      have HSE : Hid (∀ wr, Below we.heap.size we wr → ∀ (q : Nat), (∃ cs : Array Value, we.heap[q]? = some (Obj.cells cs 49 (0, 0))) → wr.heap[q]? = we.heap[q]?) := fun wr h q hq => by
        obtain ⟨cs, hcs⟩ := hq
        exact h.block q (Array.getElem?_eq_some_iff.1 hcs).1
      have HSI : Hid (∀ wr, Below we.heap.size we wr → ∀ k, S k → wr.heap[k]? = w.heap[k]?) := fun wr h k hk => (h.block k (by have := HS.out k hk; omega)).trans ((hbe.block k (by have := HS.out k hk; omega)).trans (HSm.out k hk))
      clear hown2 hrow2
      rw [Hen.out]
      go_wp2_with fail
      go_loopw [3, 23] (fun sv i wr => NLoop we sm (relE d) (partsE f) sv i wr) (fun _ i _ => en - (intOf i).toNat)
      case atStart => exact NLoop.start _ _ _ _
      case round =>
        obtain ⟨j, s, hj, rfl, hs, rfl, hb⟩ := hrel
        have hz := hb.size
        have hjn : j ≤ en := by rw [← Hen.out]; exact hj
        by_cases hlt : j < en
        · obtain ⟨x, ad, hx, rfl, hbx, hat⟩ := (Hrow2.out.keep (HSE.out wr hb) (fun _ h => h)).get (show j < (relE d).length by rw [Hen.out]; exact hlt)
          have hxi := (Hie.out x (mem_of_get? hx)).keep (HSI.out wr hb) (fun _ h => h)
          have hx14 := hxi.len
          have HiE : Hid ((Try.prog.info? 49).map (·.size) = some x.c.length) := by show _ = _; rw [hx14]; exact sizeExpr
          have HiE2 : Hid ((Try.prog.info? 49).map (·.size) = some x.c.toArray.size) := by show _ = _; rw [List.size_toArray, hx14]; exact sizeExpr
          have Hz : Hid (x.c.toArray.size = 14) := by show _ = _; rw [List.size_toArray, hx14]; rfl
          have H1 := Lib.hid (all_one hxi.ones)
          have Hat := Lib.hid hat
          obtain ⟨W2, hW2⟩ : ∃ W2, wr.alloc (.cells x.c.toArray 49) = W2 := ⟨_, rfl⟩
          have Hcell : Hid (∀ j u, x.c[j]? = some u → W2.cell? ((⟨wr.heap.size, 0, none⟩ : Addr).add j) = some u) := by show ∀ j u, _ → _; rw [← hW2]; exact new_cells wr x.c 49
          have hbW2 : Below wr.heap.size wr W2 := by rw [← hW2]; exact bel1 _ _
          have hle := sum_take_le (F := (partsE f)) (relE d) j hx
          have hxn := n_mem (mem_of_get? hx)
          have hz2 := hbW2.size
          obtain ⟨q, hq⟩ : ∃ q, partsE f x = q := ⟨_, rfl⟩
          have hsq : s + q ≤ 1048576 := by omega
          have Hcall : Hid (Calls Try.prog 11 #[.agg x.c.toArray] W2 (NPost q W2)) := by
            rw [← hq]
            show Calls _ _ _ _ _
            exact hE x S W2 (hxi.keep (fun k hk => hbW2.block k (by have := HS.out k hk; omega)) (fun _ h => h)) (fun k hk => by have := HS.out k hk; omega) (by omega)
          have Hx := Lib.hid hx
          have HW2 := Lib.hid hW2
          have Hs := Lib.hid hs
          have Hq := Lib.hid hq
          clear hat hxi hx14 hx hW2 hle hs hq
          go_upto_region 10 with (first | (refine wpList_load_st rfl 49 _ rfl _ Try.underlying49 rfl (ad.add (j * 14)) x.c HiE.out rfl Hat.out ?_) | (refine wpList_store_st rfl 49 _ _ rfl _ x.c.toArray HiE2.out Hz.out.symm H1.out rfl rfl ?_))
          rw [HW2.out]
          go_wp2_with (refine wpList_load_st rfl 49 _ rfl _ Try.underlying49 rfl ⟨wr.heap.size, 0, none⟩ x.c HiE.out rfl Hcell.out ?_)
          refine Hcall.out.mono ?_
          rintro e w3 ⟨rfl, hb3⟩
          have Hst : Hid (NLoop we (sm) (relE d) (partsE f) (.int .i64 ((s : Int) + (q : Int))) (.int .i64 ((j : Int) + 1)) w3) := ⟨j + 1, s + q, (List.getElem?_eq_some_iff.1 Hx.out).1, by simp, by rw [sum_take Hx.out, ← Nat.add_assoc, ← Hs.out, Hq.out], by simp, hb.trans ((hbW2.trans (hb3.mono hbW2.size)).mono hz)⟩
          go_wp2_with fail
          go_roundw
          case rel => exact Hst.out
          case measure => simp [intOf]; omega
        · obtain rfl : j = en := by omega
          rw [show (relE d).take j = relE d by rw [← Hen.out]; exact List.take_length] at hs
          have hfin : s = 1 + ((d.kid 0).map (partsR f)).sum + ((relE d).map (partsE f)).sum := by rw [hs, Hs2.out]
          have Hfin := Lib.hid hfin
          clear hs hfin
          go_wp2_with fail
          go_ret
          exact ⟨by rw [← Hfin.out]; rfl, hb0.trans ((Hb.out.trans ((hbe.trans (hb.mono (by omega))).mono (by omega))).mono hb0.size)⟩
theorem rparts_all : ∀ f, f ≤ 1048576 → PQ f ∧ PE f
  | 0, _ => ⟨fun d S w hd hS hn => by have := d.n_pos; omega, fun d S w hd hS hn => by have := d.n_pos; omega⟩
  | f + 1, hf => by
    obtain ⟨hQ, hE⟩ := rparts_all f (by omega)
    exact ⟨parts_step f hf hE hQ, partsOf_step f hf hE hQ⟩
end Go.Proofs.Ytoeamomklmoncaa
