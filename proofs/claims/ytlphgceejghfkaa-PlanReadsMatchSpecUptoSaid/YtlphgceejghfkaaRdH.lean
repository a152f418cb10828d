/-
  The walker over parts, walked.
-/
import Derived.Test.YtlphgceejghfkaaRdG
namespace Go.Proofs.Ytlphgceejghfkaa
open Go.RowKit Go.Sort
set_option maxRecDepth 100000 in
set_option maxHeartbeats 4000000 in
theorem wexpr_step (g vb B f : Nat) (hf : f + 1 ≤ 1048576) (hE : HE g vb B f) (hR : HR g vb B f) : HE g vb B (f + 1) := by
  intro d v w L S hd hS hn hw hL
  obtain ⟨⟨AA, acap, d12, ra⟩, ⟨SA, scap, d13, rs⟩, ia, is⟩ := hd.exprKids
  have hk5 := kids5 d
  have hlt := hw.lt
  rw [readsE] at hL ⊢
  rw [List.length_append] at hL
  have Ha := Lib.hid ia
  have Hs := Lib.hid is
  have Hra := Lib.hid ra
  have Hrs := Lib.hid rs
  obtain ⟨an, han⟩ : ∃ n, (d.kid 0).length = n := ⟨_, rfl⟩
  obtain ⟨sn, hsn⟩ : ∃ n, (d.kid 1).length = n := ⟨_, rfl⟩
  have han2 : an ≤ 1048576 := by have := len_nL (d.kid 0); omega
  have hsn2 : sn ≤ 1048576 := by have := len_nL (d.kid 1); omega
  rw [han] at d12
  rw [hsn] at d13
  obtain ⟨W0, hW0⟩ : ∃ W0, w.alloc (.cells d.c.toArray 56) = W0 := ⟨_, rfl⟩
  have hb0 : Below w.heap.size w W0 := by rw [← hW0]; exact bel1 _ _
  have e0 : W0.heap[w.heap.size]? = some (.cells d.c.toArray 56 (0, 0)) := by rw [← hW0]; exact heap_alloc_new w _
  have hw0 := hw.below hb0
  obtain ⟨c, hc⟩ := hw0.1
  have c0 : W0.cell? ⟨g, 0, none⟩ = some (.int .i64 c) := cell_of_row _ _ 0 _ _ _ hc
  have f0 : W0.frozen? ⟨g, 0, none⟩ = false := frozen_of_row _ _ 0 _ _ hc
  have HW0 := Lib.hid hW0
  have Hw0 := Lib.hid hw0
  have E0 := Lib.hid e0
  have HS := Lib.hid hS
  have D12 := Lib.hid d12
  have D13 := Lib.hid d13
  have Han := Lib.hid han
  have Hsn := Lib.hid hsn
  clear hW0 hw0 hc e0 hS hd hw d12 d13 ia is ra rs han hsn
  go_enter Try.func41, Try.ntmps41
  go_upto_region 1 with (fail)
  rw [HW0.out]
  go_upto_region 2 with (fail)
  generalize hW1 : World.setCell _ _ _ = W1
  obtain ⟨hw1, hp1⟩ : WInv g vb B W1 v L ∧ PFr (Ex g vb) W0 v W1 v := by rw [← hW1]; exact Hw0.out.count _
  have e1 : W1.heap[w.heap.size]? = some (.cells d.c.toArray 56 (0, 0)) := (hp1.kept Hw0.out E0.out (by decide) (by decide) (by decide)).trans E0.out
  have c12 : W1.cell? ⟨w.heap.size, 12, none⟩ = some (.slice AA an acap) := by rw [cell_of_row _ _ 12 _ _ _ e1]; simpa using D12.out
  have HSS : Hid (∀ wr v', PFr (Ex g vb) W1 v wr v' → ∀ k, S k → wr.heap[k]? = w.heap[k]?) := fun wr v' h k hk => by
    have hkB := HS.out k hk
    exact (h.low hw1 k hkB).trans ((hp1.low Hw0.out k hkB).trans (hb0.block k (by omega)))
  have E1 := Lib.hid e1
  have Hw1 := Lib.hid hw1
  have Hp1 := Lib.hid hp1
  clear hW1 e1 hw1 hp1 c0 f0
  go_wp2_with fail
  go_loopw [18] (fun i wr => WLoop g vb B W1 v L (d.kid 0) (readsE f) i wr) (fun i _ => an - (intOf i).toNat)
  case atStart => exact WLoop.start Hw1.out _ _
  case round =>
    obtain ⟨j, v', hj, rfl, hwi, hpf⟩ := hrel
    have hz := hpf.size
    have hjn : j ≤ an := by rw [← Han.out]; exact hj
    by_cases hlt : j < an
    · obtain ⟨x, ad, hx, rfl, hbx, hat⟩ := (Hra.out.keep (HSS.out wr v' hpf) (fun _ h => h)).get (show j < (d.kid 0).length by rw [Han.out]; exact hlt)
      have hxi := (Ha.out x (mem_of_get? hx)).keep (HSS.out wr v' hpf) (fun _ h => h)
      have hx14 := hxi.len
      have HiE : Hid ((Try.prog.info? 56).map (·.size) = some x.c.length) := by show _ = _; rw [hx14]; exact sizeExpr
      have HiE2 : Hid ((Try.prog.info? 56).map (·.size) = some x.c.toArray.size) := by show _ = _; rw [List.size_toArray, hx14]; exact sizeExpr
      have Hz : Hid (x.c.toArray.size = 14) := by show _ = _; rw [List.size_toArray, hx14]; rfl
      have H1 := Lib.hid (all_one hxi.ones)
      have Hat := Lib.hid hat
      obtain ⟨W2, hW2⟩ : ∃ W2, wr.alloc (.cells x.c.toArray 56) = W2 := ⟨_, rfl⟩
      have Hcell : Hid (∀ j u, x.c[j]? = some u → W2.cell? ((⟨wr.heap.size, 0, none⟩ : Addr).add j) = some u) := by show ∀ j u, _ → _; rw [← hW2]; exact new_cells wr x.c 56
      have hbW2 : Below wr.heap.size wr W2 := by rw [← hW2]; exact bel1 _ _
      have hle := len_take (F := (readsE f)) j hx
      have hxn := n_mem (mem_of_get? hx)
      have Hcall : Hid (Calls Try.prog 41 #[.pointer (some ⟨g, 0, none⟩), .agg x.c.toArray] W2 (WPost g vb B v' (L ++ ((d.kid 0).take j).flatMap (readsE f) ++ readsE f x) W2)) := by
        show Calls _ _ _ _ _
        exact hE x v' W2 _ S (hxi.keep (fun k hk => hbW2.block k (by have := HS.out k hk; have := hwi.lt; omega)) (fun _ h => h)) HS.out (by omega) (hwi.below hbW2) (by rw [List.length_append]; omega)
      have Hx := Lib.hid hx
      have HW2 := Lib.hid hW2
      have Hpf := Lib.hid hpf
      clear hat hxi hx14 hx hW2 hwi hpf hle
      go_upto_region 5 with (first | (refine wpList_load_st rfl 56 _ rfl _ Try.underlying56 rfl (ad.add (j * 14)) x.c HiE.out rfl Hat.out ?_) | (refine wpList_store_st rfl 56 _ _ rfl _ x.c.toArray HiE2.out Hz.out.symm H1.out rfl rfl ?_))
      rw [HW2.out]
      go_wp2_with (refine wpList_load_st rfl 56 _ rfl _ Try.underlying56 rfl ⟨wr.heap.size, 0, none⟩ x.c HiE.out rfl Hcell.out ?_)
      refine Hcall.out.mono ?_
      rintro e w3 ⟨rfl, v3, hwi3, hpf3⟩
      have Hst : Hid (WLoop g vb B W1 v L (d.kid 0) (readsE f) (.int .i64 ((j : Int) + 1)) w3) := WLoop.step Hx.out Hpf.out hbW2 hwi3 hpf3
      clear hwi3 hpf3
      go_wp2_with fail
      go_roundw
      case rel => exact Hst.out
      case measure => simp [intOf]; omega
    · obtain rfl : j = an := by omega
      rw [show (d.kid 0).take j = d.kid 0 by rw [← Han.out]; exact List.take_length] at hwi
      obtain ⟨wm, hwm⟩ : ∃ wm, wm = wr := ⟨_, rfl⟩
      subst hwm
      have em := (hpf.kept Hw1.out E1.out (by decide) (by decide) (by decide)).trans E1.out
      have c13 : wm.cell? ⟨w.heap.size, 13, none⟩ = some (.slice SA sn scap) := by rw [cell_of_row _ _ 13 _ _ _ em]; simpa using D13.out
      have HSS2 : Hid (∀ wr v'', PFr (Ex g vb) wm v' wr v'' → ∀ k, S k → wr.heap[k]? = w.heap[k]?) := fun wr v'' h k hk => (h.low hwi k (HS.out k hk)).trans (HSS.out wm v' hpf k hk)
      have Hwi := Lib.hid hwi
      have Hpf := Lib.hid hpf
      clear hwi hpf em c12 hlt hz
      go_wp2_with fail
      go_loopw [29] (fun i wr => WLoop g vb B wm v' (L ++ (d.kid 0).flatMap (readsE f)) (d.kid 1) (fun r => readsR f r (upTo (dLen r 4))) i wr) (fun i _ => sn - (intOf i).toNat)
      case atStart => exact WLoop.start Hwi.out _ _
      case round =>
        obtain ⟨vm, hvm⟩ : ∃ vm, vm = v' := ⟨_, rfl⟩
        subst hvm
        obtain ⟨j, v', hj, rfl, hwi, hpf⟩ := hrel
        have hz := hpf.size
        have hjn : j ≤ sn := by rw [← Hsn.out]; exact hj
        by_cases hlt : j < sn
        · obtain ⟨x, ad, hx, rfl, hbx, hat⟩ := (Hrs.out.keep (HSS2.out wr v' hpf) (fun _ h => h)).get (show j < (d.kid 1).length by rw [Hsn.out]; exact hlt)
          have hxi := (Hs.out x (mem_of_get? hx)).keep (HSS2.out wr v' hpf) (fun _ h => h)
          have hx14 := hxi.len
          have HiE : Hid ((Try.prog.info? 34).map (·.size) = some x.c.length) := by show _ = _; rw [hx14]; exact sizeRel
          have HiE2 : Hid ((Try.prog.info? 34).map (·.size) = some x.c.toArray.size) := by show _ = _; rw [List.size_toArray, hx14]; exact sizeRel
          have Hz : Hid (x.c.toArray.size = 14) := by show _ = _; rw [List.size_toArray, hx14]; rfl
          have H1 := Lib.hid (all_one hxi.ones)
          have Hat := Lib.hid hat
          obtain ⟨W2, hW2⟩ : ∃ W2, wr.alloc (.cells x.c.toArray 34) = W2 := ⟨_, rfl⟩
          have Hcell : Hid (∀ j u, x.c[j]? = some u → W2.cell? ((⟨wr.heap.size, 0, none⟩ : Addr).add j) = some u) := by show ∀ j u, _ → _; rw [← hW2]; exact new_cells wr x.c 34
          have hbW2 : Below wr.heap.size wr W2 := by rw [← hW2]; exact bel1 _ _
          have hle := len_take (F := (fun r => readsR f r (upTo (dLen r 4)))) j hx
          have hxn := n_mem (mem_of_get? hx)
          have Hcall : Hid (Calls Try.prog 25 #[.pointer (some ⟨g, 0, none⟩), .agg x.c.toArray, .pointer none] W2 (WPost g vb B v' ((L ++ (d.kid 0).flatMap (readsE f)) ++ ((d.kid 1).take j).flatMap (fun r => readsR f r (upTo (dLen r 4))) ++ readsR f x (upTo (dLen x 4))) W2)) := by
            show Calls _ _ _ _ _
            exact hR x none none v' W2 _ S (hxi.keep (fun k hk => hbW2.block k (by have := HS.out k hk; have := hwi.lt; omega)) (fun _ h => h)) HS.out rfl (fun p hp => by cases hp) (by omega) (hwi.below hbW2) (by show _ + (readsR f x (upTo (dLen x 4))).length ≤ _; rw [List.length_append, List.length_append]; omega)
          have Hx := Lib.hid hx
          have HW2 := Lib.hid hW2
          have Hpf := Lib.hid hpf
          clear hat hxi hx14 hx hW2 hwi hpf hle
          go_upto_region 10 with (first | (refine wpList_load_st rfl 34 _ rfl _ Try.underlying34 rfl (ad.add (j * 14)) x.c HiE.out rfl Hat.out ?_) | (refine wpList_store_st rfl 34 _ _ rfl _ x.c.toArray HiE2.out Hz.out.symm H1.out rfl rfl ?_))
          rw [HW2.out]
          go_wp2_with (refine wpList_load_st rfl 34 _ rfl _ Try.underlying34 rfl ⟨wr.heap.size, 0, none⟩ x.c HiE.out rfl Hcell.out ?_)
          refine Hcall.out.mono ?_
          rintro e w3 ⟨rfl, v3, hwi3, hpf3⟩
          have Hst : Hid (WLoop g vb B wm vm (L ++ (d.kid 0).flatMap (readsE f)) (d.kid 1) (fun r => readsR f r (upTo (dLen r 4))) (.int .i64 ((j : Int) + 1)) w3) := WLoop.step Hx.out Hpf.out hbW2 hwi3 hpf3
          clear hwi3 hpf3
          go_wp2_with fail
          go_roundw
          case rel => exact Hst.out
          case measure => simp [intOf]; omega
        · obtain rfl : j = sn := by omega
          rw [show (d.kid 1).take j = d.kid 1 by rw [← Hsn.out]; exact List.take_length] at hwi
          go_wp2_with fail
          go_end0
          refine ⟨rfl, v', by rw [List.append_assoc] at hwi; exact hwi, (PFr.below hb0).trans (Hp1.out.trans (Hpf.out.trans hpf))⟩
end Go.Proofs.Ytlphgceejghfkaa
