/-
  The walker over a relation, walked; plan.Reads.
-/
import Derived.Test.YtlphgceejghfkaaRdH
namespace Go.Proofs.Ytlphgceejghfkaa
open Go.RowKit Go.Sort
theorem own_structs2 {w : World} {base e sz : Nat} {v : Value} {n : Nat} {l : List DT} (h : w.ownsRow base e sz v n (l.flatMap DT.c)) (hn : l.length = n) (hf : ∀ x, x ∈ l → x.c.length = sz) :
    ∃ (A : Option Addr) (cap : Nat), v = .slice A n cap ∧ DRow (fun q => ∃ cs, w.heap[q]? = some (.cells cs e (0, 0))) w sz A cap l := by
  rcases h.2 with ⟨rfl, rfl⟩ | ⟨g, cap, cur, rfl, hb, hg, h1, h2, h3, h4⟩
  · refine ⟨none, 0, rfl, ⟨by omega, Nat.zero_le _, fun i x hx => ?_⟩⟩
    have := (List.getElem?_eq_some_iff.1 hx).1
    omega
  · refine ⟨some ⟨g, 0, none⟩, cap, rfl, ⟨by omega, h2, fun i x hx => ⟨⟨g, 0, none⟩, rfl, ⟨cur, hg⟩, fun j u hu => ?_⟩⟩⟩
    have hj : j < sz := by rw [← hf x (List.mem_of_getElem? hx)]; exact (List.getElem?_eq_some_iff.1 hu).1
    have := h.cells (g := g) rfl (i * sz + j) u (by rw [flatD_at sz l hf i x j hx hj]; exact hu)
    rw [← add_add] at this
    exact this
/-- The expressions right in a relation are expressions. -/
theorem DT.In.relE {S : Nat → Prop} {w : World} {d : DT} (h : DT.In S w .rel d) : ∀ x, x ∈ Go.Proofs.Ytlphgceejghfkaa.relE d → DT.In S w .expr x := by
  obtain ⟨a, IA, icap, is, EA, ecap, es, GA, gcap, gs, WA, wcap, ws, KA, kcap, ks, hd⟩ := h.rel
  obtain ⟨he, _, _, _, _, _, _, _, _, ie, ig, iw, ik⟩ := hd
  subst he
  intro x hx
  rcases List.mem_append.1 (show x ∈ es ++ gs.flatMap Go.Proofs.Ytlphgceejghfkaa.aggE ++ ws.flatMap Go.Proofs.Ytlphgceejghfkaa.winE ++ ks.map keyE from hx) with hx | hx
  · rcases List.mem_append.1 hx with hx | hx
    · rcases List.mem_append.1 hx with hx | hx
      · exact ie x hx
      · obtain ⟨y, hy, hxy⟩ := List.mem_flatMap.1 hx
        exact (ig y hy).aggE x hxy
    · obtain ⟨y, hy, hxy⟩ := List.mem_flatMap.1 hx
      exact (iw y hy).winE x hxy
  · obtain ⟨y, hy, rfl⟩ := List.mem_map.1 hx
    exact (ik y hy).key.1
theorem cells_of_heap {w : World} {g : Nat} {cs : List Value} {t : TypeId} {fr : Nat × Nat} (h : w.heap[g]? = some (.cells cs.toArray t fr)) : ∀ j u, cs[j]? = some u → w.cell? ((⟨g, 0, none⟩ : Addr).add j) = some u := fun j u hu => by
  have hadd : (⟨g, 0, none⟩ : Addr).add j = ⟨g, j, none⟩ := by unfold Addr.add; split <;> simp_all
  rw [hadd, cell_of_row _ _ j _ t fr h]
  simpa using hu
set_option maxRecDepth 100000 in
set_option maxHeartbeats 8000000 in
theorem wrel_step (g vb B f : Nat) (hf : f + 1 ≤ 1048576) (hE : HE g vb B f) (hR : HR g vb B f) : HR g vb B (f + 1) := by
  intro d above pa v w L S hd hS hab hpn hn hw hL
  obtain ⟨_, _, _, ⟨IA, icap, d6, ri⟩, _, ii, _, _⟩ := hd.relCells
  have hkr := nL_relE d
  have hlt := hw.lt
  have hlen := hd.len
  rw [readsR] at hL ⊢
  simp only [List.length_append] at hL
  have Hi := Lib.hid ii
  have Hri := Lib.hid ri
  obtain ⟨kn, hkn⟩ : ∃ n, (d.kid 0).length = n := ⟨_, rfl⟩
  have hkn2 : kn ≤ 1048576 := by have := len_nL (d.kid 0); omega
  rw [hkn] at d6
  obtain ⟨own, hown⟩ : ∃ o, (if dInt d 0 = 1 then [ownOf above d] else []) = o := ⟨_, rfl⟩
  have hol : own.length ≤ 1 := by rw [← hown]; split <;> simp
  rw [hown] at hL ⊢
  obtain ⟨W0, hW0⟩ : ∃ W0, w.alloc (.cells d.c.toArray 34) = W0 := ⟨_, rfl⟩
  have hb0 : Below w.heap.size w W0 := by rw [← hW0]; exact bel1 _ _
  have e0 : W0.heap[w.heap.size]? = some (.cells d.c.toArray 34 (0, 0)) := by rw [← hW0]; exact heap_alloc_new w _
  have hw0 := hw.below hb0
  have hd0 : DT.In S W0 .rel d := hd.keep (fun k hk => hb0.block k (by have := hS k hk; omega)) (fun _ h => h)
  have hab0 : AbOk S W0.drew (.pointer pa) above := by
    cases above with
    | none => exact hab
    | some p =>
      obtain ⟨q, e, hq, hp⟩ := hab
      exact ⟨q, e, (hb0.block q (Array.getElem?_eq_some_iff.1 hq).1).trans hq, (hp.keep (fun k hk => hb0.block k (by have := hS k hk; omega)) (fun _ h => h)).keep (fun _ _ => rfl) (fun _ h => h)⟩
  have hsz0 : W0.heap.size = w.heap.size + 1 := by rw [← hW0]; simp
  obtain ⟨c, hc⟩ := hw0.1
  have c0 : W0.cell? ⟨g, 0, none⟩ = some (.int .i64 c) := cell_of_row _ _ 0 _ _ _ hc
  have c1 : W0.cell? ⟨g, 1, none⟩ = some (.func (.func 18) #[] #[.pointer (some ⟨vb, 0, none⟩)]) := cell_of_row _ _ 1 _ _ _ hc
  have Hcell : Hid (∀ j u, d.c[j]? = some u → W0.cell? ((⟨w.heap.size, 0, none⟩ : Addr).add j) = some u) := by show ∀ j u, _ → _; rw [← hW0]; exact new_cells w d.c 34
  have HiR : Hid ((Try.prog.info? 34).map (·.size) = some d.c.length) := by show _ = _; rw [hlen]; exact sizeRel
  have Hbp := Lib.hid (build_part d.c hlen c pa W0.drew)
  have hL1 : dInt d 0 = 1 → L.length + 1 ≤ 1048576 := fun h1 => by rw [if_pos h1] at hown; rw [← hown] at hL; simp at hL; omega
  have Hsee : Hid (Calls Try.prog 18 #[Value.agg (d.c ++ [Value.int .i64 c, Value.pointer pa]).toArray, Value.pointer (some ⟨vb, 0, none⟩)] W0.drew (SeePost vb B v (L ++ own) W0.drew)) := by
    rw [← hown]
    show Calls _ _ _ _ _
    exact see_any vb B d above c (.pointer pa) S W0.drew v L (hd0.keep (fun _ _ => rfl) (fun _ h => h)) (fun k hk => by have := hS k hk; show k < W0.heap.size; omega) hw0.2.2 (by show B ≤ W0.heap.size; omega) hL1 hpn hab0
  have HW0 := Lib.hid hW0
  have Hw0 := Lib.hid hw0
  have E0 := Lib.hid e0
  have HS := Lib.hid hS
  have D6 := Lib.hid d6
  have Hkn := Lib.hid hkn
  have Hd := Lib.hid hd
  clear hW0 hw0 hc e0 hS hd hw d6 ii ri hkn hd0 hab hab0 hlen hown hL1
  go_enter Try.func25, Try.ntmps25
  go_upto_region 1 with (fail)
  rw [HW0.out]
  generalize hA0 : Act.mk _ _ = A0
  refine wp_region_still_tail 11 (by kernel_rfl) (by kernel_rfl) ?_
  simp only [List.take_succ_cons, List.take_zero, List.drop_succ_cons, List.drop_zero]
  iterate 4 (refine st_want (by rw [← hA0]; rfl) (fun K hK => ?_); subst hA0; go_simp; generalize hA0 : Act.mk _ _ = A0; refine hK A0 ?_; clear hK K)
  (refine st_want (by rw [← hA0]; rfl) (fun K hK => ?_); refine st_load 34 _ rfl _ Try.underlying34 rfl ⟨w.heap.size, 0, none⟩ d.c HiR.out (by rw [← hA0]; rfl) Hcell.out ?_; subst hA0; go_simp; generalize hA0 : Act.mk _ _ = A0; refine hK A0 ?_; clear hK K)
  iterate 5 (refine st_want (by rw [← hA0]; rfl) (fun K hK => ?_); subst hA0; go_simp; generalize hA0 : Act.mk _ _ = A0; refine hK A0 ?_; clear hK K)
  (refine st_want (by rw [← hA0]; rfl) (fun K hK => ?_); refine st_build 50 _ _ _ rfl (.agg d.c.toArray) (.int .i64 c) (.pointer pa) _ (by rw [← hA0]; rfl) (by rw [← hA0]; rfl) (by rw [← hA0]; rfl) Hbp.out ?_; subst hA0; go_simp; generalize hA0 : Act.mk _ _ = A0; refine hK A0 ?_; clear hK K)
  refine wpStill_nil ?_
  subst hA0
  change wpList _ _ _ _ _ W0.drew
  go_wp2_with fail
  refine Hsee.out.mono ?_
  rintro e wq ⟨rfl, v1, ho1, hp1⟩
  have hwq := (Hw0.out.below ((Below.refl _ _).drew)).see ho1 hp1
  have Hpq : Hid (PFr (Ex g vb) W0 v wq v1) := (PFr.below ((Below.refl _ _).drew)).trans (hp1.more (fun k e => .inr e))
  obtain ⟨c2, hc2⟩ := hwq.1
  have q0 : wq.cell? ⟨g, 0, none⟩ = some (.int .i64 c2) := cell_of_row _ _ 0 _ _ _ hc2
  have f0 : wq.frozen? ⟨g, 0, none⟩ = false := frozen_of_row _ _ 0 _ _ hc2
  have Hwq := Lib.hid hwq
  clear hwq hc2 ho1 hp1 c0 c1
  go_upto_region 3 with (fail)
  generalize hW1 : World.setCell _ _ _ = W1
  obtain ⟨hw1, hp1⟩ : WInv g vb B W1 v1 (L ++ own) ∧ PFr (Ex g vb) wq v1 W1 v1 := by rw [← hW1]; exact Hwq.out.count _
  have Hp1 : Hid (PFr (Ex g vb) W0 v W1 v1) := Hpq.out.trans hp1
  have e1 : W1.heap[w.heap.size]? = some (.cells d.c.toArray 34 (0, 0)) := (Hp1.out.kept Hw0.out E0.out (by decide) (by decide) (by decide)).trans E0.out
  have c6 : W1.cell? ⟨w.heap.size, 6, none⟩ = some (.slice IA kn icap) := by rw [cell_of_row _ _ 6 _ _ _ e1]; simpa using D6.out
  have HSS : Hid (∀ wr v', PFr (Ex g vb) W1 v1 wr v' → ∀ k, S k → wr.heap[k]? = w.heap[k]?) := fun wr v' h k hk => by
    have hkB := HS.out k hk
    exact (h.low hw1 k hkB).trans ((Hp1.out.low Hw0.out k hkB).trans (hb0.block k (by omega)))
  have E1 := Lib.hid e1
  have Hw1 := Lib.hid hw1
  clear hW1 e1 hw1 hp1 q0 f0
  go_wp2_with fail
  go_loopw [32] (fun i wr => WLoop g vb B W1 v1 (L ++ own) (d.kid 0) (fun x => readsR f x (readOf d x)) i wr) (fun i _ => kn - (intOf i).toNat)
  case atStart => exact WLoop.start Hw1.out _ _
  case round =>
    obtain ⟨j, v', hj, rfl, hwi, hpf⟩ := hrel
    have hz := hpf.size
    have hjn : j ≤ kn := by rw [← Hkn.out]; exact hj
    by_cases hlt : j < kn
    · obtain ⟨x, ad, hx, rfl, hbx, hat⟩ := (Hri.out.keep (HSS.out wr v' hpf) (fun _ h => h)).get (show j < (d.kid 0).length by rw [Hkn.out]; exact hlt)
      have hxi := (Hi.out x (mem_of_get? hx)).keep (HSS.out wr v' hpf) (fun _ h => h)
      have hx14 := hxi.len
      have HiE : Hid ((Try.prog.info? 34).map (·.size) = some x.c.length) := by show _ = _; rw [hx14]; exact sizeRel
      have HiE2 : Hid ((Try.prog.info? 34).map (·.size) = some x.c.toArray.size) := by show _ = _; rw [List.size_toArray, hx14]; exact sizeRel
      have Hz : Hid (x.c.toArray.size = 14) := by show _ = _; rw [List.size_toArray, hx14]; rfl
      have H1 := Lib.hid (all_one hxi.ones)
      have Hat := Lib.hid hat
      obtain ⟨W2, hW2⟩ : ∃ W2, wr.alloc (.cells x.c.toArray 34) = W2 := ⟨_, rfl⟩
      have Hcell : Hid (∀ j u, x.c[j]? = some u → W2.cell? ((⟨wr.heap.size, 0, none⟩ : Addr).add j) = some u) := by show ∀ j u, _ → _; rw [← hW2]; exact new_cells wr x.c 34
      have hbW2 : Below wr.heap.size wr W2 := by rw [← hW2]; exact bel1 _ _
      have hle := len_take (F := (fun x => readsR f x (readOf d x))) j hx
      have hxn := n_mem (mem_of_get? hx)
      have Hcall : Hid (Calls Try.prog 25 #[.pointer (some ⟨g, 0, none⟩), .agg x.c.toArray, .pointer (some ⟨w.heap.size, 0, none⟩)] W2 (WPost g vb B v' ((L ++ own) ++ ((d.kid 0).take j).flatMap (fun x => readsR f x (readOf d x)) ++ readsR f x (readOf d x)) W2)) := by
        show Calls _ _ _ _ _
        exact hR x (some d) (some ⟨w.heap.size, 0, none⟩) v' W2 _ S (hxi.keep (fun k hk => hbW2.block k (by have := HS.out k hk; have := hwi.lt; omega)) (fun _ h => h)) HS.out ⟨w.heap.size, rfl, (hbW2.block _ (Array.getElem?_eq_some_iff.1 ((hpf.kept Hw1.out E1.out (by decide) (by decide) (by decide)).trans E1.out)).1).trans ((hpf.kept Hw1.out E1.out (by decide) (by decide) (by decide)).trans E1.out), (Hd.out.keep (HSS.out wr v' hpf) (fun _ h => h)).keep (fun k hk => hbW2.block k (by have := HS.out k hk; have := hwi.lt; omega)) (fun _ h => h)⟩ (fun p hp => by cases hp; omega) (by omega) (hwi.below hbW2) (by show _ + (readsR f x (readOf d x)).length ≤ _; simp only [List.length_append]; omega)
      have Hx := Lib.hid hx
      have HW2 := Lib.hid hW2
      have Hpf := Lib.hid hpf
      clear hat hxi hx14 hx hW2 hwi hpf hle
      go_upto_region 6 with (first | (refine wpList_load_st rfl 34 _ rfl _ Try.underlying34 rfl (ad.add (j * 14)) x.c HiE.out rfl Hat.out ?_) | (refine wpList_store_st rfl 34 _ _ rfl _ x.c.toArray HiE2.out Hz.out.symm H1.out rfl rfl ?_))
      rw [HW2.out]
      go_wp2_with (refine wpList_load_st rfl 34 _ rfl _ Try.underlying34 rfl ⟨wr.heap.size, 0, none⟩ x.c HiE.out rfl Hcell.out ?_)
      refine Hcall.out.mono ?_
      rintro e w3 ⟨rfl, v3, hwi3, hpf3⟩
      have Hst : Hid (WLoop g vb B W1 v1 (L ++ own) (d.kid 0) (fun x => readsR f x (readOf d x)) (.int .i64 ((j : Int) + 1)) w3) := WLoop.step Hx.out Hpf.out hbW2 hwi3 hpf3
      clear hwi3 hpf3
      go_wp2_with fail
      go_roundw
      case rel => exact Hst.out
      case measure => simp [intOf]; omega
    · obtain rfl : j = kn := by omega
      rw [show (d.kid 0).take j = d.kid 0 by rw [← Hkn.out]; exact List.take_length] at hwi
      obtain ⟨wm, hwm⟩ : ∃ wm, wm = wr := ⟨_, rfl⟩
      subst hwm
      have em := (hpf.kept Hw1.out E1.out (by decide) (by decide) (by decide)).trans E1.out
      have Hcm := Lib.hid (cells_of_heap em)
      have hSm : ∀ k, S k → k < wm.heap.size := fun k hk => by have := HS.out k hk; have := hwi.lt; omega
      have Hex : Hid (Calls Try.prog 40 #[.agg d.c.toArray] wm (ExPost (relE d) wm)) := by
        show Calls _ _ _ _ _
        exact mExprs_any d S wm (Hd.out.keep (HSS.out wm v' hpf) (fun _ h => h)) hSm (by omega)
      have Hie : Hid (∀ x, x ∈ relE d → DT.In S w .expr x) := Hd.out.relE
      have HiR2 := HiR
      obtain ⟨en, hen⟩ : ∃ n, (relE d).length = n := ⟨_, rfl⟩
      have hen2 : en ≤ 1048576 := by have := Hd.out.relLen; omega
      have HSm := Lib.hid (HSS.out wm v' hpf)
      have Hwi := Lib.hid hwi
      have Hpf := Lib.hid hpf
      have Hen := Lib.hid hen
      clear hwi hpf em c6 hlt hz hSm
      go_wp2_with (refine wpList_load_st rfl 34 _ rfl _ Try.underlying34 rfl ⟨w.heap.size, 0, none⟩ d.c HiR.out rfl Hcm.out ?_)
      refine Hex.out.mono ?_
      rintro e we ⟨v2, rfl, hown2, hbe⟩
      obtain ⟨A2, cap2, rfl, hrow2⟩ := own_structs2 hown2 rfl (fun x hx => (Hie.out x hx).len)
      have Hrow2 := Lib.hid hrow2
      have hwe := Hwi.out.below hbe
      have HSE : Hid (∀ wr v'', PFr (Ex g vb) we v' wr v'' → ∀ (q : Nat), (∃ cs : Array Value, we.heap[q]? = some (Obj.cells cs 56 (0, 0))) → wr.heap[q]? = we.heap[q]?) := fun wr v'' h q hq => by
        obtain ⟨cs, hcs⟩ := hq
        exact h.kept hwe hcs (by decide) (by decide) (by decide)
      have HSI : Hid (∀ wr v'', PFr (Ex g vb) we v' wr v'' → ∀ k, S k → wr.heap[k]? = w.heap[k]?) := fun wr v'' h k hk => (h.low hwe k (HS.out k hk)).trans ((hbe.block k (by have := HS.out k hk; have := Hwi.out.lt; omega)).trans (HSm.out k hk))
      have Hwe := Lib.hid hwe
      clear hown2 hrow2 hwe
      rw [Hen.out]
      go_wp2_with fail
      go_loopw [43] (fun i wr => WLoop g vb B we v' (L ++ own ++ (d.kid 0).flatMap (fun x => readsR f x (readOf d x))) (relE d) (readsE f) i wr) (fun i _ => en - (intOf i).toNat)
      case atStart => exact WLoop.start Hwe.out _ _
      case round =>
        obtain ⟨vm, hvm⟩ : ∃ vm, vm = v' := ⟨_, rfl⟩
        subst hvm
        obtain ⟨j, v', hj, rfl, hwi, hpf⟩ := hrel
        have hz := hpf.size
        have hjn : j ≤ en := by rw [← Hen.out]; exact hj
        by_cases hlt : j < en
        · obtain ⟨x, ad, hx, rfl, hbx, hat⟩ := (Hrow2.out.keep (HSE.out wr v' hpf) (fun _ h => h)).get (show j < (relE d).length by rw [Hen.out]; exact hlt)
          have hxi := (Hie.out x (mem_of_get? hx)).keep (HSI.out wr v' hpf) (fun _ h => h)
          have hx14 := hxi.len
          have HiE : Hid ((Try.prog.info? 56).map (·.size) = some x.c.length) := by show _ = _; rw [hx14]; exact sizeExpr
          have HiE2 : Hid ((Try.prog.info? 56).map (·.size) = some x.c.toArray.size) := by show _ = _; rw [List.size_toArray, hx14]; exact sizeExpr
          have Hz : Hid (x.c.toArray.size = 14) := by show _ = _; rw [List.size_toArray, hx14]; rfl
          have H1 := Lib.hid (all_one hxi.ones)
          have Hat := Lib.hid hat
          obtain ⟨W2, hW2⟩ : ∃ W2, wr.alloc (.cells x.c.toArray 56) = W2 := ⟨_, rfl⟩
          have Hcell : Hid (∀ j u, x.c[j]? = some u → W2.cell? ((⟨wr.heap.size, 0, none⟩ : Addr).add j) = some u) := by show ∀ j u, _ → _; rw [← hW2]; exact new_cells wr x.c 56
          have hbW2 : Below wr.heap.size wr W2 := by rw [← hW2]; exact bel1 _ _
          have hle := len_take (F := (readsE f)) j hx
          have hxn := n_mem (mem_of_get? hx)
          have Hcall : Hid (Calls Try.prog 41 #[.pointer (some ⟨g, 0, none⟩), .agg x.c.toArray] W2 (WPost g vb B v' ((L ++ own ++ (d.kid 0).flatMap (fun x => readsR f x (readOf d x))) ++ ((relE d).take j).flatMap (readsE f) ++ readsE f x) W2)) := by
            show Calls _ _ _ _ _
            exact hE x v' W2 _ S (hxi.keep (fun k hk => hbW2.block k (by have := HS.out k hk; have := hwi.lt; omega)) (fun _ h => h)) HS.out (by omega) (hwi.below hbW2) (by simp only [List.length_append]; omega)
          have Hx := Lib.hid hx
          have HW2 := Lib.hid hW2
          have Hpf := Lib.hid hpf
          clear hat hxi hx14 hx hW2 hwi hpf hle
          go_upto_region 11 with (first | (refine wpList_load_st rfl 56 _ rfl _ Try.underlying56 rfl (ad.add (j * 14)) x.c HiE.out rfl Hat.out ?_) | (refine wpList_store_st rfl 56 _ _ rfl _ x.c.toArray HiE2.out Hz.out.symm H1.out rfl rfl ?_))
          rw [HW2.out]
          go_wp2_with (refine wpList_load_st rfl 56 _ rfl _ Try.underlying56 rfl ⟨wr.heap.size, 0, none⟩ x.c HiE.out rfl Hcell.out ?_)
          refine Hcall.out.mono ?_
          rintro e w3 ⟨rfl, v3, hwi3, hpf3⟩
          have Hst : Hid (WLoop g vb B we vm (L ++ own ++ (d.kid 0).flatMap (fun x => readsR f x (readOf d x))) (relE d) (readsE f) (.int .i64 ((j : Int) + 1)) w3) := WLoop.step Hx.out Hpf.out hbW2 hwi3 hpf3
          clear hwi3 hpf3
          go_wp2_with fail
          go_roundw
          case rel => exact Hst.out
          case measure => simp [intOf]; omega
        · obtain rfl : j = en := by omega
          rw [show (relE d).take j = relE d by rw [← Hen.out]; exact List.take_length] at hwi
          go_wp2_with fail
          go_end0
          refine ⟨rfl, v', by simp only [List.append_assoc] at hwi ⊢; exact hwi, (PFr.below hb0).trans (Hp1.out.trans (Hpf.out.trans ((PFr.below hbe).trans hpf)))⟩
end Go.Proofs.Ytlphgceejghfkaa
