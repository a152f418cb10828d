/-
  The visitor that gathers tables: what it keeps; its walk over an expression.
-/
import Derived.Test.YtoeamomklmoncaaPtH
import Derived.Test.YtoeamomklmoncaaPtD
namespace Go.Proofs.Ytoeamomklmoncaa
open Go.RowKit
/-- The visitor, and the row that it makes. -/
def TInv (g B : Nat) (w : World) (v : Value) (L : List DT) : Prop := w.heap[g]? = some (.cells #[v] 53 (0, 0)) ∧ B ≤ g ∧ w.ownsRow B 31 14 v L.length (L.flatMap DT.c)
theorem TInv.lt {g B : Nat} {w : World} {v : Value} {L : List DT} (h : TInv g B w v L) : g < w.heap.size ∧ B ≤ g := ⟨(Array.getElem?_eq_some_iff.1 h.1).1, h.2.1⟩
theorem TInv.below {g B : Nat} {w w' : World} {v : Value} {L : List DT} (h : TInv g B w v L) (hb : Below w.heap.size w w') : TInv g B w' v L := ⟨(hb.block g h.lt.1).trans h.1, h.2.1, own_below h.2.2 hb⟩
/-- Behind a call of the visitor's. -/
def XPost (g B : Nat) (v : Value) (L : List DT) (w : World) (e : Ending) (w' : World) : Prop := e = .returned (.tuple #[]) ∧ ∃ v', TInv g B w' v' L ∧ PFr (· = g) w v w' v'
theorem PFr.lowX {g B : Nat} {w w' : World} {v v' : Value} {L : List DT} (hp : PFr (· = g) w v w' v') (h : TInv g B w v L) : ∀ k, k < B → w'.heap[k]? = w.heap[k]? := fun k hk => by
  have hl := h.lt
  refine hp.block k (by omega) (fun e => by omega) (fun e => ?_)
  have := (h.2.2.lt k e.symm).1
  omega
theorem PFr.keptX {g B k : Nat} {w w' : World} {v v' : Value} {L : List DT} {cs : Array Value} {t : TypeId} {fr : Nat × Nat} (hp : PFr (· = g) w v w' v') (h : TInv g B w v L) (hk : w.heap[k]? = some (.cells cs t fr)) (h1 : t ≠ 53) (h2 : t ≠ 31) : w'.heap[k]? = w.heap[k]? := by
  refine hp.block k (Array.getElem?_eq_some_iff.1 hk).1 (fun e => ?_) (own_neN h.2.2 hk h2)
  rw [show k = g from e, h.1] at hk
  cases hk
  exact h1 rfl
/-- What a loop over parts has at its head. -/
def VLoop (g B : Nat) (W1 : World) (v : Value) (L : List DT) (l : List DT) (F : DT → List DT) (i : Value) (wr : World) : Prop :=
  ∃ (j : Nat) (v' : Value), j ≤ l.length ∧ i = .int .i64 j ∧ TInv g B wr v' (L ++ (l.take j).flatMap F) ∧ PFr (· = g) W1 v wr v'
theorem VLoop.start {g B : Nat} {W1 : World} {v : Value} {L : List DT} (h : TInv g B W1 v L) (l : List DT) (F : DT → List DT) : VLoop g B W1 v L l F (.int .i64 0) W1 := ⟨0, v, Nat.zero_le _, rfl, by simpa using h, PFr.refl _ _ _⟩
theorem VLoop.step {g B j : Nat} {W1 wr W2 w3 : World} {v v' v3 : Value} {L : List DT} {l : List DT} {F : DT → List DT} {x : DT} (hx : l[j]? = some x) (hp : PFr (· = g) W1 v wr v') (hb : Below wr.heap.size wr W2) (hi : TInv g B w3 v3 (L ++ (l.take j).flatMap F ++ F x)) (hp3 : PFr (· = g) W2 v' w3 v3) : VLoop g B W1 v L l F (.int .i64 ((j : Int) + 1)) w3 := by
  refine ⟨j + 1, v3, (List.getElem?_eq_some_iff.1 hx).1, by simp, ?_, hp.trans ((PFr.below hb).trans hp3)⟩
  rw [List.take_add_one, hx, List.flatMap_append]
  simpa using hi
/-- What is shown of the visitor's method at a relation. -/
def TabOk : Prop := ∀ (g B : Nat) (d : DT) (S : Nat → Prop) (w : World) (v : Value) (L : List DT), DT.In S w .rel d → TInv g B w v L → (L.length + 1 ≤ 1048576 ∨ dInt d 0 ≠ 1) → Calls Try.prog 66 #[.pointer (some ⟨g, 0, none⟩), .agg d.c.toArray] w (XPost g B v (L ++ if dInt d 0 = 1 then [d] else []) w)
set_option maxRecDepth 100000 in
set_option maxHeartbeats 1000000 in
theorem tabE_any (g B : Nat) (cs : List Value) (w : World) (v : Value) (L : List DT) (h : TInv g B w v L) : Calls Try.prog 65 #[.pointer (some ⟨g, 0, none⟩), .agg cs.toArray] w (XPost g B v L w) := by
  have hb := bel1 w (.cells cs.toArray 49)
  have H := Lib.hid (h.below hb)
  clear h
  go_enter Try.func65, Try.ntmps65
  go_wp2_with fail
  go_end0
  exact ⟨rfl, v, H.out, PFr.below hb⟩
theorem methTE (a : Addr) (w : World) : (method 227 51 (.pointer (some a)) "boathouse/meaning.expr").run Try.prog w = .ok (65, .pointer (some a)) w := by kernel_rfl
theorem methTR (a : Addr) (w : World) : (method 227 51 (.pointer (some a)) "boathouse/meaning.rel").run Try.prog w = .ok (66, .pointer (some a)) w := by kernel_rfl
/-- What is shown of expressions and relations of at most f structs. -/
def VE (g B f : Nat) : Prop := ∀ (e : DT) (v : Value) (w : World) (L : List DT) (S : Nat → Prop), DT.In S w .expr e → (∀ k, S k → k < B) → e.n ≤ f → TInv g B w v L → L.length + (tabsE f e).length ≤ 1048576 → Calls Try.prog 18 #[.iface 51 (.pointer (some ⟨g, 0, none⟩)), .agg e.c.toArray] w (XPost g B v (L ++ tabsE f e) w)
def VR (g B f : Nat) : Prop := ∀ (d : DT) (v : Value) (w : World) (L : List DT) (S : Nat → Prop), DT.In S w .rel d → (∀ k, S k → k < B) → d.n ≤ f → TInv g B w v L → L.length + (tabsR f d).length ≤ 1048576 → Calls Try.prog 9 #[.iface 51 (.pointer (some ⟨g, 0, none⟩)), .agg d.c.toArray] w (XPost g B v (L ++ tabsR f d) w)
set_option maxRecDepth 100000 in
set_option maxHeartbeats 4000000 in
theorem vexpr_step (g B f : Nat) (hf : f + 1 ≤ 1048576) (hE : VE g B f) (hR : VR g B f) : VE g B (f + 1) := by
  intro d v w L S hd hS hn hi hL
  obtain ⟨⟨AA, acap, d12, ra⟩, ⟨SA, scap, d13, rs⟩, ia, is⟩ := hd.exprKids
  have hk5 := kids5 d
  have hlt := hi.lt
  have hlen := hd.len
  have hmeth := methTE
  rw [tabsE] at hL ⊢
  rw [List.length_append] at hL
  have HiD : Hid ((Try.prog.info? 49).map (·.size) = some d.c.length) := by show _ = _; rw [hlen]; exact sizeExpr
  have Ha := Lib.hid ia
  have Hs := Lib.hid is
  have Hra := Lib.hid ra
  have Hrs := Lib.hid rs
  obtain ⟨an, han⟩ : ∃ n, (d.kid 0).length = n := ⟨_, rfl⟩
  obtain ⟨sn, hsn⟩ : ∃ n, (d.kid 1).length = n := ⟨_, rfl⟩
  have han2 : an ≤ 1048576 := by have := len_nL (d.kid 0); omega
  have hsn2 : sn ≤ 1048576 := by have := len_nL (d.kid 1); omega
  rw [han] at d12
  rw [hsn] at d13
  obtain ⟨W0, hW0⟩ : ∃ W0, w.alloc (.cells d.c.toArray 49) = W0 := ⟨_, rfl⟩
  have hb0 : Below w.heap.size w W0 := by rw [← hW0]; exact bel1 _ _
  have e0 : W0.heap[w.heap.size]? = some (.cells d.c.toArray 49 (0, 0)) := by rw [← hW0]; exact heap_alloc_new w _
  have Hcd : Hid (∀ j u, d.c[j]? = some u → W0.cell? ((⟨w.heap.size, 0, none⟩ : Addr).add j) = some u) := cells_of_heap e0
  have hi0 := hi.below hb0
  have hvis := Lib.hid (tabE_any g B d.c W0 v L hi0)
  have HW0 := Lib.hid hW0
  have E0 := Lib.hid e0
  have HS := Lib.hid hS
  have D12 := Lib.hid d12
  have D13 := Lib.hid d13
  have Han := Lib.hid han
  have Hsn := Lib.hid hsn
  have Hi0 := Lib.hid hi0
  clear hW0 e0 hS hd d12 d13 ia is ra rs han hsn hlen hi hi0
  go_enter Try.func18, Try.ntmps18
  go_upto_region 1 with (fail)
  rw [HW0.out]
  go_wp2_with (refine wpList_load_st rfl 49 _ rfl _ Try.underlying49 rfl ⟨w.heap.size, 0, none⟩ d.c HiD.out rfl Hcd.out ?_)
  refine hvis.out.mono ?_
  rintro e W1 ⟨rfl, v1, hi1, hp1⟩
  have e1 := (hp1.keptX Hi0.out E0.out (by decide) (by decide)).trans E0.out
  have c12 : W1.cell? ⟨w.heap.size, 12, none⟩ = some (.slice AA an acap) := by rw [cell_of_row _ _ 12 _ _ _ e1]; simpa using D12.out
  have HSS : Hid (∀ wr v', PFr (· = g) W1 v1 wr v' → ∀ k, S k → wr.heap[k]? = w.heap[k]?) := fun wr v' h k hk => by
    have hkB := HS.out k hk
    exact (h.lowX hi1 k hkB).trans ((hp1.lowX Hi0.out k hkB).trans (hb0.block k (by omega)))
  have E1 := Lib.hid e1
  have Hi1 := Lib.hid hi1
  have Hp1 := Lib.hid hp1
  clear e1 hi1 hp1
  go_wp2_with fail
  go_loopw [14] (fun i wr => VLoop g B W1 v1 L (d.kid 0) (tabsE f) i wr) (fun i _ => an - (intOf i).toNat)
  case atStart => exact VLoop.start Hi1.out _ _
  case round =>
    obtain ⟨j, v', hj, rfl, hti, hpf⟩ := hrel
    have hz := hpf.size
    have hjn : j ≤ an := by rw [← Han.out]; exact hj
    by_cases hlt : j < an
    · obtain ⟨x, ad, hx, rfl, hbx, hat⟩ := (Hra.out.keep (HSS.out wr v' hpf) (fun _ h => h)).get (show j < (d.kid 0).length by rw [Han.out]; exact hlt)
      have hxi := (Ha.out x (mem_of_get? hx)).keep (HSS.out wr v' hpf) (fun _ h => h)
      have hx14 := hxi.len
      have HiE : Hid ((Try.prog.info? 49).map (·.size) = some x.c.length) := by show _ = _; rw [hx14]; exact sizeExpr
      have HiE2 : Hid ((Try.prog.info? 49).map (·.size) = some x.c.toArray.size) := by show _ = _; rw [List.size_toArray, hx14]; exact sizeExpr
      have Hz : Hid (x.c.toArray.size = 14) := by show _ = _; rw [List.size_toArray, hx14]; rfl
      have H1 := Lib.hid (all_one hxi.ones)
      have Hat := Lib.hid hat
      obtain ⟨W2, hW2⟩ : ∃ W2, wr.alloc (.cells x.c.toArray 49) = W2 := ⟨_, rfl⟩
      have Hcell : Hid (∀ j u, x.c[j]? = some u → W2.cell? ((⟨wr.heap.size, 0, none⟩ : Addr).add j) = some u) := by show ∀ j u, _ → _; rw [← hW2]; exact new_cells wr x.c 49
      have hbW2 : Below wr.heap.size wr W2 := by rw [← hW2]; exact bel1 _ _
      have hle := len_takeD (F := (tabsE f)) j hx
      have hxn := n_mem (mem_of_get? hx)
      have Hcall : Hid (Calls Try.prog 18 #[.iface 51 (.pointer (some ⟨g, 0, none⟩)), .agg x.c.toArray] W2 (XPost g B v' (L ++ ((d.kid 0).take j).flatMap (tabsE f) ++ tabsE f x) W2)) := by
        show Calls _ _ _ _ _
        exact hE x v' W2 _ S (hxi.keep (fun k hk => hbW2.block k (by have := HS.out k hk; have := hti.lt; omega)) (fun _ h => h)) HS.out (by omega) (hti.below hbW2) (by simp only [List.length_append]; omega)
      have Hx := Lib.hid hx
      have HW2 := Lib.hid hW2
      have Hpf := Lib.hid hpf
      clear hat hxi hx14 hx hW2 hti hpf hle
      go_upto_region 5 with (first | (refine wpList_load_st rfl 49 _ rfl _ Try.underlying49 rfl (ad.add (j * 14)) x.c HiE.out rfl Hat.out ?_) | (refine wpList_store_st rfl 49 _ _ rfl _ x.c.toArray HiE2.out Hz.out.symm H1.out rfl rfl ?_))
      rw [HW2.out]
      go_wp2_with (refine wpList_load_st rfl 49 _ rfl _ Try.underlying49 rfl ⟨wr.heap.size, 0, none⟩ x.c HiE.out rfl Hcell.out ?_)
      refine Hcall.out.mono ?_
      rintro e w3 ⟨rfl, v3, hti3, hpf3⟩
      have Hst : Hid (VLoop g B W1 v1 L (d.kid 0) (tabsE f) (.int .i64 ((j : Int) + 1)) w3) := VLoop.step Hx.out Hpf.out hbW2 hti3 hpf3
      clear hti3 hpf3
      go_wp2_with fail
      go_roundw
      case rel => exact Hst.out
      case measure => simp [intOf]; omega
    · obtain rfl : j = an := by omega
      rw [show (d.kid 0).take j = d.kid 0 by rw [← Han.out]; exact List.take_length] at hti
      obtain ⟨wm, hwm⟩ : ∃ wm, wm = wr := ⟨_, rfl⟩
      subst hwm
      obtain ⟨vm, hvm⟩ : ∃ vm, vm = v' := ⟨_, rfl⟩
      subst hvm
      have em := (hpf.keptX Hi1.out E1.out (by decide) (by decide)).trans E1.out
      have c13 : wm.cell? ⟨w.heap.size, 13, none⟩ = some (.slice SA sn scap) := by rw [cell_of_row _ _ 13 _ _ _ em]; simpa using D13.out
      have HSS2 : Hid (∀ wr v'', PFr (· = g) wm vm wr v'' → ∀ k, S k → wr.heap[k]? = w.heap[k]?) := fun wr v'' h k hk => (h.lowX hti k (HS.out k hk)).trans (HSS.out wm vm hpf k hk)
      have Hti := Lib.hid hti
      have Hpf := Lib.hid hpf
      clear hti hpf em c12 hlt hz
      go_wp2_with fail
      go_loopw [25] (fun i wr => VLoop g B wm vm (L ++ (d.kid 0).flatMap (tabsE f)) (d.kid 1) (tabsR f) i wr) (fun i _ => sn - (intOf i).toNat)
      case atStart => exact VLoop.start Hti.out _ _
      case round =>
        obtain ⟨j, v', hj, rfl, hti, hpf⟩ := hrel
        have hz := hpf.size
        have hjn : j ≤ sn := by rw [← Hsn.out]; exact hj
        by_cases hlt : j < sn
        · obtain ⟨x, ad, hx, rfl, hbx, hat⟩ := (Hrs.out.keep (HSS2.out wr v' hpf) (fun _ h => h)).get (show j < (d.kid 1).length by rw [Hsn.out]; exact hlt)
          have hxi := (Hs.out x (mem_of_get? hx)).keep (HSS2.out wr v' hpf) (fun _ h => h)
          have hx14 := hxi.len
          have HiE : Hid ((Try.prog.info? 31).map (·.size) = some x.c.length) := by show _ = _; rw [hx14]; exact sizeRel
          have HiE2 : Hid ((Try.prog.info? 31).map (·.size) = some x.c.toArray.size) := by show _ = _; rw [List.size_toArray, hx14]; exact sizeRel
          have Hz : Hid (x.c.toArray.size = 14) := by show _ = _; rw [List.size_toArray, hx14]; rfl
          have H1 := Lib.hid (all_one hxi.ones)
          have Hat := Lib.hid hat
          obtain ⟨W2, hW2⟩ : ∃ W2, wr.alloc (.cells x.c.toArray 31) = W2 := ⟨_, rfl⟩
          have Hcell : Hid (∀ j u, x.c[j]? = some u → W2.cell? ((⟨wr.heap.size, 0, none⟩ : Addr).add j) = some u) := by show ∀ j u, _ → _; rw [← hW2]; exact new_cells wr x.c 31
          have hbW2 : Below wr.heap.size wr W2 := by rw [← hW2]; exact bel1 _ _
          have hle := len_takeD (F := (tabsR f)) j hx
          have hxn := n_mem (mem_of_get? hx)
          have Hcall : Hid (Calls Try.prog 9 #[.iface 51 (.pointer (some ⟨g, 0, none⟩)), .agg x.c.toArray] W2 (XPost g B v' ((L ++ (d.kid 0).flatMap (tabsE f)) ++ ((d.kid 1).take j).flatMap (tabsR f) ++ tabsR f x) W2)) := by
            show Calls _ _ _ _ _
            exact hR x v' W2 _ S (hxi.keep (fun k hk => hbW2.block k (by have := HS.out k hk; have := hti.lt; omega)) (fun _ h => h)) HS.out (by omega) (hti.below hbW2) (by simp only [List.length_append]; omega)
          have Hx := Lib.hid hx
          have HW2 := Lib.hid hW2
          have Hpf := Lib.hid hpf
          clear hat hxi hx14 hx hW2 hti hpf hle
          go_upto_region 10 with (first | (refine wpList_load_st rfl 31 _ rfl _ Try.underlying31 rfl (ad.add (j * 14)) x.c HiE.out rfl Hat.out ?_) | (refine wpList_store_st rfl 31 _ _ rfl _ x.c.toArray HiE2.out Hz.out.symm H1.out rfl rfl ?_))
          rw [HW2.out]
          go_wp2_with (refine wpList_load_st rfl 31 _ rfl _ Try.underlying31 rfl ⟨wr.heap.size, 0, none⟩ x.c HiE.out rfl Hcell.out ?_)
          refine Hcall.out.mono ?_
          rintro e w3 ⟨rfl, v3, hti3, hpf3⟩
          have Hst : Hid (VLoop g B wm vm (L ++ (d.kid 0).flatMap (tabsE f)) (d.kid 1) (tabsR f) (.int .i64 ((j : Int) + 1)) w3) := VLoop.step Hx.out Hpf.out hbW2 hti3 hpf3
          clear hti3 hpf3
          go_wp2_with fail
          go_roundw
          case rel => exact Hst.out
          case measure => simp [intOf]; omega
        · obtain rfl : j = sn := by omega
          rw [show (d.kid 1).take j = d.kid 1 by rw [← Hsn.out]; exact List.take_length] at hti
          go_wp2_with fail
          go_end0
          refine ⟨rfl, v', by rw [List.append_assoc] at hti; exact hti, (PFr.below hb0).trans (Hp1.out.trans (Hpf.out.trans hpf))⟩
end Go.Proofs.Ytoeamomklmoncaa
