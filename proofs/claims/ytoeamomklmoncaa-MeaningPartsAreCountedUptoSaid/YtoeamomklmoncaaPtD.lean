/-
  The counter of parts: its methods.
-/
import Derived.Test.YtoeamomklmoncaaPtB
namespace Go.Proofs.Ytoeamomklmoncaa
open Go.RowKit
/-- A counter that holds n. -/
def CInv (g : Nat) (w : World) (n : Nat) : Prop := w.heap[g]? = some (.cells #[.int .i64 (n : Int)] 39 (0, 0))
theorem CInv.lt {g n : Nat} {w : World} (h : CInv g w n) : g < w.heap.size := (Array.getElem?_eq_some_iff.1 h).1
theorem CInv.below {g n : Nat} {w w' : World} (h : CInv g w n) (hb : Below w.heap.size w w') : CInv g w' n := (hb.block g h.lt).trans h
def CPost (g n : Nat) (w : World) (e : Ending) (w' : World) : Prop := e = .returned (.tuple #[]) ∧ CInv g w' n ∧ Ch g w w'
set_option maxRecDepth 100000 in
set_option maxHeartbeats 1000000 in
theorem countR_any (g n : Nat) (cs : List Value) (w : World) (hc : CInv g w n) (hn : n ≤ 1048576) : Calls Try.prog 64 #[.pointer (some ⟨g, 0, none⟩), .agg cs.toArray] w (CPost g (n + 1) w) := by
  obtain ⟨W0, hW0⟩ : ∃ W0, w.alloc (.cells cs.toArray 31) = W0 := ⟨_, rfl⟩
  have hb0 : Below w.heap.size w W0 := by rw [← hW0]; exact bel1 _ _
  have h0 := hc.below hb0
  have c0 : W0.cell? ⟨g, 0, none⟩ = some (.int .i64 (n : Int)) := cell_of_row _ _ 0 _ _ _ h0
  have f0 : W0.frozen? ⟨g, 0, none⟩ = false := frozen_of_row _ _ 0 _ _ h0
  have HW0 := Lib.hid hW0
  have H0 := Lib.hid h0
  clear hW0 h0 hc
  go_enter Try.func64, Try.ntmps64
  go_upto_region 1 with (fail)
  rw [HW0.out]
  go_wp2_with fail
  go_end0
  refine ⟨rfl, ?_, (Ch.of_below hb0).setCell _ _⟩
  have h := heap_setCell_same W0 g 0 _ _ (.int .i64 ((n : Int) + 1)) H0.out
  simpa [CInv] using h
set_option maxRecDepth 100000 in
set_option maxHeartbeats 1000000 in
theorem countE_any (g n : Nat) (cs : List Value) (w : World) (hc : CInv g w n) (hn : n ≤ 1048576) : Calls Try.prog 63 #[.pointer (some ⟨g, 0, none⟩), .agg cs.toArray] w (CPost g (n + 1) w) := by
  obtain ⟨W0, hW0⟩ : ∃ W0, w.alloc (.cells cs.toArray 49) = W0 := ⟨_, rfl⟩
  have hb0 : Below w.heap.size w W0 := by rw [← hW0]; exact bel1 _ _
  have h0 := hc.below hb0
  have c0 : W0.cell? ⟨g, 0, none⟩ = some (.int .i64 (n : Int)) := cell_of_row _ _ 0 _ _ _ h0
  have f0 : W0.frozen? ⟨g, 0, none⟩ = false := frozen_of_row _ _ 0 _ _ h0
  have HW0 := Lib.hid hW0
  have H0 := Lib.hid h0
  clear hW0 h0 hc
  go_enter Try.func63, Try.ntmps63
  go_upto_region 1 with (fail)
  rw [HW0.out]
  go_wp2_with fail
  go_end0
  refine ⟨rfl, ?_, (Ch.of_below hb0).setCell _ _⟩
  have h := heap_setCell_same W0 g 0 _ _ (.int .i64 ((n : Int) + 1)) H0.out
  simpa [CInv] using h
/-- What is shown of expressions and relations of at most f structs. -/
def KE (g f : Nat) : Prop := ∀ (e : DT) (n B : Nat) (w : World) (S : Nat → Prop), DT.In S w .expr e → (∀ k, S k → k < B) → B ≤ g → e.n ≤ f → CInv g w n → n + partsE f e ≤ 1048576 → Calls Try.prog 18 #[.iface 37 (.pointer (some ⟨g, 0, none⟩)), .agg e.c.toArray] w (CPost g (n + partsE f e) w)
def KR (g f : Nat) : Prop := ∀ (d : DT) (n B : Nat) (w : World) (S : Nat → Prop), DT.In S w .rel d → (∀ k, S k → k < B) → B ≤ g → d.n ≤ f → CInv g w n → n + partsR f d ≤ 1048576 → Calls Try.prog 9 #[.iface 37 (.pointer (some ⟨g, 0, none⟩)), .agg d.c.toArray] w (CPost g (n + partsR f d) w)
theorem methE (a : Addr) (w : World) : (method 227 37 (.pointer (some a)) "boathouse/meaning.expr").run Try.prog w = .ok (63, .pointer (some a)) w := by kernel_rfl
theorem methR (a : Addr) (w : World) : (method 227 37 (.pointer (some a)) "boathouse/meaning.rel").run Try.prog w = .ok (64, .pointer (some a)) w := by kernel_rfl
/-- What a loop over parts has at its head. -/
def CLoop (g : Nat) (W1 : World) (n : Nat) (l : List DT) (F : DT → Nat) (i : Value) (wr : World) : Prop := ∃ j : Nat, j ≤ l.length ∧ i = .int .i64 j ∧ CInv g wr (n + ((l.take j).map F).sum) ∧ Ch g W1 wr
theorem CLoop.start {g n : Nat} {W1 : World} (h : CInv g W1 n) (l : List DT) (F : DT → Nat) : CLoop g W1 n l F (.int .i64 0) W1 := ⟨0, Nat.zero_le _, rfl, by simpa using h, Ch.refl _ _⟩
theorem CLoop.step {g n j : Nat} {W1 wr W2 w3 : World} {l : List DT} {F : DT → Nat} {x : DT} (hx : l[j]? = some x) (hp : Ch g W1 wr) (hb : Below wr.heap.size wr W2) (hi : CInv g w3 (n + ((l.take j).map F).sum + F x)) (h3 : Ch g W2 w3) : CLoop g W1 n l F (.int .i64 ((j : Int) + 1)) w3 := by
  refine ⟨j + 1, (List.getElem?_eq_some_iff.1 hx).1, by simp, ?_, (hp.trans (Ch.of_below hb)).trans h3⟩
  rw [sum_take hx, ← Nat.add_assoc]
  exact hi
theorem Ch.low {g B : Nat} {w w' : World} (h : Ch g w w') (hB : B ≤ g) (hg : g < w.heap.size) : ∀ k, k < B → w'.heap[k]? = w.heap[k]? := fun k hk => h.block k (by omega) (by omega)
set_option maxRecDepth 100000 in
set_option maxHeartbeats 4000000 in
theorem cexpr_step (g f : Nat) (hf : f + 1 ≤ 1048576) (hE : KE g f) (hR : KR g f) : KE g (f + 1) := by
  intro d n B w S hd hS hBg hn hc hL
  obtain ⟨⟨AA, acap, d12, ra⟩, ⟨SA, scap, d13, rs⟩, ia, is⟩ := hd.exprKids
  have hk5 := kids5 d
  have hlt := hc.lt
  have hlen := hd.len
  have hmeth := methE
  rw [partsE] at hL ⊢
  have HiD : Hid ((Try.prog.info? 49).map (·.size) = some d.c.length) := by show _ = _; rw [hlen]; exact sizeExpr
  have Ha := Lib.hid ia
  have Hs := Lib.hid is
  have Hra := Lib.hid ra
  have Hrs := Lib.hid rs
  obtain ⟨an, han⟩ : ∃ n, (d.kid 0).length = n := ⟨_, rfl⟩
  obtain ⟨sn, hsn⟩ : ∃ n, (d.kid 1).length = n := ⟨_, rfl⟩
  have han2 : an ≤ 1048576 := by have := len_nL (d.kid 0); omega
  have hsn2 : sn ≤ 1048576 := by have := len_nL (d.kid 1); omega
  rw [han] at d12
  rw [hsn] at d13
  obtain ⟨W0, hW0⟩ : ∃ W0, w.alloc (.cells d.c.toArray 49) = W0 := ⟨_, rfl⟩
  have hb0 : Below w.heap.size w W0 := by rw [← hW0]; exact bel1 _ _
  have e0 : W0.heap[w.heap.size]? = some (.cells d.c.toArray 49 (0, 0)) := by rw [← hW0]; exact heap_alloc_new w _
  have Hcd : Hid (∀ j u, d.c[j]? = some u → W0.cell? ((⟨w.heap.size, 0, none⟩ : Addr).add j) = some u) := cells_of_heap e0
  have hcount := Lib.hid (countE_any g n d.c W0 (hc.below hb0) (by omega))
  have HW0 := Lib.hid hW0
  have E0 := Lib.hid e0
  have HS := Lib.hid hS
  have D12 := Lib.hid d12
  have D13 := Lib.hid d13
  have Han := Lib.hid han
  have Hsn := Lib.hid hsn
  have Hc := Lib.hid hc
  clear hW0 e0 hS hd d12 d13 ia is ra rs han hsn hlen hc
  go_enter Try.func18, Try.ntmps18
  go_upto_region 1 with (fail)
  rw [HW0.out]
  go_wp2_with (refine wpList_load_st rfl 49 _ rfl _ Try.underlying49 rfl ⟨w.heap.size, 0, none⟩ d.c HiD.out rfl Hcd.out ?_)
  refine hcount.out.mono ?_
  rintro e W1 ⟨rfl, hc1, hch1⟩
  have hlt1 := hc1.lt
  have hw1 := hch1.size
  have hne : w.heap.size ≠ g := by omega
  have e1 : W1.heap[w.heap.size]? = some (.cells d.c.toArray 49 (0, 0)) := (hch1.block _ (Array.getElem?_eq_some_iff.1 E0.out).1 hne).trans E0.out
  have c12 : W1.cell? ⟨w.heap.size, 12, none⟩ = some (.slice AA an acap) := by rw [cell_of_row _ _ 12 _ _ _ e1]; simpa using D12.out
  have hl1 : w.heap.size < W1.heap.size := (Array.getElem?_eq_some_iff.1 e1).1
  have HSS : Hid (∀ wr, Ch g W1 wr → ∀ k, S k → wr.heap[k]? = w.heap[k]?) := fun wr h k hk => by
    have hkB := HS.out k hk
    exact (h.block k (by omega) (by omega)).trans ((hch1.block k (by have := hb0.size; omega) (by omega)).trans (hb0.block k (by omega)))
  have E1 := Lib.hid e1
  have Hc1 := Lib.hid hc1
  have Hch1 := Lib.hid hch1
  clear e1 hc1 hch1
  go_wp2_with fail
  go_loopw [14] (fun i wr => CLoop g W1 (n + 1) (d.kid 0) (partsE f) i wr) (fun i _ => an - (intOf i).toNat)
  case atStart => exact CLoop.start Hc1.out _ _
  case round =>
    obtain ⟨j, hj, rfl, hci, hch⟩ := hrel
    have hz := hch.size
    have hjn : j ≤ an := by rw [← Han.out]; exact hj
    by_cases hlt : j < an
    · obtain ⟨x, ad, hx, rfl, hbx, hat⟩ := (Hra.out.keep (HSS.out wr hch) (fun _ h => h)).get (show j < (d.kid 0).length by rw [Han.out]; exact hlt)
      have hxi := (Ha.out x (mem_of_get? hx)).keep (HSS.out wr hch) (fun _ h => h)
      have hx14 := hxi.len
      have HiE : Hid ((Try.prog.info? 49).map (·.size) = some x.c.length) := by show _ = _; rw [hx14]; exact sizeExpr
      have HiE2 : Hid ((Try.prog.info? 49).map (·.size) = some x.c.toArray.size) := by show _ = _; rw [List.size_toArray, hx14]; exact sizeExpr
      have Hz : Hid (x.c.toArray.size = 14) := by show _ = _; rw [List.size_toArray, hx14]; rfl
      have H1 := Lib.hid (all_one hxi.ones)
      have Hat := Lib.hid hat
      obtain ⟨W2, hW2⟩ : ∃ W2, wr.alloc (.cells x.c.toArray 49) = W2 := ⟨_, rfl⟩
      have Hcell : Hid (∀ j u, x.c[j]? = some u → W2.cell? ((⟨wr.heap.size, 0, none⟩ : Addr).add j) = some u) := by show ∀ j u, _ → _; rw [← hW2]; exact new_cells wr x.c 49
      have hbW2 : Below wr.heap.size wr W2 := by rw [← hW2]; exact bel1 _ _
      have hle := sum_take_le (F := (partsE f)) (d.kid 0) j hx
      have hxn := n_mem (mem_of_get? hx)
      have Hcall : Hid (Calls Try.prog 18 #[.iface 37 (.pointer (some ⟨g, 0, none⟩)), .agg x.c.toArray] W2 (CPost g (n + 1 + (((d.kid 0).take j).map (partsE f)).sum + partsE f x) W2)) := by
        show Calls _ _ _ _ _
        exact hE x _ B W2 S (hxi.keep (fun k hk => hbW2.block k (by have := HS.out k hk; have := hci.lt; omega)) (fun _ h => h)) HS.out hBg (by omega) (hci.below hbW2) (by omega)
      have Hx := Lib.hid hx
      have HW2 := Lib.hid hW2
      have Hch := Lib.hid hch
      clear hat hxi hx14 hx hW2 hci hch hle
      go_upto_region 5 with (first | (refine wpList_load_st rfl 49 _ rfl _ Try.underlying49 rfl (ad.add (j * 14)) x.c HiE.out rfl Hat.out ?_) | (refine wpList_store_st rfl 49 _ _ rfl _ x.c.toArray HiE2.out Hz.out.symm H1.out rfl rfl ?_))
      rw [HW2.out]
      go_wp2_with (refine wpList_load_st rfl 49 _ rfl _ Try.underlying49 rfl ⟨wr.heap.size, 0, none⟩ x.c HiE.out rfl Hcell.out ?_)
      refine Hcall.out.mono ?_
      rintro e w3 ⟨rfl, hci3, hch3⟩
      have Hst : Hid (CLoop g W1 (n + 1) (d.kid 0) (partsE f) (.int .i64 ((j : Int) + 1)) w3) := CLoop.step Hx.out Hch.out hbW2 hci3 hch3
      clear hci3 hch3
      go_wp2_with fail
      go_roundw
      case rel => exact Hst.out
      case measure => simp [intOf]; omega
    · obtain rfl : j = an := by omega
      rw [show (d.kid 0).take j = d.kid 0 by rw [← Han.out]; exact List.take_length] at hci
      obtain ⟨wm, hwm⟩ : ∃ wm, wm = wr := ⟨_, rfl⟩
      subst hwm
      have em := (hch.block _ (Array.getElem?_eq_some_iff.1 E1.out).1 hne).trans E1.out
      have c13 : wm.cell? ⟨w.heap.size, 13, none⟩ = some (.slice SA sn scap) := by rw [cell_of_row _ _ 13 _ _ _ em]; simpa using D13.out
      have HSS2 : Hid (∀ wr, Ch g wm wr → ∀ k, S k → wr.heap[k]? = w.heap[k]?) := fun wr h k hk => (h.block k (by have := HS.out k hk; omega) (by have := HS.out k hk; omega)).trans (HSS.out wm hch k hk)
      have Hci := Lib.hid hci
      have Hch := Lib.hid hch
      have hzm := hz
      clear hci hch em c12 hlt hz
      go_wp2_with fail
      go_loopw [25] (fun i wr => CLoop g wm (n + 1 + ((d.kid 0).map (partsE f)).sum) (d.kid 1) (partsR f) i wr) (fun i _ => sn - (intOf i).toNat)
      case atStart => exact CLoop.start Hci.out _ _
      case round =>
        obtain ⟨j, hj, rfl, hci, hch⟩ := hrel
        have hz := hch.size
        have hjn : j ≤ sn := by rw [← Hsn.out]; exact hj
        by_cases hlt : j < sn
        · obtain ⟨x, ad, hx, rfl, hbx, hat⟩ := (Hrs.out.keep (HSS2.out wr hch) (fun _ h => h)).get (show j < (d.kid 1).length by rw [Hsn.out]; exact hlt)
          have hxi := (Hs.out x (mem_of_get? hx)).keep (HSS2.out wr hch) (fun _ h => h)
          have hx14 := hxi.len
          have HiE : Hid ((Try.prog.info? 31).map (·.size) = some x.c.length) := by show _ = _; rw [hx14]; exact sizeRel
          have HiE2 : Hid ((Try.prog.info? 31).map (·.size) = some x.c.toArray.size) := by show _ = _; rw [List.size_toArray, hx14]; exact sizeRel
          have Hz : Hid (x.c.toArray.size = 14) := by show _ = _; rw [List.size_toArray, hx14]; rfl
          have H1 := Lib.hid (all_one hxi.ones)
          have Hat := Lib.hid hat
          obtain ⟨W2, hW2⟩ : ∃ W2, wr.alloc (.cells x.c.toArray 31) = W2 := ⟨_, rfl⟩
          have Hcell : Hid (∀ j u, x.c[j]? = some u → W2.cell? ((⟨wr.heap.size, 0, none⟩ : Addr).add j) = some u) := by show ∀ j u, _ → _; rw [← hW2]; exact new_cells wr x.c 31
          have hbW2 : Below wr.heap.size wr W2 := by rw [← hW2]; exact bel1 _ _
          have hle := sum_take_le (F := (partsR f)) (d.kid 1) j hx
          have hxn := n_mem (mem_of_get? hx)
          have Hcall : Hid (Calls Try.prog 9 #[.iface 37 (.pointer (some ⟨g, 0, none⟩)), .agg x.c.toArray] W2 (CPost g (n + 1 + ((d.kid 0).map (partsE f)).sum + (((d.kid 1).take j).map (partsR f)).sum + partsR f x) W2)) := by
            show Calls _ _ _ _ _
            exact hR x _ B W2 S (hxi.keep (fun k hk => hbW2.block k (by have := HS.out k hk; have := hci.lt; omega)) (fun _ h => h)) HS.out hBg (by omega) (hci.below hbW2) (by omega)
          have Hx := Lib.hid hx
          have HW2 := Lib.hid hW2
          have Hch := Lib.hid hch
          clear hat hxi hx14 hx hW2 hci hch hle
          go_upto_region 10 with (first | (refine wpList_load_st rfl 31 _ rfl _ Try.underlying31 rfl (ad.add (j * 14)) x.c HiE.out rfl Hat.out ?_) | (refine wpList_store_st rfl 31 _ _ rfl _ x.c.toArray HiE2.out Hz.out.symm H1.out rfl rfl ?_))
          rw [HW2.out]
          go_wp2_with (refine wpList_load_st rfl 31 _ rfl _ Try.underlying31 rfl ⟨wr.heap.size, 0, none⟩ x.c HiE.out rfl Hcell.out ?_)
          refine Hcall.out.mono ?_
          rintro e w3 ⟨rfl, hci3, hch3⟩
          have Hst : Hid (CLoop g wm (n + 1 + ((d.kid 0).map (partsE f)).sum) (d.kid 1) (partsR f) (.int .i64 ((j : Int) + 1)) w3) := CLoop.step Hx.out Hch.out hbW2 hci3 hch3
          clear hci3 hch3
          go_wp2_with fail
          go_roundw
          case rel => exact Hst.out
          case measure => simp [intOf]; omega
        · obtain rfl : j = sn := by omega
          rw [show (d.kid 1).take j = d.kid 1 by rw [← Hsn.out]; exact List.take_length] at hci
          go_wp2_with fail
          go_end0
          refine ⟨rfl, ?_, ((Ch.of_below hb0).trans Hch1.out).trans (Hch.out.trans hch)⟩
          rw [show n + (1 + ((d.kid 0).map (partsE f)).sum + ((d.kid 1).map (partsR f)).sum) = n + 1 + ((d.kid 0).map (partsE f)).sum + ((d.kid 1).map (partsR f)).sum by omega]
          exact hci
end Go.Proofs.Ytoeamomklmoncaa
