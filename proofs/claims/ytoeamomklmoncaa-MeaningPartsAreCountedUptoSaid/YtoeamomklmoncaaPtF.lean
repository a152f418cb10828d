/-
  The reference's Parts and PartsOf, walked.
-/
import Derived.Test.YtoeamomklmoncaaPtB
namespace Go.Proofs.Ytoeamomklmoncaa
open Go.RowKit
/-- What a loop that adds up has at its head. -/
def NLoop (W1 : World) (b : Nat) (l : List DT) (F : DT → Nat) (sv i : Value) (wr : World) : Prop := ∃ j s : Nat, j ≤ l.length ∧ i = .int .i64 j ∧ s = b + ((l.take j).map F).sum ∧ sv = .int .i64 s ∧ Below W1.heap.size W1 wr
theorem NLoop.start (W1 : World) (b : Nat) (l : List DT) (F : DT → Nat) : NLoop W1 b l F (.int .i64 b) (.int .i64 0) W1 := ⟨0, b, Nat.zero_le _, rfl, by simp, rfl, Below.refl _ _⟩
def NPost (n : Nat) (w : World) (e : Ending) (w' : World) : Prop := e = .returned (.int .i64 n) ∧ Below w.heap.size w w'
def PQ (f : Nat) : Prop := ∀ (d : DT) (S : Nat → Prop) (w : World), DT.In S w .rel d → (∀ k, S k → k < w.heap.size) → d.n ≤ f → Calls Try.prog 5 #[.agg d.c.toArray] w (NPost (partsR f d) w)
def PE (f : Nat) : Prop := ∀ (d : DT) (S : Nat → Prop) (w : World), DT.In S w .expr d → (∀ k, S k → k < w.heap.size) → d.n ≤ f → Calls Try.prog 11 #[.agg d.c.toArray] w (NPost (partsE f d) w)
set_option maxRecDepth 100000 in
set_option maxHeartbeats 4000000 in
theorem partsOf_step (f : Nat) (hf : f + 1 ≤ 1048576) (hE : PE f) (hR : PQ f) : PE (f + 1) := by
  intro d S w hd hS hn
  obtain ⟨⟨AA, acap, d12, ra⟩, ⟨SA, scap, d13, rs⟩, ia, is⟩ := hd.exprKids
  have hk5 := kids5 d
  have hl1 := sum_le (F := partsE f) (l := d.kid 0) (parts_le f).2
  have hl2 := sum_le (F := partsR f) (l := d.kid 1) (parts_le f).1
  rw [partsE]
  have Ha := Lib.hid ia
  have Hs0 := Lib.hid is
  have Hra := Lib.hid ra
  have Hrs := Lib.hid rs
  obtain ⟨an, han⟩ : ∃ n, (d.kid 0).length = n := ⟨_, rfl⟩
  obtain ⟨sn, hsn⟩ : ∃ n, (d.kid 1).length = n := ⟨_, rfl⟩
  have han2 : an ≤ 1048576 := by have := len_nL (d.kid 0); omega
  have hsn2 : sn ≤ 1048576 := by have := len_nL (d.kid 1); omega
  rw [han] at d12
  rw [hsn] at d13
  obtain ⟨W0, hW0⟩ : ∃ W0, w.alloc (.cells d.c.toArray 49) = W0 := ⟨_, rfl⟩
  have hb0 : Below w.heap.size w W0 := by rw [← hW0]; exact bel1 _ _
  have e0 : W0.heap[w.heap.size]? = some (.cells d.c.toArray 49 (0, 0)) := by rw [← hW0]; exact heap_alloc_new w _
  have hl0 : w.heap.size < W0.heap.size := (Array.getElem?_eq_some_iff.1 e0).1
  have c12 : W0.cell? ⟨w.heap.size, 12, none⟩ = some (.slice AA an acap) := by rw [cell_of_row _ _ 12 _ _ _ e0]; simpa using d12
  have HSS : Hid (∀ wr, Below W0.heap.size W0 wr → ∀ k, S k → wr.heap[k]? = w.heap[k]?) := fun wr h k hk => (h.block k (by have := hS k hk; omega)).trans (hb0.block k (hS k hk))
  have HW0 := Lib.hid hW0
  have E0 := Lib.hid e0
  have HS : Hid (∀ k, S k → k < w.heap.size) := hS
  have D13 := Lib.hid d13
  have Han := Lib.hid han
  have Hsn := Lib.hid hsn
  clear hW0 e0 hS hd d12 d13 ia is ra rs han hsn
  go_enter Try.func11, Try.ntmps11
  go_upto_region 2 with (fail)
  rw [HW0.out]
  go_wp2_with fail
  go_loopw [3, 11] (fun sv i wr => NLoop W0 1 (d.kid 0) (partsE f) sv i wr) (fun _ i _ => an - (intOf i).toNat)
  case atStart => exact NLoop.start _ _ _ _
  case round =>
    obtain ⟨j, s, hj, rfl, hs, rfl, hb⟩ := hrel
    have hz := hb.size
    have hjn : j ≤ an := by rw [← Han.out]; exact hj
    by_cases hlt : j < an
    · obtain ⟨x, ad, hx, rfl, hbx, hat⟩ := (Hra.out.keep (HSS.out wr hb) (fun _ h => h)).get (show j < (d.kid 0).length by rw [Han.out]; exact hlt)
      have hxi := (Ha.out x (mem_of_get? hx)).keep (HSS.out wr hb) (fun _ h => h)
      have hx14 := hxi.len
      have HiE : Hid ((Try.prog.info? 49).map (·.size) = some x.c.length) := by show _ = _; rw [hx14]; exact sizeExpr
      have HiE2 : Hid ((Try.prog.info? 49).map (·.size) = some x.c.toArray.size) := by show _ = _; rw [List.size_toArray, hx14]; exact sizeExpr
      have Hz : Hid (x.c.toArray.size = 14) := by show _ = _; rw [List.size_toArray, hx14]; rfl
      have H1 := Lib.hid (all_one hxi.ones)
      have Hat := Lib.hid hat
      obtain ⟨W2, hW2⟩ : ∃ W2, wr.alloc (.cells x.c.toArray 49) = W2 := ⟨_, rfl⟩
      have Hcell : Hid (∀ j u, x.c[j]? = some u → W2.cell? ((⟨wr.heap.size, 0, none⟩ : Addr).add j) = some u) := by show ∀ j u, _ → _; rw [← hW2]; exact new_cells wr x.c 49
      have hbW2 : Below wr.heap.size wr W2 := by rw [← hW2]; exact bel1 _ _
      have hle := sum_take_le (F := (partsE f)) (d.kid 0) j hx
      have hxn := n_mem (mem_of_get? hx)
      have hz2 := hbW2.size
      obtain ⟨q, hq⟩ : ∃ q, partsE f x = q := ⟨_, rfl⟩
      have hsq : s + q ≤ 1048576 := by omega
      have Hcall : Hid (Calls Try.prog 11 #[.agg x.c.toArray] W2 (NPost q W2)) := by
        rw [← hq]
        show Calls _ _ _ _ _
        exact hE x S W2 (hxi.keep (fun k hk => hbW2.block k (by have := HS.out k hk; omega)) (fun _ h => h)) (fun k hk => by have := HS.out k hk; omega) (by omega)
      have Hx := Lib.hid hx
      have HW2 := Lib.hid hW2
      have Hs := Lib.hid hs
      have Hq := Lib.hid hq
      clear hat hxi hx14 hx hW2 hle hs hq
      go_upto_region 5 with (first | (refine wpList_load_st rfl 49 _ rfl _ Try.underlying49 rfl (ad.add (j * 14)) x.c HiE.out rfl Hat.out ?_) | (refine wpList_store_st rfl 49 _ _ rfl _ x.c.toArray HiE2.out Hz.out.symm H1.out rfl rfl ?_))
      rw [HW2.out]
      go_wp2_with (refine wpList_load_st rfl 49 _ rfl _ Try.underlying49 rfl ⟨wr.heap.size, 0, none⟩ x.c HiE.out rfl Hcell.out ?_)
      refine Hcall.out.mono ?_
      rintro e w3 ⟨rfl, hb3⟩
      have Hst : Hid (NLoop W0 (1) (d.kid 0) (partsE f) (.int .i64 ((s : Int) + (q : Int))) (.int .i64 ((j : Int) + 1)) w3) := ⟨j + 1, s + q, (List.getElem?_eq_some_iff.1 Hx.out).1, by simp, by rw [sum_take Hx.out, ← Nat.add_assoc, ← Hs.out, Hq.out], by simp, hb.trans ((hbW2.trans (hb3.mono hbW2.size)).mono hz)⟩
      go_wp2_with fail
      go_roundw
      case rel => exact Hst.out
      case measure => simp [intOf]; omega
    · obtain rfl : j = an := by omega
      rw [show (d.kid 0).take j = d.kid 0 by rw [← Han.out]; exact List.take_length] at hs
      obtain ⟨wm, hwm⟩ : ∃ wm, wm = wr := ⟨_, rfl⟩
      subst hwm
      obtain ⟨sm, hsm⟩ : ∃ sm, sm = s := ⟨_, rfl⟩
      subst hsm
      have em := (hb.block _ hl0).trans E0.out
      have c13 : wm.cell? ⟨w.heap.size, 13, none⟩ = some (.slice SA sn scap) := by rw [cell_of_row _ _ 13 _ _ _ em]; simpa using D13.out
      have HSS2 : Hid (∀ wr, Below wm.heap.size wm wr → ∀ k, S k → wr.heap[k]? = w.heap[k]?) := fun wr h k hk => (h.block k (by have := HS.out k hk; omega)).trans (HSS.out wm hb k hk)
      have Hb := Lib.hid hb
      have hs2 := hs
      have hzm := hz
      clear hb em c12 hlt hz hs
      go_wp2_with fail
      go_loopw [3, 23] (fun sv i wr => NLoop wm sm (d.kid 1) (partsR f) sv i wr) (fun _ i _ => sn - (intOf i).toNat)
      case atStart => exact NLoop.start _ _ _ _
      case round =>
        obtain ⟨j, s, hj, rfl, hs, rfl, hb⟩ := hrel
        have hz := hb.size
        have hjn : j ≤ sn := by rw [← Hsn.out]; exact hj
        by_cases hlt : j < sn
        · obtain ⟨x, ad, hx, rfl, hbx, hat⟩ := (Hrs.out.keep (HSS2.out wr hb) (fun _ h => h)).get (show j < (d.kid 1).length by rw [Hsn.out]; exact hlt)
          have hxi := (Hs0.out x (mem_of_get? hx)).keep (HSS2.out wr hb) (fun _ h => h)
          have hx14 := hxi.len
          have HiE : Hid ((Try.prog.info? 31).map (·.size) = some x.c.length) := by show _ = _; rw [hx14]; exact sizeRel
          have HiE2 : Hid ((Try.prog.info? 31).map (·.size) = some x.c.toArray.size) := by show _ = _; rw [List.size_toArray, hx14]; exact sizeRel
          have Hz : Hid (x.c.toArray.size = 14) := by show _ = _; rw [List.size_toArray, hx14]; rfl
          have H1 := Lib.hid (all_one hxi.ones)
          have Hat := Lib.hid hat
          obtain ⟨W2, hW2⟩ : ∃ W2, wr.alloc (.cells x.c.toArray 31) = W2 := ⟨_, rfl⟩
          have Hcell : Hid (∀ j u, x.c[j]? = some u → W2.cell? ((⟨wr.heap.size, 0, none⟩ : Addr).add j) = some u) := by show ∀ j u, _ → _; rw [← hW2]; exact new_cells wr x.c 31
          have hbW2 : Below wr.heap.size wr W2 := by rw [← hW2]; exact bel1 _ _
          have hle := sum_take_le (F := (partsR f)) (d.kid 1) j hx
          have hxn := n_mem (mem_of_get? hx)
          have hz2 := hbW2.size
          obtain ⟨q, hq⟩ : ∃ q, partsR f x = q := ⟨_, rfl⟩
          have hsq : s + q ≤ 1048576 := by omega
          have Hcall : Hid (Calls Try.prog 5 #[.agg x.c.toArray] W2 (NPost q W2)) := by
            rw [← hq]
            show Calls _ _ _ _ _
            exact hR x S W2 (hxi.keep (fun k hk => hbW2.block k (by have := HS.out k hk; omega)) (fun _ h => h)) (fun k hk => by have := HS.out k hk; omega) (by omega)
          have Hx := Lib.hid hx
          have HW2 := Lib.hid hW2
          have Hs := Lib.hid hs
          have Hq := Lib.hid hq
          clear hat hxi hx14 hx hW2 hle hs hq
          go_upto_region 10 with (first | (refine wpList_load_st rfl 31 _ rfl _ Try.underlying31 rfl (ad.add (j * 14)) x.c HiE.out rfl Hat.out ?_) | (refine wpList_store_st rfl 31 _ _ rfl _ x.c.toArray HiE2.out Hz.out.symm H1.out rfl rfl ?_))
          rw [HW2.out]
          go_wp2_with (refine wpList_load_st rfl 31 _ rfl _ Try.underlying31 rfl ⟨wr.heap.size, 0, none⟩ x.c HiE.out rfl Hcell.out ?_)
          refine Hcall.out.mono ?_
          rintro e w3 ⟨rfl, hb3⟩
          have Hst : Hid (NLoop wm (sm) (d.kid 1) (partsR f) (.int .i64 ((s : Int) + (q : Int))) (.int .i64 ((j : Int) + 1)) w3) := ⟨j + 1, s + q, (List.getElem?_eq_some_iff.1 Hx.out).1, by simp, by rw [sum_take Hx.out, ← Nat.add_assoc, ← Hs.out, Hq.out], by simp, hb.trans ((hbW2.trans (hb3.mono hbW2.size)).mono hz)⟩
          go_wp2_with fail
          go_roundw
          case rel => exact Hst.out
          case measure => simp [intOf]; omega
        · obtain rfl : j = sn := by omega
          rw [show (d.kid 1).take j = d.kid 1 by rw [← Hsn.out]; exact List.take_length] at hs
          have hfin : s = 1 + ((d.kid 0).map (partsE f)).sum + ((d.kid 1).map (partsR f)).sum := by rw [hs, hs2]
          have Hfin := Lib.hid hfin
          clear hs hs2 hfin
          go_wp2_with fail
          go_ret
          exact ⟨by rw [← Hfin.out]; rfl, hb0.trans ((Hb.out.trans (hb.mono (by omega))).mono hb0.size)⟩
end Go.Proofs.Ytoeamomklmoncaa
