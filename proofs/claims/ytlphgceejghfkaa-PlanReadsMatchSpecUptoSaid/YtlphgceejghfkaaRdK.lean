/-
  The reference's read, walked.
-/
import Derived.Test.YtlphgceejghfkaaRdD
namespace Go.Proofs.Ytlphgceejghfkaa
open Go.RowKit Go.Sort
/-- Whether r is a projection of columns of the table x. -/
def isR (r x : DT) : Bool := dInt r 0 == 4 && dInt x 0 == 1 && (r.kid 1).all colE
/-- What read hands back. -/
def RePost (r x : DT) (w : World) (e : Ending) (w' : World) : Prop := ∃ (A : Option Addr) (cap : Nat) (l : List Int), e = .returned (.tuple #[.slice A l.length cap, .bool (isR r x)]) ∧ (isR r x = true → IRow w' A cap l ∧ l = mergeI ((r.kid 1).map fun e => dInt e 3)) ∧ Below w.heap.size w w'
theorem DT.In.relCells' {S : Nat → Prop} {w : World} {d : DT} (h : DT.In S w .rel d) :
    d.c[0]? = some (.int .i64 (dInt d 0)) ∧ (∃ EA ecap, d.c[7]? = some (.slice EA (d.kid 1).length ecap) ∧ DRow S w 14 EA ecap (d.kid 1)) ∧ (∀ x, x ∈ d.kid 1 → DT.In S w .expr x) := by
  obtain ⟨a, IA, icap, is, EA, ecap, es, GA, gcap, gs, WA, wcap, ws, KA, kcap, ks, hd⟩ := h.rel
  obtain ⟨he, hk, ht, ri, re, _, _, _, ii, ie, _, _, _⟩ := hd
  subst he
  exact ⟨rfl, ⟨EA, ecap, rfl, re⟩, ie⟩
/-- What the loop has at its head. -/
def ReRel (es : List DT) (B : Nat) (W0 : World) (sv i : Value) (wr : World) : Prop := ∃ j : Nat, j ≤ es.length ∧ i = .int .i64 j ∧ wr.ownsRow B 3 1 sv j (((es.take j).map fun e => dInt e 3).map (Value.int .i64)) ∧ (es.take j).all colE = true ∧ Below W0.heap.size W0 wr
set_option maxRecDepth 100000 in
set_option maxHeartbeats 4000000 in
theorem rread_any (r y : DT) (S : Nat → Prop) (w : World) (hr : DT.In S w .rel r) (hy : DT.In S w .rel y) (hS : ∀ k, S k → k < w.heap.size) (hn : r.n ≤ 1048576) :
    Calls Try.prog 42 #[.agg r.c.toArray, .agg y.c.toArray] w (RePost r y w) := by
  obtain ⟨i0, hi, iz, isz, iby⟩ := info_parts infoInt
  obtain ⟨r0, ⟨EA, ecap, r7, hre⟩, hie⟩ := hr.relCells'
  obtain ⟨y0, _, _⟩ := hy.relCells'
  obtain ⟨kr, hkr⟩ : ∃ k, dInt r 0 = k := ⟨_, rfl⟩
  obtain ⟨ky, hky⟩ : ∃ k, dInt y 0 = k := ⟨_, rfl⟩
  obtain ⟨en, hen⟩ : ∃ n, (r.kid 1).length = n := ⟨_, rfl⟩
  have hen2 : en ≤ 1048576 := by have := kids5 r; have := len_nL (r.kid 1); omega
  rw [hkr] at r0
  rw [hky] at y0
  rw [hen] at r7
  have Hres : Hid (isR r y = (kr == 4 && ky == 1 && (r.kid 1).all colE)) := by show _ = _; unfold isR; rw [hkr, hky]
  obtain ⟨W0, hW0⟩ : ∃ W0, (w.alloc (.cells r.c.toArray 34)).alloc (.cells y.c.toArray 34) = W0 := ⟨_, rfl⟩
  have hb0 : Below w.heap.size w W0 := by rw [← hW0]; exact bel2 _ _ _
  have hz0 : W0.heap.size = w.heap.size + 2 := by rw [← hW0]; simp
  have p0 : W0.cell? ⟨w.heap.size, 0, none⟩ = some (.int .i64 kr) := by rw [← hW0]; exact cell_old (new_cell _ _ _ 0 r0) _
  have p7 : W0.cell? ⟨w.heap.size, 7, none⟩ = some (.slice EA en ecap) := by rw [← hW0]; exact cell_old (new_cell _ _ _ 7 r7) _
  have q0 : W0.cell? ⟨w.heap.size + 1, 0, none⟩ = some (.int .i64 ky) := by
    rw [← hW0]
    have h := new_cell (w.alloc (.cells r.c.toArray 34)) y.c 34 0 y0
    simpa using h
  have Hr := Lib.hid (hre.keep (fun k hk => hb0.block k (hS k hk)) (fun _ h => h))
  have Hi : Hid (∀ x, x ∈ r.kid 1 → DT.In S W0 .expr x) := fun x hx => (hie x hx).keep (fun k hk => hb0.block k (hS k hk)) (fun _ h => h)
  have HS : Hid (∀ k, S k → k < W0.heap.size) := fun k hk => Nat.lt_of_lt_of_le (hS k hk) hb0.size
  have HW0 := Lib.hid hW0
  have Hen := Lib.hid hen
  have Hb0 := Lib.hid hb0
  clear hW0 hr hy hS hre hie r0 r7 y0 hkr hky hen hn
  by_cases h4 : kr = 4
  · by_cases h1 : ky = 1
    · subst h4
      subst h1
      go_enter Try.func42, Try.ntmps42
      go_upto_region 1 with (fail)
      rw [HW0.out]
      go_wp2_with fail
      go_loopw [6, 20] (fun sv i wr => ReRel (r.kid 1) W0.heap.size W0 sv i wr) (fun _ i _ => en - (intOf i).toNat)
      case atStart => exact ⟨0, Nat.zero_le _, rfl, World.ownsRow_nil _ _ _ _, by simp, Below.refl _ _⟩
      case round =>
        obtain ⟨j, hj, rfl, hown, hall, hb⟩ := hrel
        have Hall := Lib.hid hall
        have hjn : j ≤ en := by rw [← Hen.out]; exact hj
        clear hall
        have hzr := hb.size
        by_cases hlt : j < en
        · obtain ⟨x, ad, hx, rfl, hbx, hat⟩ := (Hr.out.keep (fun k hk => hb.block k (HS.out k hk)) (fun _ h => h)).get (show j < (r.kid 1).length by rw [Hen.out]; exact hlt)
          have hxi := Hi.out x (mem_of_get? hx)
          have hx14 := hxi.len
          obtain ⟨_, _, _, x0, x2, x3⟩ := hxi.exprCells
          have HiE : Hid ((Try.prog.info? 56).map (·.size) = some x.c.length) := by show _ = _; rw [hx14]; exact sizeExpr
          have HiE2 : Hid ((Try.prog.info? 56).map (·.size) = some x.c.toArray.size) := by show _ = _; rw [List.size_toArray, hx14]; exact sizeExpr
          have Hz : Hid (x.c.toArray.size = 14) := by show _ = _; rw [List.size_toArray, hx14]; rfl
          have H1 := Lib.hid (all_one hxi.ones)
          have Hat := Lib.hid hat
          obtain ⟨W1, hW1⟩ : ∃ W1, wr.alloc (.cells x.c.toArray 56) = W1 := ⟨_, rfl⟩
          obtain ⟨kx, hkx⟩ : ∃ k, dInt x 0 = k := ⟨_, rfl⟩
          obtain ⟨ux, hux⟩ : ∃ k, dInt x 2 = k := ⟨_, rfl⟩
          rw [hkx] at x0
          rw [hux] at x2
          have Hcx : Hid (colE x = (kx == 2 && ux == 0)) := by show _ = _; unfold colE; rw [hkx, hux]
          have s0 : W1.cell? ⟨wr.heap.size, 0, none⟩ = some (.int .i64 kx) := by rw [← hW1]; exact new_cell _ _ _ 0 x0
          have s2 : W1.cell? ⟨wr.heap.size, 2, none⟩ = some (.int .i64 ux) := by rw [← hW1]; exact new_cell _ _ _ 2 x2
          have s3 : W1.cell? ⟨wr.heap.size, 3, none⟩ = some (.int .i64 (dInt x 3)) := by rw [← hW1]; exact new_cell _ _ _ 3 x3
          have hbW1 : Below wr.heap.size wr W1 := by rw [← hW1]; exact bel1 _ _
          have hb1 : Below W0.heap.size W0 W1 := hb.trans (hbW1.mono hzr)
          obtain ⟨ha1, ha2⟩ := all_at hx Hall.out
          have Ha1 := Lib.hid ha1
          have Ha2 := Lib.hid ha2
          have Ho2 := Lib.hid (own_below hown hbW1)
          have Hx := Lib.hid hx
          have HW1 := Lib.hid hW1
          have h3 : Hid (j + 1 ≤ maxLen) := by show _ ≤ _; unfold maxLen; omega
          have h5 : Hid ((j + 1) * 8 ≤ 140737488355328) := by show _ ≤ _; omega
          have hz2 : Hid (∀ o, W0.heap.size ≤ (W1.alloc o).heap.size) := (fun o => by have := hb1.size; simp; omega)
          have Hbw : Hid (Below w.heap.size w W1) := Hb0.out.trans (hb1.mono Hb0.out.size)
          clear hown hat hxi hx14 hx hW1 x0 x2 x3 hkx hux ha1 ha2
          by_cases h2 : kx = 2
          · subst h2
            by_cases hu : ux = 0
            · subst hu
              go_upto_region 7 with (first | (refine wpList_load_st rfl 56 _ rfl _ Try.underlying56 rfl (ad.add (j * 14)) x.c HiE.out rfl Hat.out ?_) | (refine wpList_store_st rfl 56 _ _ rfl _ x.c.toArray HiE2.out Hz.out.symm H1.out rfl rfl ?_))
              rw [HW1.out]
              go_wp2_with (at_builtin; refine wpList_append_row _ rfl _ _ 37 rfl W0.heap.size 3 i0 _ 1 8 Try.underlying37 hi iz isz iby rfl (by decide) u6 _ _ rfl (Ho2.out.alloc _) (some ⟨W1.heap.size, 0, none⟩) 1 1 [.int .i64 (dInt x 3)] rfl rfl (new_src _ _ _) (by simp [Value.oneCell']) h3.out h5.out (hz2.out _) ?_; intro sv6 w6 hown6 hg6 hm6)
              have Hst : Hid (ReRel (r.kid 1) W0.heap.size W0 sv6 (.int .i64 ((j : Int) + 1)) w6) := ⟨j + 1, by rw [Hen.out]; omega, by simp, by rw [List.take_add_one, Hx.out]; simpa using hown6, by rw [Ha1.out, Hcx.out]; rfl, (hb1.trans ((bel1 _ _).mono hb1.size)).grown hg6 (hz2.out _) (fun q hq => (Ho2.out.lt q hq).1)⟩
              clear hown6
              go_roundw
              case rel => exact Hst.out
              case measure => simp [intOf]; omega
            · go_upto_region 7 with (first | (refine wpList_load_st rfl 56 _ rfl _ Try.underlying56 rfl (ad.add (j * 14)) x.c HiE.out rfl Hat.out ?_) | (refine wpList_store_st rfl 56 _ _ rfl _ x.c.toArray HiE2.out Hz.out.symm H1.out rfl rfl ?_))
              rw [HW1.out]
              have Hf : Hid (isR r y = false) := by show _ = _; rw [Hres.out, Ha2.out (by rw [Hcx.out]; simpa using hu)]; rfl
              go_wp2_with fail
              go_ret2
              refine ⟨none, 0, [], by rw [Hf.out]; rfl, (fun h => by rw [Hf.out] at h; cases h), Hbw.out⟩
          · go_upto_region 7 with (first | (refine wpList_load_st rfl 56 _ rfl _ Try.underlying56 rfl (ad.add (j * 14)) x.c HiE.out rfl Hat.out ?_) | (refine wpList_store_st rfl 56 _ _ rfl _ x.c.toArray HiE2.out Hz.out.symm H1.out rfl rfl ?_))
            rw [HW1.out]
            have Hf : Hid (isR r y = false) := by show _ = _; rw [Hres.out, Ha2.out (by rw [Hcx.out, show (kx == 2) = false by simpa using h2]; rfl)]; rfl
            go_wp2_with fail
            go_ret2
            refine ⟨none, 0, [], by rw [Hf.out]; rfl, (fun h => by rw [Hf.out] at h; cases h), Hbw.out⟩
        · obtain rfl : j = en := by omega
          have htk : (r.kid 1).take j = r.kid 1 := by rw [← Hen.out]; exact List.take_length
          rw [htk] at hown
          have Hall2 : Hid ((r.kid 1).all colE = true) := by have h := Hall.out; rw [htk] at h; exact h
          obtain ⟨A1, cap1, rfl, _, _, _, _⟩ := own_src hown
          have hI := IOwn.of_own hown
          obtain ⟨W1, hW1⟩ : ∃ W1, wr.alloc (.cells #[.slice A1 j cap1] 37) = W1 := ⟨_, rfl⟩
          have hbW1 : Below wr.heap.size wr W1 := by rw [← hW1]; exact bel1 _ _
          have c0 : W1.cell? ⟨wr.heap.size, 0, none⟩ = some (.slice A1 ((r.kid 1).map fun e => dInt e 3).length cap1) := by rw [← hW1, List.length_map, Hen.out]; exact cell_new _ _ _ 0
          have Hm := Lib.hid (merged_any ((r.kid 1).map fun e => dInt e 3) A1 cap1 wr.heap.size W1 (hI.row.keep (KeepI.below hbW1)) (by rw [List.length_map, Hen.out]; exact hen2) c0)
          have HW1 := Lib.hid hW1
          have Hbw : Hid (Below w.heap.size w W1) := Hb0.out.trans ((hb.trans (hbW1.mono hzr)).mono Hb0.out.size)
          have Ht : Hid (isR r y = true) := by show _ = _; rw [Hres.out, Hall2.out]; rfl
          clear hown hI hW1 c0
          go_wp2_with fail
          rw [HW1.out]
          refine Hm.out.mono ?_
          rintro e w2 ⟨A2, cap2, rfl, hI2, hb2⟩
          have H2 := Lib.hid hI2
          clear hI2
          go_wp2_with fail
          go_ret2
          refine ⟨A2, cap2, _, by rw [Ht.out]; rfl, fun _ => ⟨H2.out.row, rfl⟩, Hbw.out.trans (hb2.mono Hbw.out.size)⟩
    · have Hf : Hid (isR r y = false) := by show _ = _; rw [Hres.out, show (ky == 1) = false by simpa using h1]; simp
      subst h4
      go_enter Try.func42, Try.ntmps42
      go_upto_region 1 with (fail)
      rw [HW0.out]
      go_wp2_with fail
      go_ret2
      refine ⟨none, 0, [], by rw [Hf.out]; rfl, (fun h => by rw [Hf.out] at h; cases h), Hb0.out⟩
  · have Hf : Hid (isR r y = false) := by show _ = _; rw [Hres.out, show (kr == 4) = false by simpa using h4]; simp
    go_enter Try.func42, Try.ntmps42
    go_upto_region 1 with (fail)
    rw [HW0.out]
    go_wp2_with fail
    go_ret2
    refine ⟨none, 0, [], by rw [Hf.out]; rfl, (fun h => by rw [Hf.out] at h; cases h), Hb0.out⟩
end Go.Proofs.Ytlphgceejghfkaa
