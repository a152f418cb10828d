/-
  The reference's reads of a table; all of reads.
-/
import Derived.Test.YtlphgceejghfkaaRdM
namespace Go.Proofs.Ytlphgceejghfkaa
open Go.RowKit Go.Sort
set_option maxRecDepth 100000 in
set_option maxHeartbeats 8000000 in
theorem reads_tab (f : Nat) (hf : f + 1 ≤ 1048576) (hQ : RQ f) (hE : RE f) (d : DT) (own : List Int) (A : Option Addr) (cap : Nat) (S : Nat → Prop) (w : World) (hd : DT.In S w .rel d) (hS : ∀ k, S k → k < w.heap.size) (hro : IRow w A cap own) (hn : d.n ≤ f + 1) (h1 : dInt d 0 = 1) :
    Calls Try.prog 27 #[.agg d.c.toArray, .slice A own.length cap] w (RdPost (readsR (f + 1) d own) w) := by
  obtain ⟨i0, hi, iz, isz, iby⟩ := info_parts infoInts
  obtain ⟨d0, _, _, ⟨IA, icap, d6, ri⟩, _, ii, _, _⟩ := hd.relCells
  have hkr := nL_relE d
  have hlen := hd.len
  have hl1 := len_flat_n (f := fun x => readsR f x (readOf d x)) (l := d.kid 0) fun x => (reads_len f).1 x _
  have hl2 := len_flat_n (f := readsE f) (l := relE d) fun x => (reads_len f).2 x
  rw [readsR]
  have Hi := Lib.hid ii
  have Hri := Lib.hid ri
  obtain ⟨kn, hkn⟩ : ∃ n, (d.kid 0).length = n := ⟨_, rfl⟩
  have hkn2 : kn ≤ 1048576 := by have := len_nL (d.kid 0); omega
  rw [hkn] at d6
  obtain ⟨W0, hW0⟩ : ∃ W0, w.alloc (.cells d.c.toArray 34) = W0 := ⟨_, rfl⟩
  have hb0 : Below w.heap.size w W0 := by rw [← hW0]; exact bel1 _ _
  have e0 : W0.heap[w.heap.size]? = some (.cells d.c.toArray 34 (0, 0)) := by rw [← hW0]; exact heap_alloc_new w _
  have hz0 : W0.heap.size = w.heap.size + 1 := by rw [← hW0]; simp
  obtain ⟨kd, hkd⟩ : ∃ k, dInt d 0 = k := ⟨_, rfl⟩
  rw [hkd] at d0
  have p0 : W0.cell? ⟨w.heap.size, 0, none⟩ = some (.int .i64 kd) := by rw [cell_of_row _ _ 0 _ _ _ e0]; simpa using d0
  obtain ⟨B, hB1, hB2⟩ : ∃ B, W0.heap.size ≤ B ∧ B ≤ W0.heap.size := ⟨_, Nat.le_refl _, Nat.le_refl _⟩
  have HiR : Hid ((Try.prog.info? 34).map (·.size) = some d.c.length) := by show _ = _; rw [hlen]; exact sizeRel
  have HW0 := Lib.hid hW0
  have E0 := Lib.hid e0
  have HS : Hid (∀ k, S k → k < w.heap.size) := hS
  have D6 := Lib.hid d6
  have Hkn := Lib.hid hkn
  have Hd := Lib.hid hd
  have Hkd := Lib.hid hkd
  clear hW0 e0 hS hd d0 d6 ii ri hkn hlen hkd
  obtain rfl : kd = 1 := by rw [← Hkd.out]; exact h1
  rw [if_pos h1]
  have Hn0 : Hid (OutInv B W0 (.slice none 0 0) []) := OutInv.nil _ _
  have hBB0 : B ≤ W0.heap.size := by omega
  have HS0 : Hid (∀ wr v', PFr No W0 (.slice none 0 0) wr v' → ∀ k, S k → wr.heap[k]? = w.heap[k]?) := fun wr v' h k hk => (h.lowO Hn0.out hBB0 k (by have := HS.out k hk; omega)).trans (hb0.block k (HS.out k hk))
  have Hro0 := Lib.hid (hro.keep (KeepI.below hb0))
  obtain ⟨al, hal⟩ : ∃ n, own.length = n := ⟨_, rfl⟩
  rw [hal]
  have Hal := Lib.hid hal
  have h3 : Hid (0 + 1 ≤ maxLen) := by show _ ≤ _; unfold maxLen; omega
  have h4 : Hid ((0 + 1) * 24 ≤ 140737488355328) := by show _ ≤ _; omega
  have h5 : Hid (∀ o, B ≤ (W0.alloc o).heap.size) := fun o => by simp; omega
  have Hs5 : Hid (∀ cs t, SrcAt (W0.alloc (.cells cs t)) (some ⟨w.heap.size + 1, 0, none⟩) cs.toList) := fun cs t => by rw [← hz0]; exact new_src _ _ _
  clear h1 hal hro
  go_enter Try.func27, Try.ntmps27
  go_upto_region 1 with (fail)
  rw [HW0.out]
  go_upto_region 4 with (at_builtin; refine wpList_append_row _ rfl _ _ 29 rfl B 37 i0 _ 1 24 Try.underlying29 hi iz isz iby rfl (by decide) (.slice none 0 0) 0 [] rfl (World.ownsRow_nil _ _ _ _) (some ⟨w.heap.size + 1, 0, none⟩) 1 1 [.slice A al cap] rfl rfl (Hs5.out _ _) (by simp [Value.oneCell']) h3.out h4.out (h5.out _) ?_; intro sv1 w1 hown1 hg1 hm1)
  have hst := OutInv.step (M := [own]) (World.ownsRow_nil W0 B 37 1) (RR.nil W0) (bel1 W0 (.cells #[.slice A al cap] 37)) (by have h := RR.one (Hro0.out.keep (KeepI.below (bel1 W0 (.cells #[.slice A al cap] 37)))); rw [Hal.out] at h; exact h) hown1 hg1 hm1
  obtain ⟨hn1, hp1⟩ := hst
  rw [List.nil_append] at hn1
  obtain ⟨WB, hWB⟩ : ∃ WB, WB = w1 := ⟨_, rfl⟩
  subst hWB
  have EB := Lib.hid ((hp1.keptO Hn0.out E0.out (by decide)).trans E0.out)
  have hB1 := hp1.belowO Hn0.out hBB0
  have HbB : Hid (Below w.heap.size w WB) := hb0.trans (hB1.mono (by omega))
  have hBB : B ≤ WB.heap.size := by have := hB1.size; omega
  have HnB := Lib.hid hn1
  have HSS : Hid (∀ wr v', PFr No WB sv1 wr v' → ∀ k, S k → wr.heap[k]? = w.heap[k]?) := fun wr v' h k hk => (h.lowO HnB.out hBB k (by have := HS.out k hk; omega)).trans (HbB.out.block k (HS.out k hk))
  have hz1 := hB1.size
  clear hown1 hg1 hm1 hn1 hp1 hB1 p0
  have c6 : WB.cell? ⟨w.heap.size, 6, none⟩ = some (.slice IA kn icap) := by rw [cell_of_row _ _ 6 _ _ _ EB.out]; simpa using D6.out
  go_wp2_with fail
  go_loopw [5, 22] (fun sv i wr => OLoop B WB sv1 [own] (d.kid 0) (fun x => readsR f x (readOf d x)) sv i wr) (fun _ i _ => kn - (intOf i).toNat)
  case atStart => exact OLoop.start HnB.out _ _
  case round =>
    obtain ⟨j, hj, rfl, ho, hpf⟩ := hrel
    have hz := hpf.size
    have hjn : j ≤ kn := by rw [← Hkn.out]; exact hj
    by_cases hlt : j < kn
    · obtain ⟨x, ad, hx, rfl, hbx, hat⟩ := (Hri.out.keep (HSS.out wr _ hpf) (fun _ h => h)).get (show j < (d.kid 0).length by rw [Hkn.out]; exact hlt)
      have hxi := (Hi.out x (mem_of_get? hx)).keep (HSS.out wr _ hpf) (fun _ h => h)
      have hx14 := hxi.len
      have HiE : Hid ((Try.prog.info? 34).map (·.size) = some x.c.length) := by show _ = _; rw [hx14]; exact sizeRel
      have HiE2 : Hid ((Try.prog.info? 34).map (·.size) = some x.c.toArray.size) := by show _ = _; rw [List.size_toArray, hx14]; exact sizeRel
      have Hz : Hid (x.c.toArray.size = 14) := by show _ = _; rw [List.size_toArray, hx14]; rfl
      have H1 := Lib.hid (all_one hxi.ones)
      have Hat := Lib.hid hat
      obtain ⟨W2, hW2⟩ : ∃ W2, wr.alloc (.cells x.c.toArray 34) = W2 := ⟨_, rfl⟩
      have Hcell : Hid (∀ j u, x.c[j]? = some u → W2.cell? ((⟨wr.heap.size, 0, none⟩ : Addr).add j) = some u) := by show ∀ j u, _ → _; rw [← hW2]; exact new_cells wr x.c 34
      have hbW2 : Below wr.heap.size wr W2 := by rw [← hW2]; exact bel1 _ _
      have hle := len_takeF (F := (fun x => readsR f x (readOf d x))) j hx
      have hxn := n_mem (mem_of_get? hx)
      have hSw : ∀ k, S k → k < wr.heap.size := fun k hk => by have := HS.out k hk; omega
      have hxi2 := hxi.keep (fun k hk => hbW2.block k (hSw k hk)) (fun _ h => h)
      have hSw2 : ∀ k, S k → k < W2.heap.size := fun k hk => by have := hSw k hk; have := hbW2.size; omega
      have hlen3 : ([own] ++ ((d.kid 0).take j).flatMap (fun x => readsR f x (readOf d x))).length + (readsR f x (readOf d x)).length ≤ 1048576 := by simp only [List.length_append, List.length_nil, List.length_cons]; omega
      have Hx := Lib.hid hx
      have HW2 := Lib.hid hW2
      have Hpf := Lib.hid hpf
      have Ho := Lib.hid ho
      clear hat hxi hx14 hx hW2 hpf hle ho
      go_upto_region 7 with (first | (refine wpList_load_st rfl 34 _ rfl _ Try.underlying34 rfl (ad.add (j * 14)) x.c HiE.out rfl Hat.out ?_) | (refine wpList_store_st rfl 34 _ _ rfl _ x.c.toArray HiE2.out Hz.out.symm H1.out rfl rfl ?_))
      rw [HW2.out]
      have ewr := (Hpf.out.keptO HnB.out EB.out (by decide)).trans EB.out
      have ew2 := (hbW2.block w.heap.size (Array.getElem?_eq_some_iff.1 ewr).1).trans ewr
      have Hcd := Lib.hid (cells_of_heap ew2)
      obtain ⟨_, ⟨TA, tc, x4⟩, dt, _⟩ := hxi2.relCells
      have Hread := Lib.hid (rread_any d x S W2 ((Hd.out.keep (HSS.out wr _ Hpf.out) (fun _ h => h)).keep (fun k hk => hbW2.block k (hSw k hk)) (fun _ h => h)) hxi2 hSw2 (by omega))
      obtain ⟨tl, htl⟩ : ∃ tl, dLen x 4 = tl := ⟨_, rfl⟩
      rw [htl] at x4 dt
      have s4 : W2.cell? ⟨wr.heap.size, 4, none⟩ = some (.slice TA tl tc) := by rw [← HW2.out]; exact new_cell _ _ _ 4 x4
      have hwl : wr.heap.size < W2.heap.size := by rw [← HW2.out]; simp
      have Hxi2 := Lib.hid hxi2
      have Htl := Lib.hid htl
      have HSw2 := Lib.hid hSw2
      clear ewr ew2 x4 hxi2 htl hSw hSw2 c6
      cases hok : isR d x with
      | true =>
        have Hok := Lib.hid hok
        have Hro := Lib.hid (readOf_true hok)
        clear hok
        go_wp2_with (first | (refine wpList_load_st rfl 34 _ rfl _ Try.underlying34 rfl ⟨w.heap.size, 0, none⟩ d.c HiR.out rfl Hcd.out ?_) | (refine wpList_load_st rfl 34 _ rfl _ Try.underlying34 rfl ⟨wr.heap.size, 0, none⟩ x.c HiE.out rfl Hcell.out ?_))
        refine Hread.out.mono ?_
        rintro e w5 ⟨A5, cap5, l5, he, hl5, hb5⟩
        rw [Hok.out] at he hl5
        subst he
        obtain ⟨hr5, rfl⟩ := hl5 rfl
        rw [← Hro.out] at hr5 ⊢
        have Hbc : Hid (Below wr.heap.size wr w5) := hbW2.trans (hb5.mono hbW2.size)
        have Hcall : Hid (Calls Try.prog 27 #[.agg x.c.toArray, .slice A5 (readOf d x).length cap5] w5 (RdPost (readsR f x (readOf d x)) w5)) := by
          show Calls _ _ _ _ _
          exact hQ x (readOf d x) A5 cap5 S w5 (Hxi2.out.keep (fun k hk => hb5.block k (HSw2.out k hk)) (fun _ h => h)) (fun k hk => by have := HSw2.out k hk; have := hb5.size; omega) hr5 (by omega)
        have Hcell5 : Hid (∀ j u, x.c[j]? = some u → w5.cell? ((⟨wr.heap.size, 0, none⟩ : Addr).add j) = some u) := fun j u hu => (hb5.cell (p := (⟨wr.heap.size, 0, none⟩ : Addr).add j) (by rw [block_add]; exact hwl)).trans (Hcell.out j u hu)
        clear hr5 hl5
        go_wp2_with (refine wpList_load_st rfl 34 _ rfl _ Try.underlying34 rfl ⟨wr.heap.size, 0, none⟩ x.c HiE.out rfl Hcell5.out ?_)
        -- Hcall : Hid (Calls .. wc (RdPost M wc)); Hbc : Below wr.heap.size wr wc
        refine Hcall.out.mono ?_
        rintro e w3 ⟨v3, xs3, rfl, hown3, hrr3, hb3⟩
        obtain ⟨A3, cap3, rfl, hsrc3, _, _, hxl3⟩ := own_src hown3
        have Hsrc3 := Lib.hid hsrc3
        have Hxl3 := Lib.hid (show xs3.length = (readsR f x (readOf d x)).length * 1 by rw [hxl3, Nat.mul_one])
        have Hon3 := Lib.hid hrr3.ones
        obtain ⟨xs, hown, hrr⟩ := Ho.out
        have hbw3 : Below wr.heap.size wr w3 := Hbc.out.trans (hb3.mono Hbc.out.size)
        have Hown := Lib.hid (own_below hown hbw3)
        have h3 : Hid (([own] ++ ((d.kid 0).take j).flatMap (fun x => readsR f x (readOf d x))).length + (readsR f x (readOf d x)).length ≤ maxLen) := by show _ ≤ _; unfold maxLen; omega
        have h4 : Hid ((([own] ++ ((d.kid 0).take j).flatMap (fun x => readsR f x (readOf d x))).length + (readsR f x (readOf d x)).length) * 24 ≤ 140737488355328) := by show _ ≤ _; omega
        have hzz : Hid (B ≤ w3.heap.size) := by show _ ≤ _; have := hbw3.size; omega
        have Hrr := Lib.hid hrr
        have Hrr3 := Lib.hid hrr3
        have Hown1 := Lib.hid hown
        clear hown hrr hown3 hsrc3 hxl3 hrr3
        go_wp2_with (at_builtin; refine wpList_append_row _ rfl _ _ 29 rfl B 37 i0 _ 1 24 Try.underlying29 hi iz isz iby rfl (by decide) u5 _ _ rfl Hown.out A3 (readsR f x (readOf d x)).length cap3 xs3 rfl Hxl3.out Hsrc3.out Hon3.out h3.out h4.out hzz.out ?_; intro sv' w4 hown4 hg4 hm4)
        have Hst : Hid (OLoop B WB sv1 [own] (d.kid 0) (fun x => readsR f x (readOf d x)) sv' (.int .i64 ((j : Int) + 1)) w4) := OLoop.step Hx.out Hpf.out Hown1.out Hrr.out hbw3 Hrr3.out hown4 hg4 hm4
        clear hown4 hg4 hm4
        go_roundw
        case rel => first | exact Hst.out | ((repeat apply Exists.intro); exact ⟨Hst.out, rfl⟩)
        case measure => simp [intOf]; omega
      | false =>
        have Hok := Lib.hid hok
        have Hro := Lib.hid (readOf_false hok)
        clear hok
        go_wp2_with (first | (refine wpList_load_st rfl 34 _ rfl _ Try.underlying34 rfl ⟨w.heap.size, 0, none⟩ d.c HiR.out rfl Hcd.out ?_) | (refine wpList_load_st rfl 34 _ rfl _ Try.underlying34 rfl ⟨wr.heap.size, 0, none⟩ x.c HiE.out rfl Hcell.out ?_))
        refine Hread.out.mono ?_
        rintro e w5 ⟨A5, cap5, l5, he, hl5, hb5⟩
        rw [Hok.out] at he hl5
        subst he
        have t4 := (hb5.cell (p := ⟨wr.heap.size, 4, none⟩) hwl).trans s4
        have Hal := Lib.hid (rall_any tl w5 dt)
        clear hl5 s4
        go_wp2_with fail
        refine Hal.out.mono ?_
        rintro e w6 ⟨v6, rfl, hown6, hb6⟩
        obtain ⟨A6, cap6, rfl, _, _, _, _⟩ := own_src hown6
        rw [nums_eq] at hown6
        have hr6 : IRow w6 A6 cap6 (upTo tl) := (IOwn.of_own hown6).row
        have hb56 : Below W2.heap.size W2 w6 := hb5.trans (hb6.mono hb5.size)
        have Hbc : Hid (Below wr.heap.size wr w6) := hbW2.trans (hb56.mono hbW2.size)
        have Hcall : Hid (Calls Try.prog 27 #[.agg x.c.toArray, .slice A6 tl cap6] w6 (RdPost (readsR f x (readOf d x)) w6)) := by
          show Calls _ _ _ _ _
          have h := hQ x (upTo tl) A6 cap6 S w6 (Hxi2.out.keep (fun k hk => hb56.block k (HSw2.out k hk)) (fun _ h => h)) (fun k hk => by have := HSw2.out k hk; have := hb56.size; omega) hr6 (by omega)
          rw [upTo_len] at h
          rw [Hro.out, Htl.out]
          exact h
        have Hcell6 : Hid (∀ j u, x.c[j]? = some u → w6.cell? ((⟨wr.heap.size, 0, none⟩ : Addr).add j) = some u) := fun j u hu => (hb56.cell (p := (⟨wr.heap.size, 0, none⟩ : Addr).add j) (by rw [block_add]; exact hwl)).trans (Hcell.out j u hu)
        clear hr6 hown6 t4
        go_wp2_with (refine wpList_load_st rfl 34 _ rfl _ Try.underlying34 rfl ⟨wr.heap.size, 0, none⟩ x.c HiE.out rfl Hcell6.out ?_)
        -- Hcall : Hid (Calls .. wc (RdPost M wc)); Hbc : Below wr.heap.size wr wc
        refine Hcall.out.mono ?_
        rintro e w3 ⟨v3, xs3, rfl, hown3, hrr3, hb3⟩
        obtain ⟨A3, cap3, rfl, hsrc3, _, _, hxl3⟩ := own_src hown3
        have Hsrc3 := Lib.hid hsrc3
        have Hxl3 := Lib.hid (show xs3.length = (readsR f x (readOf d x)).length * 1 by rw [hxl3, Nat.mul_one])
        have Hon3 := Lib.hid hrr3.ones
        obtain ⟨xs, hown, hrr⟩ := Ho.out
        have hbw3 : Below wr.heap.size wr w3 := Hbc.out.trans (hb3.mono Hbc.out.size)
        have Hown := Lib.hid (own_below hown hbw3)
        have h3 : Hid (([own] ++ ((d.kid 0).take j).flatMap (fun x => readsR f x (readOf d x))).length + (readsR f x (readOf d x)).length ≤ maxLen) := by show _ ≤ _; unfold maxLen; omega
        have h4 : Hid ((([own] ++ ((d.kid 0).take j).flatMap (fun x => readsR f x (readOf d x))).length + (readsR f x (readOf d x)).length) * 24 ≤ 140737488355328) := by show _ ≤ _; omega
        have hzz : Hid (B ≤ w3.heap.size) := by show _ ≤ _; have := hbw3.size; omega
        have Hrr := Lib.hid hrr
        have Hrr3 := Lib.hid hrr3
        have Hown1 := Lib.hid hown
        clear hown hrr hown3 hsrc3 hxl3 hrr3
        go_wp2_with (at_builtin; refine wpList_append_row _ rfl _ _ 29 rfl B 37 i0 _ 1 24 Try.underlying29 hi iz isz iby rfl (by decide) u5 _ _ rfl Hown.out A3 (readsR f x (readOf d x)).length cap3 xs3 rfl Hxl3.out Hsrc3.out Hon3.out h3.out h4.out hzz.out ?_; intro sv' w4 hown4 hg4 hm4)
        have Hst : Hid (OLoop B WB sv1 [own] (d.kid 0) (fun x => readsR f x (readOf d x)) sv' (.int .i64 ((j : Int) + 1)) w4) := OLoop.step Hx.out Hpf.out Hown1.out Hrr.out hbw3 Hrr3.out hown4 hg4 hm4
        clear hown4 hg4 hm4
        go_roundw
        case rel => first | exact Hst.out | ((repeat apply Exists.intro); exact ⟨Hst.out, rfl⟩)
        case measure => simp [intOf]; omega
    · obtain rfl : j = kn := by omega
      rw [show (d.kid 0).take j = d.kid 0 by rw [← Hkn.out]; exact List.take_length] at ho
      obtain ⟨wm, hwm⟩ : ∃ wm, wm = wr := ⟨_, rfl⟩
      subst hwm
      obtain ⟨um, hum⟩ : ∃ um, um = u5 := ⟨_, rfl⟩
      subst hum
      have em := (hpf.keptO HnB.out EB.out (by decide)).trans EB.out
      have Hcm := Lib.hid (cells_of_heap em)
      have hSm : ∀ k, S k → k < wm.heap.size := fun k hk => by have := HS.out k hk; omega
      have Hex : Hid (Calls Try.prog 43 #[.agg d.c.toArray] wm (ExPost (relE d) wm)) := by
        show Calls _ _ _ _ _
        exact rExprsOf_any d S wm (Hd.out.keep (HSS.out wm um hpf) (fun _ h => h)) hSm (by omega)
      have Hie : Hid (∀ x, x ∈ relE d → DT.In S w .expr x) := Hd.out.relE
      obtain ⟨en, hen⟩ : ∃ n, (relE d).length = n := ⟨_, rfl⟩
      have hen2 : en ≤ 1048576 := by have := Hd.out.relLen; omega
      have HSm := Lib.hid (HSS.out wm um hpf)
      have Ho := Lib.hid ho
      have Hpf := Lib.hid hpf
      have Hen := Lib.hid hen
      have hzm := hz
      clear ho hpf em c6 hlt hz hSm
      go_wp2_with (refine wpList_load_st rfl 34 _ rfl _ Try.underlying34 rfl ⟨w.heap.size, 0, none⟩ d.c HiR.out rfl Hcm.out ?_)
      refine Hex.out.mono ?_
      rintro e we ⟨v2, rfl, hown2, hbe⟩
      obtain ⟨A2, cap2, rfl, hrow2⟩ := own_structs2 hown2 rfl (fun x hx => (Hie.out x hx).len)
      have Hrow2 := Lib.hid hrow2
      have hoe := Ho.out.below hbe
      have hze := hbe.size
      have HSE : Hid (∀ wr v'', PFr No we um wr v'' → ∀ (q : Nat), (∃ cs : Array Value, we.heap[q]? = some (Obj.cells cs 56 (0, 0))) → wr.heap[q]? = we.heap[q]?) := fun wr v'' h q hq => by
        obtain ⟨cs, hcs⟩ := hq
        exact h.keptO hoe hcs (by decide)
      have HSI : Hid (∀ wr v'', PFr No we um wr v'' → ∀ k, S k → wr.heap[k]? = w.heap[k]?) := fun wr v'' h k hk => (h.lowO hoe (by omega) k (by have := HS.out k hk; omega)).trans ((hbe.block k (by have := HS.out k hk; omega)).trans (HSm.out k hk))
      have Hoe := Lib.hid hoe
      clear hown2 hrow2 hoe
      rw [Hen.out]
      go_wp2_with fail
      go_loopw [5, 47] (fun sv i wr => OLoop B we um ([own] ++ (d.kid 0).flatMap (fun x => readsR f x (readOf d x))) (relE d) (readsE f) sv i wr) (fun _ i _ => en - (intOf i).toNat)
      case atStart => exact OLoop.start Hoe.out _ _
      case round =>
        obtain ⟨j, hj, rfl, ho, hpf⟩ := hrel
        have hz := hpf.size
        have hjn : j ≤ en := by rw [← Hen.out]; exact hj
        by_cases hlt : j < en
        · obtain ⟨x, ad, hx, rfl, hbx, hat⟩ := (Hrow2.out.keep (HSE.out wr _ hpf) (fun _ h => h)).get (show j < (relE d).length by rw [Hen.out]; exact hlt)
          have hxi := (Hie.out x (mem_of_get? hx)).keep (HSI.out wr _ hpf) (fun _ h => h)
          have hx14 := hxi.len
          have HiE : Hid ((Try.prog.info? 56).map (·.size) = some x.c.length) := by show _ = _; rw [hx14]; exact sizeExpr
          have HiE2 : Hid ((Try.prog.info? 56).map (·.size) = some x.c.toArray.size) := by show _ = _; rw [List.size_toArray, hx14]; exact sizeExpr
          have Hz : Hid (x.c.toArray.size = 14) := by show _ = _; rw [List.size_toArray, hx14]; rfl
          have H1 := Lib.hid (all_one hxi.ones)
          have Hat := Lib.hid hat
          obtain ⟨W2, hW2⟩ : ∃ W2, wr.alloc (.cells x.c.toArray 56) = W2 := ⟨_, rfl⟩
          have Hcell : Hid (∀ j u, x.c[j]? = some u → W2.cell? ((⟨wr.heap.size, 0, none⟩ : Addr).add j) = some u) := by show ∀ j u, _ → _; rw [← hW2]; exact new_cells wr x.c 56
          have hbW2 : Below wr.heap.size wr W2 := by rw [← hW2]; exact bel1 _ _
          have hle := len_takeF (F := (readsE f)) j hx
          have hxn := n_mem (mem_of_get? hx)
          have hSw : ∀ k, S k → k < wr.heap.size := fun k hk => by have := HS.out k hk; omega
          have hxi2 := hxi.keep (fun k hk => hbW2.block k (hSw k hk)) (fun _ h => h)
          have hSw2 : ∀ k, S k → k < W2.heap.size := fun k hk => by have := hSw k hk; have := hbW2.size; omega
          have hlen3 : (([own] ++ (d.kid 0).flatMap (fun x => readsR f x (readOf d x))) ++ ((relE d).take j).flatMap (readsE f)).length + (readsE f x).length ≤ 1048576 := by simp only [List.length_append, List.length_nil, List.length_cons]; omega
          have Hx := Lib.hid hx
          have HW2 := Lib.hid hW2
          have Hpf := Lib.hid hpf
          have Ho := Lib.hid ho
          clear hat hxi hx14 hx hW2 hpf hle ho
          go_upto_region 15 with (first | (refine wpList_load_st rfl 56 _ rfl _ Try.underlying56 rfl (ad.add (j * 14)) x.c HiE.out rfl Hat.out ?_) | (refine wpList_store_st rfl 56 _ _ rfl _ x.c.toArray HiE2.out Hz.out.symm H1.out rfl rfl ?_))
          rw [HW2.out]
          have Hbc := Lib.hid hbW2
          have Hcall : Hid (Calls Try.prog 44 #[.agg x.c.toArray] W2 (RdPost (readsE f x) W2)) := hE x S W2 hxi2 hSw2 (by omega)
          go_wp2_with (refine wpList_load_st rfl 56 _ rfl _ Try.underlying56 rfl ⟨wr.heap.size, 0, none⟩ x.c HiE.out rfl Hcell.out ?_)
          -- Hcall : Hid (Calls .. wc (RdPost M wc)); Hbc : Below wr.heap.size wr wc
          refine Hcall.out.mono ?_
          rintro e w3 ⟨v3, xs3, rfl, hown3, hrr3, hb3⟩
          obtain ⟨A3, cap3, rfl, hsrc3, _, _, hxl3⟩ := own_src hown3
          have Hsrc3 := Lib.hid hsrc3
          have Hxl3 := Lib.hid (show xs3.length = (readsE f x).length * 1 by rw [hxl3, Nat.mul_one])
          have Hon3 := Lib.hid hrr3.ones
          obtain ⟨xs, hown, hrr⟩ := Ho.out
          have hbw3 : Below wr.heap.size wr w3 := Hbc.out.trans (hb3.mono Hbc.out.size)
          have Hown := Lib.hid (own_below hown hbw3)
          have h3 : Hid ((([own] ++ (d.kid 0).flatMap (fun x => readsR f x (readOf d x))) ++ ((relE d).take j).flatMap (readsE f)).length + (readsE f x).length ≤ maxLen) := by show _ ≤ _; unfold maxLen; omega
          have h4 : Hid (((([own] ++ (d.kid 0).flatMap (fun x => readsR f x (readOf d x))) ++ ((relE d).take j).flatMap (readsE f)).length + (readsE f x).length) * 24 ≤ 140737488355328) := by show _ ≤ _; omega
          have hzz : Hid (B ≤ w3.heap.size) := by show _ ≤ _; have := hbw3.size; omega
          have Hrr := Lib.hid hrr
          have Hrr3 := Lib.hid hrr3
          have Hown1 := Lib.hid hown
          clear hown hrr hown3 hsrc3 hxl3 hrr3
          go_wp2_with (at_builtin; refine wpList_append_row _ rfl _ _ 29 rfl B 37 i0 _ 1 24 Try.underlying29 hi iz isz iby rfl (by decide) u5 _ _ rfl Hown.out A3 (readsE f x).length cap3 xs3 rfl Hxl3.out Hsrc3.out Hon3.out h3.out h4.out hzz.out ?_; intro sv' w4 hown4 hg4 hm4)
          have Hst : Hid (OLoop B we um ([own] ++ (d.kid 0).flatMap (fun x => readsR f x (readOf d x))) (relE d) (readsE f) sv' (.int .i64 ((j : Int) + 1)) w4) := OLoop.step Hx.out Hpf.out Hown1.out Hrr.out hbw3 Hrr3.out hown4 hg4 hm4
          clear hown4 hg4 hm4
          go_roundw
          case rel => first | exact Hst.out | ((repeat apply Exists.intro); exact ⟨Hst.out, rfl⟩)
          case measure => simp [intOf]; omega
        · obtain rfl : j = en := by omega
          rw [show (relE d).take j = relE d by rw [← Hen.out]; exact List.take_length] at ho
          have hbF : Below w.heap.size w wr := HbB.out.trans ((((Hpf.out.belowO HnB.out hBB).trans (hbe.mono (by omega))).trans (hpf.belowO Hoe.out (by omega))).mono (by omega))
          go_wp2_with fail
          go_ret
          obtain ⟨xs, hown, hrr⟩ := ho
          exact ⟨_, xs, rfl, own_base hown (by omega), hrr, hbF⟩
end Go.Proofs.Ytlphgceejghfkaa
