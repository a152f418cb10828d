/-
  The reference's Tables, walked.
-/
import Derived.Test.YtoeamomklmoncaaPtI
import Derived.Test.YtoeamomklmoncaaPtJ
namespace Go.Proofs.Ytoeamomklmoncaa
open Go.RowKit Go.Sort
theorem infoStr : (Try.prog.info? 9).map (fun i => (i.zero, i.size, i.bytes)) = some (some (.string ByteArray.empty), 1, 16) := by kernel_rfl
/-- What the loop over tables has at its head. -/
def DLoop (we : World) (l : List DT) (sv i : Value) (wr : World) : Prop := ∃ j : Nat, j ≤ l.length ∧ i = .int .i64 j ∧ wr.ownsRow we.heap.size 9 1 sv (ddS [] (nmS (l.take j))).length ((ddS [] (nmS (l.take j))).map encStr) ∧ Below we.heap.size we wr
theorem SOwn.base' {B B' : Nat} {w : World} {A : Option Addr} {cap : Nat} {l : List (List UInt8)} (h : SOwn B w A cap l) (hB : B' ≤ B) : SOwn B' w A cap l := by
  refine ⟨h.1, h.2.1, ?_⟩
  rcases h.2.2 with h | ⟨g, cur, e, hb, rest⟩
  · exact .inl h
  · exact .inr ⟨g, cur, e, Nat.le_trans hB hb, rest⟩
set_option maxRecDepth 100000 in
set_option maxHeartbeats 4000000 in
theorem rTables_any (f : Nat) (hf : f ≤ 1048576) (d : DT) (S : Nat → Prop) (w : World) (hd : DT.In S w .rel d) (hS : ∀ k, S k → k < w.heap.size) (hn : d.n ≤ f) :
    Calls Try.prog 8 #[.agg d.c.toArray] w (SPost (sortS (ddS [] (nmS (tabsR f d)))) w) := by
  obtain ⟨i0, hi, iz, isz, iby⟩ := info_parts infoStr
  have hlen := hd.len
  have htl := (tabs_len f).1 d
  obtain ⟨L, hL⟩ : ∃ L, tabsR f d = L := ⟨_, rfl⟩
  rw [hL] at htl ⊢
  obtain ⟨ln, hln⟩ : ∃ n, L.length = n := ⟨_, rfl⟩
  have hln2 : ln ≤ 1048576 := by omega
  have HiR : Hid ((Try.prog.info? 31).map (·.size) = some d.c.length) := by show _ = _; rw [hlen]; exact sizeRel
  obtain ⟨W0, hW0⟩ : ∃ W0, w.alloc (.cells d.c.toArray 31) = W0 := ⟨_, rfl⟩
  have hb0 : Below w.heap.size w W0 := by rw [← hW0]; exact bel1 _ _
  have e0 : W0.heap[w.heap.size]? = some (.cells d.c.toArray 31 (0, 0)) := by rw [← hW0]; exact heap_alloc_new w _
  have Hcd : Hid (∀ j u, d.c[j]? = some u → W0.cell? ((⟨w.heap.size, 0, none⟩ : Addr).add j) = some u) := cells_of_heap e0
  have Hto : Hid (Calls Try.prog 15 #[.agg d.c.toArray] W0 (TPost L W0)) := by
    rw [← hL]
    show Calls _ _ _ _ _
    exact (tables_all f hf).1 d S W0 (hd.keep (fun k hk => hb0.block k (hS k hk)) (fun _ h => h)) (fun k hk => Nat.lt_of_lt_of_le (hS k hk) hb0.size) hn
  have Hin : Hid (∀ x, x ∈ L → DT.In S w .rel x) := by rw [← hL]; exact (tabs_in f).1 d hd
  have HS : Hid (∀ k, S k → k < w.heap.size) := hS
  have HW0 := Lib.hid hW0
  have Hln := Lib.hid hln
  clear hW0 e0 hd hS hn hlen hL htl
  go_enter Try.func8, Try.ntmps8
  go_upto_region 2 with (fail)
  rw [HW0.out]
  go_wp2_with (refine wpList_load_st rfl 31 _ rfl _ Try.underlying31 rfl ⟨w.heap.size, 0, none⟩ d.c HiR.out rfl Hcd.out ?_)
  refine Hto.out.mono ?_
  rintro e we ⟨v2, rfl, hown2, hbe⟩
  obtain ⟨A2, cap2, rfl, hrow2⟩ := own_structs2 hown2 rfl (fun x hx => (Hin.out x hx).len)
  have Hrow2 := Lib.hid hrow2
  have hbwe : Below w.heap.size w we := hb0.trans (hbe.mono hb0.size)
  clear hown2 hrow2
  rw [Hln.out]
  go_wp2_with fail
  go_loopw [3, 9] (fun sv i wr => DLoop we L sv i wr) (fun _ i _ => ln - (intOf i).toNat)
  case atStart => exact ⟨0, Nat.zero_le _, rfl, World.ownsRow_nil _ _ _ _, Below.refl _ _⟩
  case round =>
    obtain ⟨j, hj, rfl, hown, hb⟩ := hrel
    have hz := hb.size
    have hjn : j ≤ ln := by rw [← Hln.out]; exact hj
    obtain ⟨A3, cap3, rfl, hsrc3, hc3, hm3, _⟩ := own_srcN hown
    have hsl : (ddS [] (nmS (L.take j))).length ≤ j := by
      have := ddS_len (nmS (L.take j)) []
      have h2 : (nmS (L.take j)).length = j := by unfold nmS; rw [List.length_map, List.length_take]; omega
      simp only [List.length_nil] at this
      omega
    by_cases hlt : j < ln
    · obtain ⟨x, ad, hx, rfl, hbx, hat⟩ := (Hrow2.out.keep (w' := wr) (fun k hk => by obtain ⟨cs, hcs⟩ := hk; exact hb.block k (Array.getElem?_eq_some_iff.1 hcs).1) (fun _ h => h)).get (show j < L.length by rw [Hln.out]; exact hlt)
      have hxi := Hin.out x (mem_of_get? hx)
      have hx14 := hxi.len
      have hnm := hxi.relName
      have HiE : Hid ((Try.prog.info? 31).map (·.size) = some x.c.length) := by show _ = _; rw [hx14]; exact sizeRel
      have HiE2 : Hid ((Try.prog.info? 31).map (·.size) = some x.c.toArray.size) := by show _ = _; rw [List.size_toArray, hx14]; exact sizeRel
      have Hz : Hid (x.c.toArray.size = 14) := by show _ = _; rw [List.size_toArray, hx14]; rfl
      have H1 := Lib.hid (all_one hxi.ones)
      have Hat := Lib.hid hat
      obtain ⟨W2, hW2⟩ : ∃ W2, wr.alloc (.cells x.c.toArray 31) = W2 := ⟨_, rfl⟩
      have s2 : W2.cell? ⟨wr.heap.size, 2, none⟩ = some (.string (dName x)) := by rw [← hW2]; exact new_cell _ _ _ 2 hnm
      have hbW2 : Below wr.heap.size wr W2 := by rw [← hW2]; exact bel1 _ _
      have hown2 := own_below hown hbW2
      obtain ⟨ss, hss⟩ : ∃ ss, ddS [] (nmS (L.take j)) = ss := ⟨_, rfl⟩
      have hnext := ddS_snoc [] (nmS (L.take j)) (dName x).data.toList
      rw [← nmS_take L j hx, hss] at hnext
      rw [hss] at hown2 hsl
      have hct := containsS_any ss A3 cap3 we.heap.size (dName x) W2 (SOwn.of_own hown2) (by omega)
      obtain ⟨m, hm⟩ : ∃ m, ss.length = m := ⟨_, rfl⟩
      rw [hm] at hct hown2 hsl
      rw [hss, hm]
      have Hown := Lib.hid hown2
      have Hx := Lib.hid hx
      have HW2 := Lib.hid hW2
      have Hm := Lib.hid hm
      have Hnext := Lib.hid hnext
      have hj1 : j + 1 ≤ L.length := (List.getElem?_eq_some_iff.1 hx).1
      have hb2 : Below we.heap.size we W2 := hb.trans (hbW2.mono hz)
      by_cases hmem : (dName x).data.toList ∈ ss
      · rw [decide_eq_true hmem] at hct
        have Hct := Lib.hid hct
        rw [if_pos hmem] at hnext
        have Hst : Hid (DLoop we L (.slice A3 m cap3) (.int .i64 ((j : Int) + 1)) W2) := ⟨j + 1, hj1, by simp, by rw [hnext, hm]; exact hown2, hb2⟩
        clear hat hxi hx14 hx hW2 hown hown2 hsrc3 hnm hct hss hmem hm hnext
        go_upto_region 5 with (first | (refine wpList_load_st rfl 31 _ rfl _ Try.underlying31 rfl (ad.add (j * 14)) x.c HiE.out rfl Hat.out ?_) | (refine wpList_store_st rfl 31 _ _ rfl _ x.c.toArray HiE2.out Hz.out.symm H1.out rfl rfl ?_))
        rw [HW2.out]
        go_wp2_with fail
        refine Hct.out.mono ?_
        rintro e w3 ⟨rfl, rfl⟩
        go_wp2_with fail
        go_roundw
        case rel => first | exact Hst.out | ((repeat apply Exists.intro); exact ⟨Hst.out, rfl⟩)
        case measure => simp [intOf]; omega
      · rw [decide_eq_false hmem] at hct
        have Hct := Lib.hid hct
        rw [if_neg hmem] at hnext
        have Hnx := Lib.hid hnext
        have h3 : Hid (m + 1 ≤ maxLen) := by show _ ≤ _; unfold maxLen; omega
        have h4 : Hid ((m + 1) * 16 ≤ 140737488355328) := by show _ ≤ _; omega
        have h5 : Hid (∀ o, we.heap.size ≤ (W2.alloc o).heap.size) := fun o => by have := hb2.size; simp; omega
        clear hat hxi hx14 hx hW2 hown hown2 hsrc3 hnm hct hss hmem hm hnext
        go_upto_region 5 with (first | (refine wpList_load_st rfl 31 _ rfl _ Try.underlying31 rfl (ad.add (j * 14)) x.c HiE.out rfl Hat.out ?_) | (refine wpList_store_st rfl 31 _ _ rfl _ x.c.toArray HiE2.out Hz.out.symm H1.out rfl rfl ?_))
        rw [HW2.out]
        go_wp2_with fail
        refine Hct.out.mono ?_
        rintro e w3 ⟨rfl, rfl⟩
        go_wp2_with (at_builtin; refine wpList_append_row _ rfl _ _ 34 rfl we.heap.size 9 i0 _ 1 16 Try.underlying34 hi iz isz iby rfl (by decide) (.slice A3 m cap3) _ _ rfl (Hown.out.alloc _) (some ⟨w3.heap.size, 0, none⟩) 1 1 [.string (dName x)] rfl rfl (new_src _ _ _) (by simp [Value.oneCell']) h3.out h4.out (h5.out _) ?_; intro sv6 w6 hown6 hg6 hm6)
        have Hst : Hid (DLoop we L sv6 (.int .i64 ((j : Int) + 1)) w6) := ⟨j + 1, hj1, by simp, by rw [Hnx.out, List.length_append, Hm.out, List.map_append]; exact hown6, (hb2.trans ((bel1 _ _).mono hb2.size)).grown hg6 (h5.out _) (fun q hq => (Hown.out.lt q hq).1)⟩
        clear hown6 hg6 hm6
        go_roundw
        case rel => first | exact Hst.out | ((repeat apply Exists.intro); exact ⟨Hst.out, rfl⟩)
        case measure => simp [intOf]; omega
    · obtain rfl : j = ln := by omega
      rw [show L.take j = L by rw [← Hln.out]; exact List.take_length] at hown hsl ⊢
      obtain ⟨ss, hss⟩ : ∃ ss, ddS [] (nmS L) = ss := ⟨_, rfl⟩
      rw [hss] at hown hsl ⊢
      have hso := sortS_any ss A3 cap3 we.heap.size wr (SOwn.of_own hown) (by omega)
      obtain ⟨m, hm⟩ : ∃ m, ss.length = m := ⟨_, rfl⟩
      rw [hm] at hso ⊢
      have Hso := Lib.hid hso
      have Hm := Lib.hid hm
      have Hss := Lib.hid hss
      clear hown hsrc3 hso hm hss
      go_wp2_with fail
      refine Hso.out.mono ?_
      rintro e w7 ⟨rfl, hs7, hb7⟩
      have Hs7 := Lib.hid hs7
      clear hs7
      go_wp2_with fail
      go_ret
      exact ⟨A3, cap3, by rw [sortS_len, Hss.out, Hm.out]; rfl, by rw [Hss.out]; exact Hs7.out.base' hbwe.size, hbwe.trans ((hb.trans hb7).mono hbwe.size)⟩
end Go.Proofs.Ytoeamomklmoncaa
