/-
  meaning.Tables, walked.
-/
import Derived.Test.YtoeamomklmoncaaPtM
namespace Go.Proofs.Ytoeamomklmoncaa
open Go.RowKit Go.Sort
/-- What the loop over tables has at its head. -/
def MLoop (we : World) (l : List DT) (sv i : Value) (wr : World) : Prop := ∃ j : Nat, j ≤ l.length ∧ i = .int .i64 j ∧ wr.ownsRow we.heap.size 9 1 sv j ((nmS (l.take j)).map encStr) ∧ Below we.heap.size we wr
theorem compact_sort (l : List (List UInt8)) : Lib.compact (sortS l) = sortS (ddS [] l) := sort_dd l
set_option maxRecDepth 100000 in
set_option maxHeartbeats 4000000 in
theorem mTables_any (hT : TabOk) (f : Nat) (hf : f ≤ 1048576) (d : DT) (S : Nat → Prop) (w : World) (hd : DT.In S w .rel d) (hS : ∀ k, S k → k < w.heap.size) (hn : d.n ≤ f) :
    Calls Try.prog 7 #[.agg d.c.toArray] w (SPost (sortS (ddS [] (nmS (tabsR f d)))) w) := by
  obtain ⟨i0, hi, iz, isz, iby⟩ := info_parts infoStr
  have hlen := hd.len
  have htl := (tabs_len f).1 d
  have HiR : Hid ((Try.prog.info? 31).map (·.size) = some d.c.length) := by show _ = _; rw [hlen]; exact sizeRel
  obtain ⟨L, hL⟩ : ∃ L, tabsR f d = L := ⟨_, rfl⟩
  have hW : Hid (∀ W, TInv (w.heap.size + 1) (w.heap.size + 1) W (.slice none 0 0) [] → Below w.heap.size w W → Calls Try.prog 9 #[.iface 51 (.pointer (some ⟨w.heap.size + 1, 0, none⟩)), .agg d.c.toArray] W (XPost (w.heap.size + 1) (w.heap.size + 1) (.slice none 0 0) L W)) := fun W hi hb => by
    have h := (visit_all hT (w.heap.size + 1) (w.heap.size + 1) f hf).2 d (.slice none 0 0) W [] S (hd.keep (fun k hk => hb.block k (hS k hk)) (fun _ h => h)) (fun k hk => by have := hS k hk; omega) hn hi (by simp only [List.length_nil]; omega)
    rw [List.nil_append, hL] at h
    exact h
  rw [hL] at htl ⊢
  obtain ⟨ln, hln⟩ : ∃ n, L.length = n := ⟨_, rfl⟩
  have hln2 : ln ≤ 1048576 := by omega
  have Hcell : Hid (∀ o j u, d.c[j]? = some u → ((w.alloc (.cells d.c.toArray 31)).alloc o).cell? ((⟨w.heap.size, 0, none⟩ : Addr).add j) = some u) := fun o j u hu => cell_old (new_cells w d.c 31 j u hu) o
  have Hin : Hid (∀ x, x ∈ L → DT.In S w .rel x) := by rw [← hL]; exact (tabs_in f).1 d hd
  have Hln := Lib.hid hln
  clear hd hS hn hlen hL htl
  go_enter Try.func7, Try.ntmps7
  go_wp2_with (refine wpList_load_st rfl 31 _ rfl _ Try.underlying31 rfl ⟨w.heap.size, 0, none⟩ d.c HiR.out rfl (Hcell.out _) ?_)
  generalize hW3 : World.alloc _ _ = W3
  have hb3 : Below w.heap.size w W3 := by rw [← hW3]; exact bel2 _ _ _
  have hi3 : TInv (w.heap.size + 1) (w.heap.size + 1) W3 (.slice none 0 0) [] := by
    rw [← hW3]
    refine ⟨?_, Nat.le_refl _, World.ownsRow_nil _ _ _ _⟩
    have h := heap_alloc_new (w.alloc (.cells d.c.toArray 31)) (.cells #[.slice none 0 0] 53)
    simpa using h
  refine (hW.out W3 hi3 hb3).mono ?_
  rintro e we ⟨rfl, v4, ht4, hp4⟩
  have hbwe : Below w.heap.size w we := hb3.trans ⟨hp4.os, hp4.tape, hp4.output, hp4.size, fun k hk => hp4.lowX hi3 k (by omega)⟩
  obtain ⟨hg4, _, hown4⟩ := ht4
  obtain ⟨A2, cap2, rfl, hrow2⟩ := own_structs2 hown4 rfl (fun x hx => (Hin.out x hx).len)
  have c4 := cell_of_row _ _ 0 _ _ _ hg4
  simp at c4
  have Hrow2 := Lib.hid hrow2
  rw [Hln.out] at c4
  clear hown4 hrow2 hW3 hi3 hp4 hg4
  go_wp2_with fail
  go_loopw [4, 18] (fun sv i wr => MLoop we L sv i wr) (fun _ i _ => ln - (intOf i).toNat)
  case atStart => exact ⟨0, Nat.zero_le _, rfl, World.ownsRow_nil _ _ _ _, Below.refl _ _⟩
  case round =>
    obtain ⟨j, hj, rfl, hown, hb⟩ := hrel
    have hz := hb.size
    have hjn : j ≤ ln := by rw [← Hln.out]; exact hj
    by_cases hlt : j < ln
    · obtain ⟨x, ad, hx, rfl, hbx, hat⟩ := (Hrow2.out.keep (w' := wr) (fun k hk => by obtain ⟨cs, hcs⟩ := hk; exact hb.block k (Array.getElem?_eq_some_iff.1 hcs).1) (fun _ h => h)).get (show j < L.length by rw [Hln.out]; exact hlt)
      have hxi := Hin.out x (mem_of_get? hx)
      have hx14 := hxi.len
      have hnm := hxi.relName
      have HiE : Hid ((Try.prog.info? 31).map (·.size) = some x.c.length) := by show _ = _; rw [hx14]; exact sizeRel
      have HiE2 : Hid ((Try.prog.info? 31).map (·.size) = some x.c.toArray.size) := by show _ = _; rw [List.size_toArray, hx14]; exact sizeRel
      have Hz : Hid (x.c.toArray.size = 14) := by show _ = _; rw [List.size_toArray, hx14]; rfl
      have H1 := Lib.hid (all_one hxi.ones)
      have Hat := Lib.hid hat
      obtain ⟨W2, hW2⟩ : ∃ W2, wr.alloc (.cells x.c.toArray 31) = W2 := ⟨_, rfl⟩
      have s2 : W2.cell? ⟨wr.heap.size, 2, none⟩ = some (.string (dName x)) := by rw [← hW2]; exact new_cell _ _ _ 2 hnm
      have hbW2 : Below wr.heap.size wr W2 := by rw [← hW2]; exact bel1 _ _
      have hb2 : Below we.heap.size we W2 := hb.trans (hbW2.mono hz)
      have Hown := Lib.hid (own_below hown hbW2)
      have Hx := Lib.hid hx
      have HW2 := Lib.hid hW2
      have h3 : Hid (j + 1 ≤ maxLen) := by show _ ≤ _; unfold maxLen; omega
      have h4 : Hid ((j + 1) * 16 ≤ 140737488355328) := by show _ ≤ _; omega
      have h5 : Hid (∀ o, we.heap.size ≤ (W2.alloc o).heap.size) := fun o => by have := hb2.size; simp; omega
      clear hat hxi hx14 hx hW2 hown hnm
      go_upto_region 7 with (first | (refine wpList_load_st rfl 31 _ rfl _ Try.underlying31 rfl (ad.add (j * 14)) x.c HiE.out rfl Hat.out ?_) | (refine wpList_store_st rfl 31 _ _ rfl _ x.c.toArray HiE2.out Hz.out.symm H1.out rfl rfl ?_))
      rw [HW2.out]
      go_wp2_with (at_builtin; refine wpList_append_row _ rfl _ _ 34 rfl we.heap.size 9 i0 _ 1 16 Try.underlying34 hi iz isz iby rfl (by decide) u4 _ _ rfl (Hown.out.alloc _) (some ⟨W2.heap.size, 0, none⟩) 1 1 [.string (dName x)] rfl rfl (new_src _ _ _) (by simp [Value.oneCell']) h3.out h4.out (h5.out _) ?_; intro sv6 w6 hown6 hg6 hm6)
      have Hst : Hid (MLoop we L sv6 (.int .i64 ((j : Int) + 1)) w6) := ⟨j + 1, (List.getElem?_eq_some_iff.1 Hx.out).1, by simp, by rw [nmS_take L j Hx.out, List.map_append]; exact hown6, (hb2.trans ((bel1 _ _).mono hb2.size)).grown hg6 (h5.out _) (fun q hq => (Hown.out.lt q hq).1)⟩
      clear hown6 hg6 hm6
      go_roundw
      case rel => first | exact Hst.out | ((repeat apply Exists.intro); exact ⟨Hst.out, rfl⟩)
      case measure => simp [intOf]; omega
    · obtain rfl : j = ln := by omega
      rw [show L.take j = L by rw [← Hln.out]; exact List.take_length] at hown
      obtain ⟨A3, cap3, rfl, _, hc3, hm3, _⟩ := own_srcN hown
      obtain ⟨ss, hss⟩ : ∃ ss, nmS L = ss := ⟨_, rfl⟩
      have hsl : ss.length = j := by rw [← hss]; unfold nmS; rw [List.length_map, Hln.out]
      rw [hss] at hown
      have hso := sortS_any ss A3 cap3 we.heap.size wr (SOwn.of_own hown) (by omega)
      have Hco : Hid (∀ w', SOwn we.heap.size w' A3 cap3 (sortS ss) → Calls Try.prog 14 #[.slice A3 j cap3] w' fun e w'' => e = .returned (.slice A3 (Lib.compact (sortS ss)).length cap3) ∧ SOwn we.heap.size w'' A3 cap3 (Lib.compact (sortS ss)) ∧ Below we.heap.size w' w'') := fun w' h' => by
        have h := compactS_any (sortS ss) A3 cap3 we.heap.size w' h' (by rw [sortS_len]; omega)
        rw [sortS_len, hsl] at h
        exact h
      rw [hsl] at hso
      have hle := compactS_le (sortS ss)
      rw [sortS_len, hsl] at hle
      obtain ⟨m, hmm⟩ : ∃ m, (Lib.compact (sortS ss)).length = m := ⟨_, rfl⟩
      rw [hmm] at Hco hle
      have hm4 : cap3 ≤ 9223372036854775807 := by unfold maxLen at hm3; exact hm3
      have Hcl : Hid (∀ w', Calls Try.prog 13 #[.slice A3 m cap3] w' fun e w'' => e = .returned (.slice A3 m m) ∧ w'' = w') := fun w' => clipS_any A3 m cap3 w' (by omega) hm4
      have Hso := Lib.hid hso
      have Hmm := Lib.hid hmm
      have Hss := Lib.hid hss
      clear hown hso hmm hss hsl hm3
      go_wp2_with fail
      refine Hso.out.mono ?_
      rintro e w7 ⟨rfl, hs7, hb7⟩
      have Hs7 := Lib.hid hs7
      clear hs7
      go_wp2_with fail
      refine (Hco.out w7 Hs7.out).mono ?_
      rintro e w8 ⟨rfl, hs8, hb8⟩
      have Hs8 := Lib.hid hs8.clip
      clear hs8
      go_wp2_with (go_at_call 13; refine (Hcl.out _).mono ?_; rintro e w9 ⟨rfl, rfl⟩)
      go_ret
      refine ⟨A3, m, by rw [Hss.out, ← compact_sort, Hmm.out]; rfl, ?_, hbwe.trans ((hb.trans (hb7.trans hb8)).mono hbwe.size)⟩
      have h := Hs8.out
      rw [Hmm.out, compact_sort, ← Hss.out] at h
      refine ⟨h.1, h.2.1, ?_⟩
      rcases h.2.2 with h | ⟨g, cur, e, hb, rest⟩
      · exact .inl h
      · exact .inr ⟨g, cur, e, Nat.le_trans hbwe.size hb, rest⟩
end Go.Proofs.Ytoeamomklmoncaa
