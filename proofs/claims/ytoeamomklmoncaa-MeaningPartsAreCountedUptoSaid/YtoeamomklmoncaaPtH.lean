/-
  The reference's TablesIn, walked.
-/
import Derived.Test.YtoeamomklmoncaaPtB
namespace Go.Proofs.Ytoeamomklmoncaa
open Go.RowKit
theorem infoRel : (Try.prog.info? 31).map (fun i => (i.zero, i.size, i.bytes)) = some (some (.agg #[.int .i64 0, .int .i64 0, .string ByteArray.empty, .bool false, .slice none 0 0, .slice none 0 0, .slice none 0 0, .slice none 0 0, .slice none 0 0, .slice none 0 0, .slice none 0 0, .slice none 0 0, .int .i64 0, .int .i64 0]), 14, 248) := by kernel_rfl
def No (_ : Nat) : Prop := False
theorem own_srcN {w : World} {B e n size : Nat} {v : Value} {xs : List Value} (h : w.ownsRow B e size v n xs) : ∃ (A : Option Addr) (cap : Nat), v = .slice A n cap ∧ SrcAt w A xs ∧ n ≤ cap ∧ cap ≤ maxLen ∧ xs.length = n * size := by
  have hx := h.1
  rcases h.2 with ⟨rfl, h0⟩ | ⟨g, cap, cur, rfl, hb, hg, h1, h2, h3, h4⟩
  · exact ⟨none, 0, by rw [h0], .inl (List.length_eq_zero_iff.1 (by rw [hx, h0, Nat.zero_mul])), by omega, Nat.zero_le _, hx⟩
  · exact ⟨some ⟨g, 0, none⟩, cap, rfl, .inr ⟨_, rfl, h.cells (g := g) rfl⟩, h1, h2, hx⟩
theorem own_neN {w : World} {B e n k size : Nat} {v : Value} {xs : List Value} {cs : Array Value} {t : TypeId} {fr : Nat × Nat} (h : w.ownsRow B e size v n xs) (hk : w.heap[k]? = some (.cells cs t fr)) (ht : t ≠ e) : some k ≠ v.ownBlock := fun e1 => by
  rcases h.2 with ⟨rfl, _⟩ | ⟨g, cap, cur, rfl, _, hg, _⟩
  · cases e1
  · cases e1
    rw [hg] at hk
    cases hk
    exact ht rfl
/-- A row of relations of the call's own. -/
def OutD (B : Nat) (w : World) (v : Value) (L : List DT) : Prop := w.ownsRow B 31 14 v L.length (L.flatMap DT.c)
theorem OutD.nil (B : Nat) (w : World) : OutD B w (.slice none 0 0) [] := World.ownsRow_nil _ _ _ _
theorem PFr.keptD {B k : Nat} {w w' : World} {v v' : Value} {L : List DT} {cs : Array Value} {t : TypeId} {fr : Nat × Nat} (hp : PFr No w v w' v') (h : OutD B w v L) (hk : w.heap[k]? = some (.cells cs t fr)) (ht : t ≠ 31) : w'.heap[k]? = w.heap[k]? :=
  hp.block k (Array.getElem?_eq_some_iff.1 hk).1 (fun e => e) (own_neN h hk ht)
theorem PFr.lowD {B : Nat} {w w' : World} {v v' : Value} {L : List DT} (hp : PFr No w v w' v') (h : OutD B w v L) (hB : B ≤ w.heap.size) : ∀ k, k < B → w'.heap[k]? = w.heap[k]? := fun k hk => by
  refine hp.block k (by omega) (fun e => e) (fun e => ?_)
  have := (h.lt k e.symm).1
  omega
theorem PFr.belowD {B : Nat} {w w' : World} {v v' : Value} {L : List DT} (hp : PFr No w v w' v') (h : OutD B w v L) (hB : B ≤ w.heap.size) : Below B w w' := ⟨hp.os, hp.tape, hp.output, hp.size, hp.lowD h hB⟩
/-- What a loop over parts has at its head. -/
def TLoop (B : Nat) (W1 : World) (v : Value) (L : List DT) (l : List DT) (F : DT → List DT) (sv i : Value) (wr : World) : Prop := ∃ j : Nat, j ≤ l.length ∧ i = .int .i64 j ∧ OutD B wr sv (L ++ (l.take j).flatMap F) ∧ PFr No W1 v wr sv
theorem TLoop.start {B : Nat} {W1 : World} {v : Value} {L : List DT} (h : OutD B W1 v L) (l : List DT) (F : DT → List DT) : TLoop B W1 v L l F v (.int .i64 0) W1 := ⟨0, Nat.zero_le _, rfl, by simpa using h, PFr.refl _ _ _⟩
theorem pfr_step {wr w2 w3 : World} {v v' : Value} (hb : Below wr.heap.size wr w2) (hg : w2.grownBy w3 v.ownBlock) (hm : Moved w2 v v') : PFr No wr v w3 v' := by
  refine ⟨hg.os.trans hb.os, hg.tape.trans hb.tape, hg.output.trans hb.output, Nat.le_trans hb.size hg.size, fun k hk _ ho => (hg.block k (by have := hb.size; omega) ho).trans (hb.block k hk), ?_⟩
  rcases hm with hm | hm
  · exact .inl hm
  · exact .inr fun k hk => by have := hm k hk; have := hb.size; omega
theorem TLoop.step {B j : Nat} {W1 wr w2 w3 : World} {v v' v3 : Value} {L : List DT} {l : List DT} {F : DT → List DT} {x : DT} (hx : l[j]? = some x) (hp : PFr No W1 v wr v') (hb : Below wr.heap.size wr w2) (hown : w3.ownsRow B 31 14 v3 ((L ++ (l.take j).flatMap F).length + (F x).length) ((L ++ (l.take j).flatMap F).flatMap DT.c ++ (F x).flatMap DT.c)) (hg : w2.grownBy w3 v'.ownBlock) (hm : Moved w2 v' v3) : TLoop B W1 v L l F v3 (.int .i64 ((j : Int) + 1)) w3 := by
  refine ⟨j + 1, (List.getElem?_eq_some_iff.1 hx).1, by simp, ?_, hp.trans (pfr_step hb hg hm)⟩
  have e : L ++ (l.take (j + 1)).flatMap F = (L ++ (l.take j).flatMap F) ++ F x := by
    rw [List.take_add_one, hx, List.flatMap_append]
    simp
  unfold OutD
  rw [e, List.length_append, List.flatMap_append]
  exact hown
theorem len_takeD {F : DT → List DT} {l : List DT} (j : Nat) {x : DT} (hx : l[j]? = some x) : ((l.take j).flatMap F).length + (F x).length ≤ (l.flatMap F).length := by
  have e : l.flatMap F = (l.take j).flatMap F ++ (F x ++ (l.drop (j + 1)).flatMap F) := by
    rw [← List.flatMap_cons, ← drop_of_get? hx, ← List.flatMap_append, List.take_append_drop]
  rw [e]
  simp only [List.length_append]
  omega
/-- What comes back. -/
def TPost (L : List DT) (w : World) (e : Ending) (w' : World) : Prop := ∃ v : Value, e = .returned v ∧ w'.ownsRow w.heap.size 31 14 v L.length (L.flatMap DT.c) ∧ Below w.heap.size w w'
def TQ (f : Nat) : Prop := ∀ (d : DT) (S : Nat → Prop) (w : World), DT.In S w .rel d → (∀ k, S k → k < w.heap.size) → d.n ≤ f → Calls Try.prog 15 #[.agg d.c.toArray] w (TPost (tabsR f d) w)
def TE (f : Nat) : Prop := ∀ (d : DT) (S : Nat → Prop) (w : World), DT.In S w .expr d → (∀ k, S k → k < w.heap.size) → d.n ≤ f → Calls Try.prog 22 #[.agg d.c.toArray] w (TPost (tabsE f d) w)
set_option maxRecDepth 100000 in
set_option maxHeartbeats 8000000 in
theorem tablesIn_step (f : Nat) (hf : f + 1 ≤ 1048576) (hE : TE f) (hT : TQ f) : TE (f + 1) := by
  obtain ⟨i0, hi, iz, isz, iby⟩ := info_parts infoRel
  intro d S w hd hS hn
  obtain ⟨⟨AA, acap, d12, ra⟩, ⟨SA, scap, d13, rs⟩, ia, is⟩ := hd.exprKids
  have hk5 := kids5 d
  have hl1 := len_flat_n (f := tabsE f) (l := d.kid 0) (tabs_len f).2
  have hl2 := len_flat_n (f := tabsR f) (l := d.kid 1) (tabs_len f).1
  rw [tabsE]
  obtain ⟨an, han⟩ : ∃ n, (d.kid 0).length = n := ⟨_, rfl⟩
  obtain ⟨sn, hsn⟩ : ∃ n, (d.kid 1).length = n := ⟨_, rfl⟩
  have han2 : an ≤ 1048576 := by have := len_nL (d.kid 0); omega
  have hsn2 : sn ≤ 1048576 := by have := len_nL (d.kid 1); omega
  rw [han] at d12
  rw [hsn] at d13
  obtain ⟨W0, hW0⟩ : ∃ W0, w.alloc (.cells d.c.toArray 49) = W0 := ⟨_, rfl⟩
  have hb0 : Below w.heap.size w W0 := by rw [← hW0]; exact bel1 _ _
  have e0 : W0.heap[w.heap.size]? = some (.cells d.c.toArray 49 (0, 0)) := by rw [← hW0]; exact heap_alloc_new w _
  have hz0 : W0.heap.size = w.heap.size + 1 := by rw [← hW0]; simp
  have c12 : W0.cell? ⟨w.heap.size, 12, none⟩ = some (.slice AA an acap) := by rw [cell_of_row _ _ 12 _ _ _ e0]; simpa using d12
  obtain ⟨B, hB1, hB2⟩ : ∃ B, W0.heap.size ≤ B ∧ B ≤ W0.heap.size := ⟨_, Nat.le_refl _, Nat.le_refl _⟩
  have Hn : Hid (OutD B W0 (.slice none 0 0) []) := OutD.nil _ _
  have HSS : Hid (∀ wr v', PFr No W0 (.slice none 0 0) wr v' → ∀ k, S k → wr.heap[k]? = w.heap[k]?) := fun wr v' h k hk => (h.lowD Hn.out hB2 k (by have := hS k hk; omega)).trans (hb0.block k (hS k hk))
  have Ha := Lib.hid ia
  have Hs := Lib.hid is
  have Hra := Lib.hid ra
  have Hrs := Lib.hid rs
  have HW0 := Lib.hid hW0
  have E0 := Lib.hid e0
  have HS : Hid (∀ k, S k → k < W0.heap.size) := fun k hk => by have := hS k hk; omega
  have HSw : Hid (∀ k, S k → k < w.heap.size) := hS
  have D13 := Lib.hid d13
  have Han := Lib.hid han
  have Hsn := Lib.hid hsn
  clear hW0 e0 hS hd d12 d13 ia is ra rs han hsn
  go_enter Try.func22, Try.ntmps22
  go_upto_region 2 with (fail)
  rw [HW0.out]
  go_wp2_with fail
  go_loopw [3, 13] (fun sv i wr => TLoop B W0 (.slice none 0 0) [] (d.kid 0) (tabsE f) sv i wr) (fun _ i _ => an - (intOf i).toNat)
  case atStart => exact TLoop.start Hn.out _ _
  case round =>
    obtain ⟨j, hj, rfl, ho, hpf⟩ := hrel
    have hz := hpf.size
    have hjn : j ≤ an := by rw [← Han.out]; exact hj
    by_cases hlt : j < an
    · obtain ⟨x, ad, hx, rfl, hbx, hat⟩ := (Hra.out.keep (HSS.out wr _ hpf) (fun _ h => h)).get (show j < (d.kid 0).length by rw [Han.out]; exact hlt)
      have hx0 := Ha.out x (mem_of_get? hx)
      have hxi := hx0.keep (HSS.out wr _ hpf) (fun _ h => h)
      have hx14 := hxi.len
      have HiE : Hid ((Try.prog.info? 49).map (·.size) = some x.c.length) := by show _ = _; rw [hx14]; exact sizeExpr
      have HiE2 : Hid ((Try.prog.info? 49).map (·.size) = some x.c.toArray.size) := by show _ = _; rw [List.size_toArray, hx14]; exact sizeExpr
      have Hz : Hid (x.c.toArray.size = 14) := by show _ = _; rw [List.size_toArray, hx14]; rfl
      have H1 := Lib.hid (all_one hxi.ones)
      have Hat := Lib.hid hat
      obtain ⟨W2, hW2⟩ : ∃ W2, wr.alloc (.cells x.c.toArray 49) = W2 := ⟨_, rfl⟩
      have Hcell : Hid (∀ j u, x.c[j]? = some u → W2.cell? ((⟨wr.heap.size, 0, none⟩ : Addr).add j) = some u) := by show ∀ j u, _ → _; rw [← hW2]; exact new_cells wr x.c 49
      have hbW2 : Below wr.heap.size wr W2 := by rw [← hW2]; exact bel1 _ _
      have hle := len_takeD (F := (tabsE f)) j hx
      have hxn := n_mem (mem_of_get? hx)
      have hSw : ∀ k, S k → k < wr.heap.size := fun k hk => by have := HS.out k hk; omega
      have hz2 := hbW2.size
      have hlen3 : ([] ++ ((d.kid 0).take j).flatMap (tabsE f)).length + (tabsE f x).length ≤ 1048576 := by simp only [List.length_append, List.length_nil, List.length_cons]; omega
      have Hcall : Hid (Calls Try.prog 22 #[.agg x.c.toArray] W2 (TPost (tabsE f x) W2)) := by
        show Calls _ _ _ _ _
        exact hE x S W2 (hxi.keep (fun k hk => hbW2.block k (hSw k hk)) (fun _ h => h)) (fun k hk => by have := hSw k hk; omega) (by omega)
      have Hfx : Hid (∀ y, y ∈ tabsE f x → DT.In S w .rel y) := (tabs_in f).2 x hx0
      have Hx := Lib.hid hx
      have HW2 := Lib.hid hW2
      have Hpf := Lib.hid hpf
      have Ho := Lib.hid ho
      clear hat hxi hx14 hx hW2 hpf hle ho hx0
      go_upto_region 5 with (first | (refine wpList_load_st rfl 49 _ rfl _ Try.underlying49 rfl (ad.add (j * 14)) x.c HiE.out rfl Hat.out ?_) | (refine wpList_store_st rfl 49 _ _ rfl _ x.c.toArray HiE2.out Hz.out.symm H1.out rfl rfl ?_))
      rw [HW2.out]
      go_wp2_with (refine wpList_load_st rfl 49 _ rfl _ Try.underlying49 rfl ⟨wr.heap.size, 0, none⟩ x.c HiE.out rfl Hcell.out ?_)
      refine Hcall.out.mono ?_
      rintro e w3 ⟨v3, rfl, hown3, hb3⟩
      obtain ⟨A3, cap3, rfl, hsrc3, _, _, hxl3⟩ := own_srcN hown3
      have Hsrc3 := Lib.hid hsrc3
      have Hxl3 := Lib.hid hxl3
      have Hon3 : Hid (∀ u, u ∈ (tabsE f x).flatMap DT.c → u.oneCell' = true) := ones_flat Hfx.out
      have hbw3 : Below wr.heap.size wr w3 := hbW2.trans (hb3.mono hbW2.size)
      have Hown := Lib.hid (own_below Ho.out hbw3)
      have h3 : Hid (([] ++ ((d.kid 0).take j).flatMap (tabsE f)).length + (tabsE f x).length ≤ maxLen) := by show _ ≤ _; unfold maxLen; omega
      have h4 : Hid ((([] ++ ((d.kid 0).take j).flatMap (tabsE f)).length + (tabsE f x).length) * 248 ≤ 140737488355328) := by show _ ≤ _; omega
      have hzz : Hid (B ≤ w3.heap.size) := by show _ ≤ _; have := hbw3.size; omega
      clear hown3 hsrc3 hxl3
      go_wp2_with (at_builtin; refine wpList_append_row _ rfl _ _ 24 rfl B 31 i0 _ 14 248 Try.underlying24 hi iz isz iby rfl (by decide) u3 _ _ rfl Hown.out A3 (tabsE f x).length cap3 ((tabsE f x).flatMap DT.c) rfl Hxl3.out Hsrc3.out Hon3.out h3.out h4.out hzz.out ?_; intro sv' w4 hown4 hg4 hm4)
      have Hst : Hid (TLoop B W0 (.slice none 0 0) [] (d.kid 0) (tabsE f) sv' (.int .i64 ((j : Int) + 1)) w4) := TLoop.step Hx.out Hpf.out hbw3 hown4 hg4 hm4
      clear hown4 hg4 hm4
      go_roundw
      case rel => first | exact Hst.out | ((repeat apply Exists.intro); exact ⟨Hst.out, rfl⟩)
      case measure => simp [intOf]; omega
    · obtain rfl : j = an := by omega
      rw [List.nil_append, show (d.kid 0).take j = d.kid 0 by rw [← Han.out]; exact List.take_length] at ho
      obtain ⟨wm, hwm⟩ : ∃ wm, wm = wr := ⟨_, rfl⟩
      subst hwm
      obtain ⟨um, hum⟩ : ∃ um, um = u3 := ⟨_, rfl⟩
      subst hum
      have em := (hpf.keptD Hn.out E0.out (by decide)).trans E0.out
      have c13 : wm.cell? ⟨w.heap.size, 13, none⟩ = some (.slice SA sn scap) := by rw [cell_of_row _ _ 13 _ _ _ em]; simpa using D13.out
      have HSS2 : Hid (∀ wr v'', PFr No wm um wr v'' → ∀ k, S k → wr.heap[k]? = w.heap[k]?) := fun wr v'' h k hk => (h.lowD ho (by omega) k (by have := HSw.out k hk; omega)).trans (HSS.out wm um hpf k hk)
      have Ho := Lib.hid ho
      have Hpf := Lib.hid hpf
      have hzm := hz
      clear ho hpf em c12 hlt hz
      go_wp2_with fail
      go_loopw [3, 26] (fun sv i wr => TLoop B wm um ((d.kid 0).flatMap (tabsE f)) (d.kid 1) (tabsR f) sv i wr) (fun _ i _ => sn - (intOf i).toNat)
      case atStart => exact TLoop.start Ho.out _ _
      case round =>
        obtain ⟨j, hj, rfl, ho, hpf⟩ := hrel
        have hz := hpf.size
        have hjn : j ≤ sn := by rw [← Hsn.out]; exact hj
        by_cases hlt : j < sn
        · obtain ⟨x, ad, hx, rfl, hbx, hat⟩ := (Hrs.out.keep (HSS2.out wr _ hpf) (fun _ h => h)).get (show j < (d.kid 1).length by rw [Hsn.out]; exact hlt)
          have hx0 := Hs.out x (mem_of_get? hx)
          have hxi := hx0.keep (HSS2.out wr _ hpf) (fun _ h => h)
          have hx14 := hxi.len
          have HiE : Hid ((Try.prog.info? 31).map (·.size) = some x.c.length) := by show _ = _; rw [hx14]; exact sizeRel
          have HiE2 : Hid ((Try.prog.info? 31).map (·.size) = some x.c.toArray.size) := by show _ = _; rw [List.size_toArray, hx14]; exact sizeRel
          have Hz : Hid (x.c.toArray.size = 14) := by show _ = _; rw [List.size_toArray, hx14]; rfl
          have H1 := Lib.hid (all_one hxi.ones)
          have Hat := Lib.hid hat
          obtain ⟨W2, hW2⟩ : ∃ W2, wr.alloc (.cells x.c.toArray 31) = W2 := ⟨_, rfl⟩
          have Hcell : Hid (∀ j u, x.c[j]? = some u → W2.cell? ((⟨wr.heap.size, 0, none⟩ : Addr).add j) = some u) := by show ∀ j u, _ → _; rw [← hW2]; exact new_cells wr x.c 31
          have hbW2 : Below wr.heap.size wr W2 := by rw [← hW2]; exact bel1 _ _
          have hle := len_takeD (F := (tabsR f)) j hx
          have hxn := n_mem (mem_of_get? hx)
          have hSw : ∀ k, S k → k < wr.heap.size := fun k hk => by have := HS.out k hk; omega
          have hz2 := hbW2.size
          have hlen3 : (((d.kid 0).flatMap (tabsE f)) ++ ((d.kid 1).take j).flatMap (tabsR f)).length + (tabsR f x).length ≤ 1048576 := by simp only [List.length_append, List.length_nil, List.length_cons]; omega
          have Hcall : Hid (Calls Try.prog 15 #[.agg x.c.toArray] W2 (TPost (tabsR f x) W2)) := by
            show Calls _ _ _ _ _
            exact hT x S W2 (hxi.keep (fun k hk => hbW2.block k (hSw k hk)) (fun _ h => h)) (fun k hk => by have := hSw k hk; omega) (by omega)
          have Hfx : Hid (∀ y, y ∈ tabsR f x → DT.In S w .rel y) := (tabs_in f).1 x hx0
          have Hx := Lib.hid hx
          have HW2 := Lib.hid hW2
          have Hpf := Lib.hid hpf
          have Ho := Lib.hid ho
          clear hat hxi hx14 hx hW2 hpf hle ho hx0
          go_upto_region 11 with (first | (refine wpList_load_st rfl 31 _ rfl _ Try.underlying31 rfl (ad.add (j * 14)) x.c HiE.out rfl Hat.out ?_) | (refine wpList_store_st rfl 31 _ _ rfl _ x.c.toArray HiE2.out Hz.out.symm H1.out rfl rfl ?_))
          rw [HW2.out]
          go_wp2_with (refine wpList_load_st rfl 31 _ rfl _ Try.underlying31 rfl ⟨wr.heap.size, 0, none⟩ x.c HiE.out rfl Hcell.out ?_)
          refine Hcall.out.mono ?_
          rintro e w3 ⟨v3, rfl, hown3, hb3⟩
          obtain ⟨A3, cap3, rfl, hsrc3, _, _, hxl3⟩ := own_srcN hown3
          have Hsrc3 := Lib.hid hsrc3
          have Hxl3 := Lib.hid hxl3
          have Hon3 : Hid (∀ u, u ∈ (tabsR f x).flatMap DT.c → u.oneCell' = true) := ones_flat Hfx.out
          have hbw3 : Below wr.heap.size wr w3 := hbW2.trans (hb3.mono hbW2.size)
          have Hown := Lib.hid (own_below Ho.out hbw3)
          have h3 : Hid ((((d.kid 0).flatMap (tabsE f)) ++ ((d.kid 1).take j).flatMap (tabsR f)).length + (tabsR f x).length ≤ maxLen) := by show _ ≤ _; unfold maxLen; omega
          have h4 : Hid (((((d.kid 0).flatMap (tabsE f)) ++ ((d.kid 1).take j).flatMap (tabsR f)).length + (tabsR f x).length) * 248 ≤ 140737488355328) := by show _ ≤ _; omega
          have hzz : Hid (B ≤ w3.heap.size) := by show _ ≤ _; have := hbw3.size; omega
          clear hown3 hsrc3 hxl3
          go_wp2_with (at_builtin; refine wpList_append_row _ rfl _ _ 24 rfl B 31 i0 _ 14 248 Try.underlying24 hi iz isz iby rfl (by decide) u3 _ _ rfl Hown.out A3 (tabsR f x).length cap3 ((tabsR f x).flatMap DT.c) rfl Hxl3.out Hsrc3.out Hon3.out h3.out h4.out hzz.out ?_; intro sv' w4 hown4 hg4 hm4)
          have Hst : Hid (TLoop B wm um ((d.kid 0).flatMap (tabsE f)) (d.kid 1) (tabsR f) sv' (.int .i64 ((j : Int) + 1)) w4) := TLoop.step Hx.out Hpf.out hbw3 hown4 hg4 hm4
          clear hown4 hg4 hm4
          go_roundw
          case rel => first | exact Hst.out | ((repeat apply Exists.intro); exact ⟨Hst.out, rfl⟩)
          case measure => simp [intOf]; omega
        · obtain rfl : j = sn := by omega
          rw [show (d.kid 1).take j = d.kid 1 by rw [← Hsn.out]; exact List.take_length] at ho
          have hbF : Below w.heap.size w wr := hb0.trans (((Hpf.out.belowD Hn.out hB2).trans (hpf.belowD Ho.out (by omega))).mono (by omega))
          go_wp2_with fail
          go_ret
          exact ⟨_, rfl, own_base ho (by omega), hbF⟩
end Go.Proofs.Ytoeamomklmoncaa
