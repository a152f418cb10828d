/-
  The reference's reads: what its loops keep; readsIn walked.
-/
import Derived.Test.YtlphgceejghfkaaRdK
import Derived.Test.YtlphgceejghfkaaRdF
namespace Go.Proofs.Ytlphgceejghfkaa
open Go.RowKit Go.Sort
/-- A row of slices of numbers of the call's own. -/
def OutInv (B : Nat) (w : World) (v : Value) (L : List (List Int)) : Prop := ∃ xs, w.ownsRow B 37 1 v L.length xs ∧ RR w xs L
def No (_ : Nat) : Prop := False
theorem OutInv.nil (B : Nat) (w : World) : OutInv B w (.slice none 0 0) [] := ⟨[], World.ownsRow_nil _ _ _ _, RR.nil _⟩
theorem OutInv.below {B : Nat} {w w' : World} {v : Value} {L : List (List Int)} (h : OutInv B w v L) (hb : Below w.heap.size w w') : OutInv B w' v L := by
  obtain ⟨xs, h3, h4⟩ := h
  exact ⟨xs, own_below h3 hb, h4.keep (KeepI.below hb)⟩
theorem PFr.keptO {B k : Nat} {w w' : World} {v v' : Value} {L : List (List Int)} {cs : Array Value} {t : TypeId} {fr : Nat × Nat} (hp : PFr No w v w' v') (h : OutInv B w v L) (hk : w.heap[k]? = some (.cells cs t fr)) (ht : t ≠ 37) : w'.heap[k]? = w.heap[k]? := by
  obtain ⟨xs, hv3, hv4⟩ := h
  exact hp.block k (Array.getElem?_eq_some_iff.1 hk).1 (fun e => e) (own_ne hv3 hk ht)
theorem PFr.lowO {B : Nat} {w w' : World} {v v' : Value} {L : List (List Int)} (hp : PFr No w v w' v') (h : OutInv B w v L) (hB : B ≤ w.heap.size) : ∀ k, k < B → w'.heap[k]? = w.heap[k]? := fun k hk => by
  obtain ⟨xs, hv3, hv4⟩ := h
  refine hp.block k (by omega) (fun e => e) (fun e => ?_)
  have := (hv3.lt k e.symm).1
  omega
theorem PFr.belowO {B : Nat} {w w' : World} {v v' : Value} {L : List (List Int)} (hp : PFr No w v w' v') (h : OutInv B w v L) (hB : B ≤ w.heap.size) : Below B w w' := ⟨hp.os, hp.tape, hp.output, hp.size, hp.lowO h hB⟩
theorem OutInv.step {B : Nat} {wr w2 w3 : World} {v v' : Value} {L M : List (List Int)} {xs ys : List Value} (h3 : wr.ownsRow B 37 1 v L.length xs) (h4 : RR wr xs L) (hb : Below wr.heap.size wr w2) (hM : RR w2 ys M) (hown : w3.ownsRow B 37 1 v' (L.length + M.length) (xs ++ ys)) (hg : w2.grownBy w3 v.ownBlock) (hm : Moved w2 v v') : OutInv B w3 v' (L ++ M) ∧ PFr No wr v w3 v' := by
  have k3 : KeepI w2 w3 := KeepI.grown (own_below h3 hb) (by decide) hg
  refine ⟨⟨xs ++ ys, by rw [List.length_append]; exact hown, (h4.keep ((KeepI.below hb).trans k3)).append (hM.keep k3)⟩, hg.os.trans hb.os, hg.tape.trans hb.tape, hg.output.trans hb.output, Nat.le_trans hb.size hg.size, fun k hk _ ho => (hg.block k (by have := hb.size; omega) ho).trans (hb.block k hk), ?_⟩
  rcases hm with hm | hm
  · exact .inl hm
  · exact .inr fun k hk => by have := hm k hk; have := hb.size; omega
/-- What a loop over parts has at its head. -/
def OLoop (B : Nat) (W1 : World) (v : Value) (L : List (List Int)) (l : List DT) (F : DT → List (List Int)) (sv i : Value) (wr : World) : Prop := ∃ j : Nat, j ≤ l.length ∧ i = .int .i64 j ∧ OutInv B wr sv (L ++ (l.take j).flatMap F) ∧ PFr No W1 v wr sv
theorem OLoop.start {B : Nat} {W1 : World} {v : Value} {L : List (List Int)} (h : OutInv B W1 v L) (l : List DT) (F : DT → List (List Int)) : OLoop B W1 v L l F v (.int .i64 0) W1 := ⟨0, Nat.zero_le _, rfl, by simpa using h, PFr.refl _ _ _⟩
theorem OLoop.step {B j : Nat} {W1 wr w2 w3 : World} {v v' v3 : Value} {L : List (List Int)} {l : List DT} {F : DT → List (List Int)} {x : DT} {xs ys : List Value} (hx : l[j]? = some x) (hp : PFr No W1 v wr v') (h3 : wr.ownsRow B 37 1 v' (L ++ (l.take j).flatMap F).length xs) (h4 : RR wr xs (L ++ (l.take j).flatMap F)) (hb : Below wr.heap.size wr w2) (hM : RR w2 ys (F x)) (hown : w3.ownsRow B 37 1 v3 ((L ++ (l.take j).flatMap F).length + (F x).length) (xs ++ ys)) (hg : w2.grownBy w3 v'.ownBlock) (hm : Moved w2 v' v3) : OLoop B W1 v L l F v3 (.int .i64 ((j : Int) + 1)) w3 := by
  obtain ⟨hi, hp3⟩ := OutInv.step h3 h4 hb hM hown hg hm
  refine ⟨j + 1, (List.getElem?_eq_some_iff.1 hx).1, by simp, ?_, hp.trans hp3⟩
  rw [List.take_add_one, hx, List.flatMap_append]
  simpa using hi
theorem len_takeF {F : DT → List (List Int)} {l : List DT} (j : Nat) {x : DT} (hx : l[j]? = some x) : ((l.take j).flatMap F).length + (F x).length ≤ (l.flatMap F).length := by
  have e : l.flatMap F = (l.take j).flatMap F ++ (F x ++ (l.drop (j + 1)).flatMap F) := by
    rw [← List.flatMap_cons, ← drop_of_get? hx, ← List.flatMap_append, List.take_append_drop]
  rw [e]
  simp only [List.length_append]
  omega
theorem DT.In.exprKids' {S : Nat → Prop} {w : World} {d : DT} (h : DT.In S w .expr d) :
    (∃ A cap, d.c[12]? = some (.slice A (d.kid 0).length cap) ∧ DRow S w 14 A cap (d.kid 0)) ∧ (∃ A cap, d.c[13]? = some (.slice A (d.kid 1).length cap) ∧ DRow S w 14 A cap (d.kid 1)) ∧ (∀ x, x ∈ d.kid 0 → DT.In S w .expr x) ∧ ∀ x, x ∈ d.kid 1 → DT.In S w .rel x := by
  obtain ⟨a, A, cap, az, B, bcap, ss, hd⟩ := h.expr
  obtain ⟨he, _, ra, rs, ia, is⟩ := hd
  subst he
  exact ⟨⟨A, cap, rfl, ra⟩, ⟨B, bcap, rfl, rs⟩, ia, is⟩
/-- What comes back. -/
def RdPost (L : List (List Int)) (w : World) (e : Ending) (w' : World) : Prop := ∃ (v : Value) (xs : List Value), e = .returned v ∧ w'.ownsRow w.heap.size 37 1 v L.length xs ∧ RR w' xs L ∧ Below w.heap.size w w'
def RQ (f : Nat) : Prop := ∀ (d : DT) (own : List Int) (A : Option Addr) (cap : Nat) (S : Nat → Prop) (w : World), DT.In S w .rel d → (∀ k, S k → k < w.heap.size) → IRow w A cap own → d.n ≤ f → Calls Try.prog 27 #[.agg d.c.toArray, .slice A own.length cap] w (RdPost (readsR f d own) w)
def RT (f : Nat) : Prop := ∀ (d : DT) (S : Nat → Prop) (w : World), DT.In S w .rel d → (∀ k, S k → k < w.heap.size) → d.n ≤ f → Calls Try.prog 9 #[.agg d.c.toArray] w (RdPost (readsR f d (upTo (dLen d 4))) w)
def RE (f : Nat) : Prop := ∀ (e : DT) (S : Nat → Prop) (w : World), DT.In S w .expr e → (∀ k, S k → k < w.heap.size) → e.n ≤ f → Calls Try.prog 44 #[.agg e.c.toArray] w (RdPost (readsE f e) w)
set_option maxRecDepth 100000 in
set_option maxHeartbeats 8000000 in
theorem readsIn_step (f : Nat) (hf : f + 1 ≤ 1048576) (hE : RE f) (hT : RT f) : RE (f + 1) := by
  obtain ⟨i0, hi, iz, isz, iby⟩ := info_parts infoInts
  intro d S w hd hS hn
  obtain ⟨⟨AA, acap, d12, ra⟩, ⟨SA, scap, d13, rs⟩, ia, is⟩ := hd.exprKids'
  have hk5 := kids5 d
  have hl1 := len_flat_n (f := readsE f) (l := d.kid 0) fun x => (reads_len f).2 x
  have hl2 := len_flat_n (f := fun r => readsR f r (upTo (dLen r 4))) (l := d.kid 1) fun x => (reads_len f).1 x _
  rw [readsE]
  obtain ⟨an, han⟩ : ∃ n, (d.kid 0).length = n := ⟨_, rfl⟩
  obtain ⟨sn, hsn⟩ : ∃ n, (d.kid 1).length = n := ⟨_, rfl⟩
  have han2 : an ≤ 1048576 := by have := len_nL (d.kid 0); omega
  have hsn2 : sn ≤ 1048576 := by have := len_nL (d.kid 1); omega
  rw [han] at d12
  rw [hsn] at d13
  obtain ⟨W0, hW0⟩ : ∃ W0, w.alloc (.cells d.c.toArray 56) = W0 := ⟨_, rfl⟩
  have hb0 : Below w.heap.size w W0 := by rw [← hW0]; exact bel1 _ _
  have e0 : W0.heap[w.heap.size]? = some (.cells d.c.toArray 56 (0, 0)) := by rw [← hW0]; exact heap_alloc_new w _
  have hz0 : W0.heap.size = w.heap.size + 1 := by rw [← hW0]; simp
  have c12 : W0.cell? ⟨w.heap.size, 12, none⟩ = some (.slice AA an acap) := by rw [cell_of_row _ _ 12 _ _ _ e0]; simpa using d12
  obtain ⟨B, hB⟩ : ∃ B, W0.heap.size = B := ⟨_, rfl⟩
  have hBB : B ≤ W0.heap.size := by omega
  have Hn : Hid (OutInv B W0 (.slice none 0 0) []) := OutInv.nil _ _
  have HSS : Hid (∀ wr v', PFr No W0 (.slice none 0 0) wr v' → ∀ k, S k → wr.heap[k]? = w.heap[k]?) := fun wr v' h k hk => (h.lowO Hn.out hBB k (by have := hS k hk; omega)).trans (hb0.block k (hS k hk))
  have Ha := Lib.hid ia
  have Hs := Lib.hid is
  have Hra := Lib.hid ra
  have Hrs := Lib.hid rs
  have HW0 := Lib.hid hW0
  have E0 := Lib.hid e0
  have HS : Hid (∀ k, S k → k < W0.heap.size) := fun k hk => by have := hS k hk; omega
  have D13 := Lib.hid d13
  have Han := Lib.hid han
  have Hsn := Lib.hid hsn
  clear hW0 e0 hS hd d12 d13 ia is ra rs han hsn
  go_enter Try.func44, Try.ntmps44
  go_upto_region 1 with (fail)
  rw [HW0.out]
  go_wp2_with fail
  go_loopw [3, 11] (fun sv i wr => OLoop B W0 (.slice none 0 0) [] (d.kid 0) (readsE f) sv i wr) (fun _ i _ => an - (intOf i).toNat)
  case atStart => exact OLoop.start Hn.out _ _
  case round =>
    obtain ⟨j, hj, rfl, ho, hpf⟩ := hrel
    have hz := hpf.size
    have hjn : j ≤ an := by rw [← Han.out]; exact hj
    by_cases hlt : j < an
    · obtain ⟨x, ad, hx, rfl, hbx, hat⟩ := (Hra.out.keep (HSS.out wr _ hpf) (fun _ h => h)).get (show j < (d.kid 0).length by rw [Han.out]; exact hlt)
      have hxi := (Ha.out x (mem_of_get? hx)).keep (HSS.out wr _ hpf) (fun _ h => h)
      have hx14 := hxi.len
      have HiE : Hid ((Try.prog.info? 56).map (·.size) = some x.c.length) := by show _ = _; rw [hx14]; exact sizeExpr
      have HiE2 : Hid ((Try.prog.info? 56).map (·.size) = some x.c.toArray.size) := by show _ = _; rw [List.size_toArray, hx14]; exact sizeExpr
      have Hz : Hid (x.c.toArray.size = 14) := by show _ = _; rw [List.size_toArray, hx14]; rfl
      have H1 := Lib.hid (all_one hxi.ones)
      have Hat := Lib.hid hat
      obtain ⟨W2, hW2⟩ : ∃ W2, wr.alloc (.cells x.c.toArray 56) = W2 := ⟨_, rfl⟩
      have Hcell : Hid (∀ j u, x.c[j]? = some u → W2.cell? ((⟨wr.heap.size, 0, none⟩ : Addr).add j) = some u) := by show ∀ j u, _ → _; rw [← hW2]; exact new_cells wr x.c 56
      have hbW2 : Below wr.heap.size wr W2 := by rw [← hW2]; exact bel1 _ _
      have hle := len_takeF (F := (readsE f)) j hx
      have hxn := n_mem (mem_of_get? hx)
      have hSw : ∀ k, S k → k < wr.heap.size := fun k hk => by have := HS.out k hk; omega
      have hxi2 := hxi.keep (fun k hk => hbW2.block k (hSw k hk)) (fun _ h => h)
      have hSw2 : ∀ k, S k → k < W2.heap.size := fun k hk => by have := hSw k hk; have := hbW2.size; omega
      have hlen3 : ([] ++ ((d.kid 0).take j).flatMap (readsE f)).length + (readsE f x).length ≤ 1048576 := by simp only [List.length_append, List.length_nil, List.length_cons]; omega
      have Hx := Lib.hid hx
      have HW2 := Lib.hid hW2
      have Hpf := Lib.hid hpf
      have Ho := Lib.hid ho
      clear hat hxi hx14 hx hW2 hpf hle ho
      go_upto_region 5 with (first | (refine wpList_load_st rfl 56 _ rfl _ Try.underlying56 rfl (ad.add (j * 14)) x.c HiE.out rfl Hat.out ?_) | (refine wpList_store_st rfl 56 _ _ rfl _ x.c.toArray HiE2.out Hz.out.symm H1.out rfl rfl ?_))
      rw [HW2.out]
      have Hbc := Lib.hid hbW2
      have Hcall : Hid (Calls Try.prog 44 #[.agg x.c.toArray] W2 (RdPost (readsE f x) W2)) := hE x S W2 hxi2 hSw2 (by omega)
      go_wp2_with (refine wpList_load_st rfl 56 _ rfl _ Try.underlying56 rfl ⟨wr.heap.size, 0, none⟩ x.c HiE.out rfl Hcell.out ?_)
      -- Hcall : Hid (Calls .. wc (RdPost M wc)); Hbc : Below wr.heap.size wr wc
      refine Hcall.out.mono ?_
      rintro e w3 ⟨v3, xs3, rfl, hown3, hrr3, hb3⟩
      obtain ⟨A3, cap3, rfl, hsrc3, _, _, hxl3⟩ := own_src hown3
      have Hsrc3 := Lib.hid hsrc3
      have Hxl3 := Lib.hid (show xs3.length = (readsE f x).length * 1 by rw [hxl3, Nat.mul_one])
      have Hon3 := Lib.hid hrr3.ones
      obtain ⟨xs, hown, hrr⟩ := Ho.out
      have hbw3 : Below wr.heap.size wr w3 := Hbc.out.trans (hb3.mono Hbc.out.size)
      have Hown := Lib.hid (own_below hown hbw3)
      have h3 : Hid (([] ++ ((d.kid 0).take j).flatMap (readsE f)).length + (readsE f x).length ≤ maxLen) := by show _ ≤ _; unfold maxLen; omega
      have h4 : Hid ((([] ++ ((d.kid 0).take j).flatMap (readsE f)).length + (readsE f x).length) * 24 ≤ 140737488355328) := by show _ ≤ _; omega
      have hzz : Hid (B ≤ w3.heap.size) := by show _ ≤ _; have := hbw3.size; omega
      have Hrr := Lib.hid hrr
      have Hrr3 := Lib.hid hrr3
      have Hown1 := Lib.hid hown
      clear hown hrr hown3 hsrc3 hxl3 hrr3
      go_wp2_with (at_builtin; refine wpList_append_row _ rfl _ _ 29 rfl B 37 i0 _ 1 24 Try.underlying29 hi iz isz iby rfl (by decide) u3 _ _ rfl Hown.out A3 (readsE f x).length cap3 xs3 rfl Hxl3.out Hsrc3.out Hon3.out h3.out h4.out hzz.out ?_; intro sv' w4 hown4 hg4 hm4)
      have Hst : Hid (OLoop B W0 (.slice none 0 0) [] (d.kid 0) (readsE f) sv' (.int .i64 ((j : Int) + 1)) w4) := OLoop.step Hx.out Hpf.out Hown1.out Hrr.out hbw3 Hrr3.out hown4 hg4 hm4
      clear hown4 hg4 hm4
      go_roundw
      case rel => first | exact Hst.out | ((repeat apply Exists.intro); exact ⟨Hst.out, rfl⟩)
      case measure => simp [intOf]; omega
    · obtain rfl : j = an := by omega
      rw [List.nil_append, show (d.kid 0).take j = d.kid 0 by rw [← Han.out]; exact List.take_length] at ho
      obtain ⟨wm, hwm⟩ : ∃ wm, wm = wr := ⟨_, rfl⟩
      subst hwm
      obtain ⟨um, hum⟩ : ∃ um, um = u3 := ⟨_, rfl⟩
      subst hum
      have em := (hpf.keptO Hn.out E0.out (by decide)).trans E0.out
      have c13 : wm.cell? ⟨w.heap.size, 13, none⟩ = some (.slice SA sn scap) := by rw [cell_of_row _ _ 13 _ _ _ em]; simpa using D13.out
      have HSS2 : Hid (∀ wr v'', PFr No wm um wr v'' → ∀ k, S k → wr.heap[k]? = w.heap[k]?) := fun wr v'' h k hk => (h.lowO ho (by omega) k (by have := HS.out k hk; omega)).trans (HSS.out wm um hpf k hk)
      have Ho := Lib.hid ho
      have Hpf := Lib.hid hpf
      have hzm := hz
      clear ho hpf em c12 hlt hz
      go_wp2_with fail
      go_loopw [3, 23] (fun sv i wr => OLoop B wm um ((d.kid 0).flatMap (readsE f)) (d.kid 1) (fun r => readsR f r (upTo (dLen r 4))) sv i wr) (fun _ i _ => sn - (intOf i).toNat)
      case atStart => exact OLoop.start Ho.out _ _
      case round =>
        obtain ⟨j, hj, rfl, ho, hpf⟩ := hrel
        have hz := hpf.size
        have hjn : j ≤ sn := by rw [← Hsn.out]; exact hj
        by_cases hlt : j < sn
        · obtain ⟨x, ad, hx, rfl, hbx, hat⟩ := (Hrs.out.keep (HSS2.out wr _ hpf) (fun _ h => h)).get (show j < (d.kid 1).length by rw [Hsn.out]; exact hlt)
          have hxi := (Hs.out x (mem_of_get? hx)).keep (HSS2.out wr _ hpf) (fun _ h => h)
          have hx14 := hxi.len
          have HiE : Hid ((Try.prog.info? 34).map (·.size) = some x.c.length) := by show _ = _; rw [hx14]; exact sizeRel
          have HiE2 : Hid ((Try.prog.info? 34).map (·.size) = some x.c.toArray.size) := by show _ = _; rw [List.size_toArray, hx14]; exact sizeRel
          have Hz : Hid (x.c.toArray.size = 14) := by show _ = _; rw [List.size_toArray, hx14]; rfl
          have H1 := Lib.hid (all_one hxi.ones)
          have Hat := Lib.hid hat
          obtain ⟨W2, hW2⟩ : ∃ W2, wr.alloc (.cells x.c.toArray 34) = W2 := ⟨_, rfl⟩
          have Hcell : Hid (∀ j u, x.c[j]? = some u → W2.cell? ((⟨wr.heap.size, 0, none⟩ : Addr).add j) = some u) := by show ∀ j u, _ → _; rw [← hW2]; exact new_cells wr x.c 34
          have hbW2 : Below wr.heap.size wr W2 := by rw [← hW2]; exact bel1 _ _
          have hle := len_takeF (F := (fun r => readsR f r (upTo (dLen r 4)))) j hx
          have hxn := n_mem (mem_of_get? hx)
          have hSw : ∀ k, S k → k < wr.heap.size := fun k hk => by have := HS.out k hk; omega
          have hxi2 := hxi.keep (fun k hk => hbW2.block k (hSw k hk)) (fun _ h => h)
          have hSw2 : ∀ k, S k → k < W2.heap.size := fun k hk => by have := hSw k hk; have := hbW2.size; omega
          have hlen3 : (((d.kid 0).flatMap (readsE f)) ++ ((d.kid 1).take j).flatMap (fun r => readsR f r (upTo (dLen r 4)))).length + (readsR f x (upTo (dLen x 4))).length ≤ 1048576 := by simp only [List.length_append, List.length_nil, List.length_cons]; omega
          have Hx := Lib.hid hx
          have HW2 := Lib.hid hW2
          have Hpf := Lib.hid hpf
          have Ho := Lib.hid ho
          clear hat hxi hx14 hx hW2 hpf hle ho
          go_upto_region 10 with (first | (refine wpList_load_st rfl 34 _ rfl _ Try.underlying34 rfl (ad.add (j * 14)) x.c HiE.out rfl Hat.out ?_) | (refine wpList_store_st rfl 34 _ _ rfl _ x.c.toArray HiE2.out Hz.out.symm H1.out rfl rfl ?_))
          rw [HW2.out]
          have Hbc := Lib.hid hbW2
          have Hcall : Hid (Calls Try.prog 9 #[.agg x.c.toArray] W2 (RdPost (readsR f x (upTo (dLen x 4))) W2)) := hT x S W2 hxi2 hSw2 (by omega)
          go_wp2_with (refine wpList_load_st rfl 34 _ rfl _ Try.underlying34 rfl ⟨wr.heap.size, 0, none⟩ x.c HiE.out rfl Hcell.out ?_)
          -- Hcall : Hid (Calls .. wc (RdPost M wc)); Hbc : Below wr.heap.size wr wc
          refine Hcall.out.mono ?_
          rintro e w3 ⟨v3, xs3, rfl, hown3, hrr3, hb3⟩
          obtain ⟨A3, cap3, rfl, hsrc3, _, _, hxl3⟩ := own_src hown3
          have Hsrc3 := Lib.hid hsrc3
          have Hxl3 := Lib.hid (show xs3.length = (readsR f x (upTo (dLen x 4))).length * 1 by rw [hxl3, Nat.mul_one])
          have Hon3 := Lib.hid hrr3.ones
          obtain ⟨xs, hown, hrr⟩ := Ho.out
          have hbw3 : Below wr.heap.size wr w3 := Hbc.out.trans (hb3.mono Hbc.out.size)
          have Hown := Lib.hid (own_below hown hbw3)
          have h3 : Hid ((((d.kid 0).flatMap (readsE f)) ++ ((d.kid 1).take j).flatMap (fun r => readsR f r (upTo (dLen r 4)))).length + (readsR f x (upTo (dLen x 4))).length ≤ maxLen) := by show _ ≤ _; unfold maxLen; omega
          have h4 : Hid (((((d.kid 0).flatMap (readsE f)) ++ ((d.kid 1).take j).flatMap (fun r => readsR f r (upTo (dLen r 4)))).length + (readsR f x (upTo (dLen x 4))).length) * 24 ≤ 140737488355328) := by show _ ≤ _; omega
          have hzz : Hid (B ≤ w3.heap.size) := by show _ ≤ _; have := hbw3.size; omega
          have Hrr := Lib.hid hrr
          have Hrr3 := Lib.hid hrr3
          have Hown1 := Lib.hid hown
          clear hown hrr hown3 hsrc3 hxl3 hrr3
          go_wp2_with (at_builtin; refine wpList_append_row _ rfl _ _ 29 rfl B 37 i0 _ 1 24 Try.underlying29 hi iz isz iby rfl (by decide) u3 _ _ rfl Hown.out A3 (readsR f x (upTo (dLen x 4))).length cap3 xs3 rfl Hxl3.out Hsrc3.out Hon3.out h3.out h4.out hzz.out ?_; intro sv' w4 hown4 hg4 hm4)
          have Hst : Hid (OLoop B wm um ((d.kid 0).flatMap (readsE f)) (d.kid 1) (fun r => readsR f r (upTo (dLen r 4))) sv' (.int .i64 ((j : Int) + 1)) w4) := OLoop.step Hx.out Hpf.out Hown1.out Hrr.out hbw3 Hrr3.out hown4 hg4 hm4
          clear hown4 hg4 hm4
          go_roundw
          case rel => first | exact Hst.out | ((repeat apply Exists.intro); exact ⟨Hst.out, rfl⟩)
          case measure => simp [intOf]; omega
        · obtain rfl : j = sn := by omega
          rw [show (d.kid 1).take j = d.kid 1 by rw [← Hsn.out]; exact List.take_length] at ho
          have hbF : Below w.heap.size w wr := hb0.trans (((Hpf.out.belowO Hn.out hBB).trans (hpf.belowO Ho.out (by omega))).mono (by omega))
          go_wp2_with fail
          go_ret
          obtain ⟨xs, hown, hrr⟩ := ho
          exact ⟨_, xs, rfl, own_base hown (by omega), hrr, hbF⟩
end Go.Proofs.Ytlphgceejghfkaa
