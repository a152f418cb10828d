/-
  The closures of Reads; slices.ContainsFunc, list at them.
-/
import Derived.Test.YtlphgceejghfkaaRdB
namespace Go.Proofs.Ytlphgceejghfkaa
open Go.RowKit Go.Sort
/-- The cells of an expression that are looked at. -/
theorem DT.In.exprCells {S : Nat → Prop} {w : World} {d : DT} (h : DT.In S w .expr d) : I64 (dInt d 0) ∧ I64 (dInt d 2) ∧ I64 (dInt d 3) ∧ d.c[0]? = some (.int .i64 (dInt d 0)) ∧ d.c[2]? = some (.int .i64 (dInt d 2)) ∧ d.c[3]? = some (.int .i64 (dInt d 3)) := by
  obtain ⟨a, A, cap, az, B, bcap, ss, hd⟩ := h.expr
  obtain ⟨he, ok, _⟩ := hd
  subst he
  exact ⟨ok.1, ok.2.2.1, ok.2.2.2, rfl, rfl, rfl⟩
theorem sizeRel : (Try.prog.info? 34).map (·.size) = some Ty.rel.sz := by kernel_rfl
/-- A cell of a new block. -/
theorem new_cell (w : World) (cs : List Value) (t : TypeId) (j : Nat) {u : Value} (h : cs[j]? = some u) : (w.alloc (.cells cs.toArray t)).cell? ⟨w.heap.size, j, none⟩ = some u := by
  rw [cell_of_row _ _ j _ t (0, 0) (heap_alloc_new w _)]
  simpa using h
set_option maxRecDepth 100000 in
set_option maxHeartbeats 1000000 in
theorem own1_any (d : DT) (S : Nat → Prop) (w : World) (hd : DT.In S w .expr d) : Calls Try.prog 20 #[.agg d.c.toArray] w fun e w' => e = .returned (.bool (!colE d)) ∧ Below w.heap.size w w' := by
  obtain ⟨b0, b2, _, c0, c2, _⟩ := hd.exprCells
  have p0 := new_cell w d.c 56 0 c0
  have p2 := new_cell w d.c 56 2 c2
  have hb := bel1 w (.cells d.c.toArray 56)
  obtain ⟨k, hk⟩ : ∃ k, dInt d 0 = k := ⟨_, rfl⟩
  obtain ⟨u, hu⟩ : ∃ u, dInt d 2 = u := ⟨_, rfl⟩
  have hres : Hid (colE d = (k == 2 && u == 0)) := by show _ = _; unfold colE; rw [hk, hu]
  rw [hk] at p0
  rw [hu] at p2
  clear hd c0 c2 hk hu b0 b2
  by_cases h2 : k = 2
  · subst h2
    go_enter Try.func20, Try.ntmps20
    go_wp2
    go_ret
    exact ⟨by rw [hres.out]; simp; rfl, hb⟩
  · have h2' : (k == 2) = false := by simpa using h2
    go_enter Try.func20, Try.ntmps20
    go_wp2
    go_ret
    exact ⟨by rw [hres.out, h2']; simp, hb⟩
set_option maxRecDepth 100000 in
set_option maxHeartbeats 1000000 in
theorem at1_any (d : DT) (S : Nat → Prop) (w : World) (hd : DT.In S w .expr d) : Calls Try.prog 24 #[.agg d.c.toArray] w fun e w' => e = .returned (.int .i64 (dInt d 3)) ∧ Below w.heap.size w w' := by
  obtain ⟨_, _, _, _, _, c3⟩ := hd.exprCells
  have p3 := new_cell w d.c 56 3 c3
  have hb := bel1 w (.cells d.c.toArray 56)
  clear hd c3
  go_enter Try.func24, Try.ntmps24
  go_wp2
  go_ret
  exact ⟨rfl, hb⟩
/-- What the loop of list has at its head. -/
def AtRel (es : List DT) (w : World) (sv i : Value) (wr : World) : Prop := ∃ j : Nat, j ≤ es.length ∧ i = .int .i64 j ∧ wr.ownsRow w.heap.size 3 1 sv j (((es.take j).map fun e => dInt e 3).map (Value.int .i64)) ∧ Below w.heap.size w wr
set_option maxRecDepth 100000 in
set_option maxHeartbeats 2000000 in
theorem listAt_any (es : List DT) (A : Option Addr) (cap : Nat) (S : Nat → Prop) (w : World) (hr : DRow S w 14 A cap es) (hi' : ∀ x, x ∈ es → DT.In S w .expr x) (hS : ∀ k, S k → k < w.heap.size) (hn : es.length ≤ 1048576) :
    Calls Try.prog 23 #[.slice A es.length cap, .func (.func 24) #[] #[]] w (IPost w.heap.size (es.map fun e => dInt e 3) w) := by
  obtain ⟨i0, hi, iz, isz, iby⟩ := info_parts infoInt
  have Hzero : Hid (AtRel es w (.slice none 0 0) (.int .i64 0) w) := ⟨0, Nat.zero_le _, rfl, World.ownsRow_nil _ _ _ _, Below.refl _ _⟩
  have Hr := Lib.hid hr
  have Hi := Lib.hid hi'
  have HS := Lib.hid hS
  clear hr hi' hS
  go_enter Try.func23, Try.ntmps23
  go_wp2
  go_loopw [5, 10] (fun sv i wr => AtRel es w sv i wr) (fun _ i _ => es.length - (intOf i).toNat)
  case atStart => exact Hzero.out
  case round =>
    obtain ⟨j, hj, rfl, hown, hb⟩ := hrel
    have hzr := hb.size
    by_cases hlt : j < es.length
    · obtain ⟨x, ad, hx, rfl, hbx, hat⟩ := (Hr.out.keep (fun k hk => hb.block k (HS.out k hk)) (fun _ h => h)).get hlt
      have hxi := Hi.out x (mem_of_get? hx)
      have hx14 := hxi.len
      have HiE : Hid ((Try.prog.info? 56).map (·.size) = some x.c.length) := by show _ = _; rw [hx14]; exact sizeExpr
      have HiE2 : Hid ((Try.prog.info? 56).map (·.size) = some x.c.toArray.size) := by show _ = _; rw [List.size_toArray, hx14]; exact sizeExpr
      have Hz : Hid (x.c.toArray.size = 14) := by show _ = _; rw [List.size_toArray, hx14]; rfl
      have H1 := Lib.hid (all_one hxi.ones)
      have Hat := Lib.hid hat
      obtain ⟨W1, hW1⟩ : ∃ W1, wr.alloc (.cells x.c.toArray 56) = W1 := ⟨_, rfl⟩
      have Hcell : Hid (∀ j u, x.c[j]? = some u → W1.cell? ((⟨wr.heap.size, 0, none⟩ : Addr).add j) = some u) := by show ∀ j u, _ → _; rw [← hW1]; exact new_cells wr x.c 56
      have hbW1 : Below wr.heap.size wr W1 := by rw [← hW1]; exact bel1 _ _
      have hb1 : Below w.heap.size w W1 := hb.trans (hbW1.mono hzr)
      have Hc : Hid (Calls Try.prog 24 #[.agg x.c.toArray] W1 fun e w' => e = .returned (.int .i64 (dInt x 3)) ∧ Below W1.heap.size W1 w') := at1_any x S W1 (hxi.keep (fun k hk => hb1.block k (HS.out k hk)) (fun _ h => h))
      have h3 : Hid (j + 1 ≤ maxLen) := by show _ ≤ _; unfold maxLen; omega
      have h4 : Hid ((j + 1) * 8 ≤ 140737488355328) := by show _ ≤ _; omega
      have Hown := Lib.hid hown
      have Hx := Lib.hid hx
      have HW1 := Lib.hid hW1
      clear hown hat hxi hx14 hx hW1
      go_upto_region 5 with (first | (refine wpList_load_st rfl 56 _ rfl _ Try.underlying56 rfl (ad.add (j * 14)) x.c HiE.out rfl Hat.out ?_) | (refine wpList_store_st rfl 56 _ _ rfl _ x.c.toArray HiE2.out Hz.out.symm H1.out rfl rfl ?_))
      rw [HW1.out]
      go_wp2_with (first | (refine wpList_load_st rfl 56 _ rfl _ Try.underlying56 rfl ⟨wr.heap.size, 0, none⟩ x.c HiE.out rfl Hcell.out ?_) | (go_at_call 24; refine Hc.out.mono ?_; rintro e w2 ⟨rfl, hb2⟩; have hz2 : Hid (∀ o, w.heap.size ≤ (w2.alloc o).heap.size) := (fun o => by have := hb1.size; have := hb2.size; simp; omega); have Ho2 := Lib.hid (own_below (own_below Hown.out hbW1) hb2)) | (at_builtin; refine wpList_append_row _ rfl _ _ 37 rfl w.heap.size 3 i0 _ 1 8 Try.underlying37 hi iz isz iby rfl (by decide) u5 _ _ rfl (Ho2.out.alloc _) (some ⟨w2.heap.size, 0, none⟩) 1 1 [.int .i64 (dInt x 3)] rfl rfl (new_src _ _ _) (by simp [Value.oneCell']) h3.out h4.out (hz2.out _) ?_; intro sv6 w6 hown6 hg6 hm6))
      have Hst : Hid (AtRel es w sv6 (.int .i64 ((j : Int) + 1)) w6) := ⟨j + 1, by omega, by simp, by rw [List.take_add_one, Hx.out]; simpa using hown6, ((hb1.trans (hb2.mono hb1.size)).trans ((bel1 _ _).mono (by have := hb1.size; have := hb2.size; omega))).grown hg6 (hz2.out _) (fun q hq => (Hown.out.lt q hq).1)⟩
      clear hown6
      go_roundw
      case rel => exact Hst.out
      case measure => simp [intOf]; omega
    · obtain rfl : j = es.length := by omega
      rw [List.take_length] at hown
      obtain ⟨A1, cap1, rfl, _, hc1, hc2, _⟩ := own_src hown
      have H1 := Lib.hid (IOwn.of_own hown).clip
      have hcl : Hid (∀ w', Calls Try.prog 38 #[.slice A1 es.length cap1] w' fun e w'' => e = .returned (.slice A1 es.length es.length) ∧ w'' = w') := fun w' => clipI_any A1 _ cap1 w' hc1 (by unfold maxLen at hc2; exact hc2)
      clear hown
      go_wp2_with (go_at_call 38; refine (hcl.out _).mono ?_; rintro e w3 ⟨rfl, rfl⟩)
      go_ret
      refine ⟨A1, es.length, ?_, ?_, hb⟩
      · rw [List.length_map]; rfl
      · have h := H1.out; rw [List.length_map] at h; exact h
end Go.Proofs.Ytlphgceejghfkaa
