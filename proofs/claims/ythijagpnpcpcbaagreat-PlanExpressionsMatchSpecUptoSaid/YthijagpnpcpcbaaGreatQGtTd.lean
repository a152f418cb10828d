/-
  A slice of two structs is made.
  plan.math, plan.truth and what they call.
  plan.truth and what it calls.
-/
import Derived.Test.YthijagpnpcpcbaaGreatQGtB
import Derived.Test.YthijagpnpcpcbaaGreatQGtTb
namespace Go.Proofs.YthijagpnpcpcbaaGreat
open Go.RowKit
theorem fold_at (o : Nat) (cs : List Value) : ∀ (k : Nat) (z : Array Value), o + k + cs.length ≤ z.size → (cs.zipIdx k).foldl (fun z (c, j) => z.setIfInBounds (o + j) c) z = (z.toList.take (o + k) ++ cs ++ z.toList.drop (o + k + cs.length)).toArray := by
  induction cs with
  | nil =>
    intro k z hz
    simp
  | cons c cs ih =>
    intro k z hz
    simp only [List.zipIdx_cons, List.foldl_cons]
    simp only [List.length_cons] at hz
    rw [ih (k + 1) _ (by simp; omega)]
    congr 1
    have hk : o + k < z.toList.length := by simp; omega
    rw [Array.toList_setIfInBounds, show o + (k + 1) = (o + k) + 1 by omega, List.take_add_one, List.take_set_of_le (Nat.le_refl _), List.getElem?_set_self hk, List.drop_set_of_lt (by omega)]
    simp only [Option.toList_some, List.append_assoc, List.length_cons, List.cons_append, List.nil_append]
    rw [show o + k + 1 + cs.length = o + k + (cs.length + 1) by omega]
section
variable {P : Program}
/-- A slice of two structs is made. -/
theorem wpList_two_st {ops : Array Oper} {rest : List Oper} {o : Oper} {a : Act} {w : World} {Q : Exit → Act → World → Prop} (hgd : o.guard = none) (t e : TypeId) (x y : Operand) (ho : o.op = .buildSlice t 2 #[(0, x), (1, y)])
    (i : TypeInfo) (ht : P.underlying t = some (.slice e)) (hi : P.info? e = some i) (z : Value) (hz : i.zero = some z) (cs ds : Array Value) (hs : i.size = cs.size) (hds : ds.size = cs.size) (hzs : z.cells.size = cs.size) (h0 : 0 < cs.size) (hb : cs.size ≤ 1048576) (hx : a.eval x = .agg cs) (hy : a.eval y = .agg ds)
    (h : wpList P ops Q rest (a.put o.dst (.slice (some ⟨w.heap.size, 0, none⟩) 2 2)) (w.alloc (.cells (cs ++ ds) e))) : wpList P ops Q (o :: rest) a w :=
  wpList_plain hgd fun _ hK => by
    have hne : ¬ cs.size = 0 := by omega
    have hnb : ¬ (2 ^ 24 < 2 * cs.size) := by omega
    have hn0 : ¬ 2 * cs.size = 0 := by omega
    have hlt : ¬ 2 * cs.size < cs.size := by omega
    have hcc : (Value.agg cs).cells = cs := rfl
    have hcd : (Value.agg ds).cells = ds := rfl
    have hl : ds.size = ds.toList.length := by simp
    have g1 : cs.zipIdx.foldl (fun cs' (c, j) => cs'.setIfInBounds (0 + j) c) ((Array.range (2 * cs.size)).map (z.cells[· % z.cells.size]!)) = (cs.toList ++ (((Array.range (2 * cs.size)).map (z.cells[· % z.cells.size]!)).toList.drop cs.size)).toArray := by
      rw [← Array.foldl_toList, Array.toList_zipIdx, fold_at 0 cs.toList 0 _ (by simp; omega)]
      simp
    have g2 : ds.zipIdx.foldl (fun cs' (c, j) => cs'.setIfInBounds (cs.size + j) c) ((cs.toList ++ (((Array.range (2 * cs.size)).map (z.cells[· % z.cells.size]!)).toList.drop cs.size)).toArray) = cs ++ ds := by
      rw [← Array.foldl_toList, Array.toList_zipIdx, fold_at cs.size ds.toList 0 _ (by simp; omega)]
      simp
      omega
    have g3 : ¬ ((cs.toList ++ (((Array.range (2 * cs.size)).map (z.cells[· % z.cells.size]!)).toList.drop cs.size)).toArray).size < cs.size + ds.size := by simp; omega
    obtain ⟨B0, hB0⟩ : ∃ B0, (cs.toList ++ (((Array.range (2 * cs.size)).map (z.cells[· % z.cells.size]!)).toList.drop cs.size)).toArray = B0 := ⟨_, rfl⟩
    rw [hB0] at g1 g2 g3
    clear hB0
    have g4 : ¬ B0.size < cs.size + cs.size := by omega
    have hr : (Instr.buildSlice t 2 #[(0, .agg cs), (1, .agg ds)]).run P w = .ok (.slice (some ⟨w.heap.size, 0, none⟩) 2 2) (w.alloc (.cells (cs ++ ds) e)) := by
      simp [Instr.buildSlice, Sem.run_bind, run_underlying ht, sizeOf, typeInfo, hi, hs, hnb, zeroValue, hz, Instr.fill, hcc, hcd, newRow, Result.andThen, hn0, hlt, hds]
      simp at g1
      simp [hds] at g2
      rw [g1, if_neg g4, g2]
      first | rfl | (simp [Result.andThen]; done) | (show Sem.run P ((fun a => Value.slice (some { block := a, off := 0 }) 2 2) <$> newObj _) w = _; simp [newObj, Result.andThen])

    unfold Oper.wp execOp
    simp only [ho, Sem.run_bind]
    simp [hx, hy, hr, Result.andThen]
    exact hK _ _ h
end
end Go.Proofs.YthijagpnpcpcbaaGreat
namespace Go.Proofs.YthijagpnpcpcbaaGreat
open Go.RowKit Go.Sort
/-- A conjunction of two, the constant true: where their parts lie aside. -/
def andT (x y : DT) : DT := .node [.int .i64 3, .int .i64 6, .int .i64 0, .int .i64 0, .int .i64 0, .int .i64 0, .slice none 0 0, .int .i64 0, .int .i64 0, .int .i64 0, .string ⟨#[]⟩, .slice none 0 0, .slice none 0 0, .slice none 0 0] [[], [], [x, y], []]
def yesT : DT := .node [.int .i64 1, .int .i64 0, .int .i64 0, .int .i64 0, .int .i64 1, .int .i64 0, .slice none 0 0, .int .i64 1, .int .i64 1, .int .i64 0, .string ⟨#[]⟩, .slice none 0 0, .slice none 0 0, .slice none 0 0] [[], [], [], []]
theorem USL.two {t : Uy} {x y x' y' : DT} (h1 : USm t x x') (h2 : USm t y y') : USL t [x, y] [x', y'] := ⟨rfl, fun i a b ha hb => by
  match i with
  | 0 => simp at ha hb; subst ha hb; exact h1
  | 1 => simp at ha hb; subst ha hb; exact h2
  | i + 2 => simp at ha⟩
theorem andT_sm {x y x' y' : DT} {c : List Value} (hc : (c.take 12).length = 12 ∧ c.length = 14) (he : ∀ j, j ≠ 6 → j ≠ 11 → j ≠ 12 → j ≠ 13 → (andT x y).c[j]? = c[j]?) (h1 : USm .expr x x') (h2 : USm .expr y y') : USm .expr (andT x y) (.node c [[], [], [x', y'], []]) :=
  USm.mkK (by rw [hc.2]; rfl) (fun j hj => he j (fun e => hj .field (by subst e; simp [Uy.sl])) (fun e => hj .value (by subst e; simp [Uy.sl])) (fun e => hj .expr (by subst e; simp [Uy.sl])) (fun e => hj .rel (by subst e; simp [Uy.sl]))) ⟨USL.nil _, USL.nil _, USL.two h1 h2, USL.nil _, trivial⟩
theorem andT_congr {x y x' y' : DT} (h1 : USm .expr x x') (h2 : USm .expr y y') : USm .expr (andT x y) (andT x' y') := andT_sm ⟨rfl, rfl⟩ (fun _j _ _ _ _ => rfl) h1 h2
theorem nil_row (S : Nat → Prop) (w : World) (sz cap : Nat) (A : Option Addr) (hc : cap ≤ maxLen) : DRow S w sz A cap [] := ⟨Nat.zero_le _, hc, fun i x h => by simp at h⟩
/-- An expression that is the same as another. -/
def ExOne (S : Nat → Prop) (x : DT) (w : World) (e : Ending) (w' : World) : Prop := ∃ y : DT, e = .returned (.agg y.c.toArray) ∧ Below w.heap.size w w' ∧ UIn (fun k => S k ∨ (w.heap.size ≤ k ∧ k < w'.heap.size)) w' .expr y ∧ USm .expr x y ∧ y.n = x.n
/-- One without slices. -/
def ExNil (x : DT) (w : World) (e : Ending) (w' : World) : Prop := ∃ y : DT, e = .returned (.agg y.c.toArray) ∧ Below w.heap.size w w' ∧ (∀ S, UIn S w' .expr y) ∧ USm .expr x y ∧ y.n = x.n
theorem Wrt.below {w w' : World} {b n : Nat} {cs : List Value} {t : TypeId} (hw : Wrt w b cs t w') (hb : n ≤ b) : Below n w w' := ⟨hw.os, hw.tape, hw.output, by rw [hw.size]; exact Nat.le_refl _, fun k hk => hw.block k (by omega)⟩
theorem belTr {n : Nat} {w w' w'' : World} (h : Below n w w') (h' : Below n w' w'') : Below n w w'' := ⟨h'.os.trans h.os, h'.tape.trans h.tape, h'.output.trans h.output, Nat.le_trans h.size h'.size, fun k hk => (h'.block k hk).trans (h.block k hk)⟩
theorem belLo {n m : Nat} {w w' : World} (h : Below n w w') (hm : m ≤ n) : Below m w w' := ⟨h.os, h.tape, h.output, h.size, fun k hk => h.block k (by omega)⟩
set_option maxRecDepth 100000 in
set_option maxHeartbeats 4000000 in
theorem math_any (S : Nat → Prop) (x y : DT) (w : World) (hS : ∀ k, S k → k < w.heap.size) (hx : UIn S w .expr x) (hy : UIn S w .expr y) : Calls Tryz.prog 49 #[.int .i64 6, .agg x.c.toArray, .agg y.c.toArray] w (ExOne S (andT x y) w) := by
  obtain ⟨i0, hi, hrest⟩ := Option.map_eq_some_iff.1 infoExp_u
  simp only [Prod.mk.injEq] at hrest
  obtain ⟨hz0, isz, iby⟩ := hrest
  obtain ⟨z, iz, hzs⟩ := Option.map_eq_some_iff.1 hz0
  obtain ⟨w1, hw1⟩ : ∃ w1, w.alloc (.cells x.c.toArray 31) = w1 := ⟨_, rfl⟩
  obtain ⟨w2, hw2⟩ : ∃ w2, w1.alloc (.cells y.c.toArray 31) = w2 := ⟨_, rfl⟩
  obtain ⟨w3, hw3⟩ : ∃ w3, w2.alloc (.cells #[.int .i64 0, .int .i64 0, .int .i64 0, .int .i64 0, .int .i64 0, .int .i64 0, .slice none 0 0, .int .i64 0, .int .i64 0, .int .i64 0, .string ⟨#[]⟩, .slice none 0 0, .slice none 0 0, .slice none 0 0] 31) = w3 := ⟨_, rfl⟩
  obtain ⟨w4, hw4⟩ : ∃ w4, w3.alloc (.cells (x.c.toArray ++ y.c.toArray) 31) = w4 := ⟨_, rfl⟩
  have hz1 : w1.heap.size = w.heap.size + 1 := by rw [← hw1]; simp
  have hz2 : w2.heap.size = w.heap.size + 2 := by rw [← hw2]; simp [hz1]
  have hz3 : w3.heap.size = w.heap.size + 3 := by rw [← hw3]; simp [hz2]
  have hz4 : w4.heap.size = w.heap.size + 4 := by rw [← hw4]; simp [hz3]
  have k1 : Hid (Bk w3 w.heap.size x.c 31) := by show Bk _ _ _ _; rw [← hw3, ← hw2, ← hw1]; exact ((Bk.new w x.c _).alloc _).alloc _
  have k2 : Hid (Bk w3 (w.heap.size + 1) y.c 31) := by show Bk _ _ _ _; rw [← hw3, ← hw2, ← hz1]; exact (Bk.new w1 y.c _).alloc _
  have k3 : Hid (Bk w4 (w.heap.size + 2) zEx 31) := by show Bk _ _ _ _; rw [← hw4, ← hw3, ← hz2]; exact (Bk.new w2 zEx _).alloc _
  have k4 : Hid (Bk w4 (w.heap.size + 3) (x.c ++ y.c) 31) := by show Bk _ _ _ _; rw [← hw4, ← hz3]; have := Bk.new w3 (x.c ++ y.c) 31; simpa using this
  have hbw : Hid (Below w.heap.size w w4) := by show Below _ _ _; rw [← hw4, ← hw3, ← hw2, ← hw1]; exact ((((Below.refl _ _).alloc (Nat.le_refl _) _).alloc (by simp) _).alloc (by simp; omega) _).alloc (by simp; omega) _
  have Hix : Hid ((Tryz.prog.info? 31).map (·.size) = some x.c.length) := by show _ = _; rw [hx.len]; exact uClExpr1
  have Hiy : Hid ((Tryz.prog.info? 31).map (·.size) = some y.c.length) := by show _ = _; rw [hy.len]; exact uClExpr1
  have X14 : Hid (x.c.toArray.size = 14) := by show _ = _; rw [List.size_toArray, hx.len]; rfl
  have Y14 : Hid (y.c.toArray.size = 14) := by show _ = _; rw [List.size_toArray, hy.len]; rfl
  have Hi := Lib.hid uClExpr1
  have Hx := Lib.hid hx
  have Hy := Lib.hid hy
  clear hx hy
  go_enter Tryz.func49, Tryz.ntmps49
  go_wp2_with (first
    | (refine wpList_load_part rfl 31 _ rfl _ Tryz.underlying31 rfl _ _ _ _ x.c rfl k1.out Hix.out (by rw [List.drop_zero, List.take_length]) ?_)
    | (refine wpList_load_part rfl 31 _ rfl _ Tryz.underlying31 rfl _ _ _ _ y.c rfl k2.out Hiy.out (by rw [List.drop_zero, List.take_length]) ?_)
    | (refine wpList_two_st rfl 28 31 _ _ rfl i0 Tryz.underlying28 hi _ iz x.c.toArray y.c.toArray (isz.trans X14.out.symm) (Y14.out.trans X14.out.symm) (hzs.trans X14.out.symm) (by rw [X14.out]; decide) (by rw [X14.out]; decide) rfl rfl ?_; rw [hw4])
    | (refine wpList_store_blk rfl 31 _ _ rfl _ 0 _ _ [.int .i64 3, .int .i64 6, .int .i64 0, .int .i64 0, .int .i64 0, .int .i64 0, .slice none 0 0, .int .i64 0, .int .i64 0, .int .i64 0, .string ⟨#[]⟩, .slice none 0 0, .slice (some ⟨w.heap.size + 3, 0, none⟩) 2 2, .slice none 0 0] rfl rfl k3.out Hi.out (by simp [zEx]) rfl ?_; intro w5 hw5))
  refine bodyPost_blk rfl (w.heap.size + 2) [.int .i64 3, .int .i64 6, .int .i64 0, .int .i64 0, .int .i64 0, .int .i64 0, .slice none 0 0, .int .i64 0, .int .i64 0, .int .i64 0, .string ⟨#[]⟩, .slice none 0 0, .slice (some ⟨w.heap.size + 3, 0, none⟩) 2 2, .slice none 0 0] _ rfl _ hw5.bk Tryz.underlying31 rfl Hi.out rfl ?_
  have hsz := hw5.size
  have b5 : Below w.heap.size w w5 := belTr hbw.out (hw5.below (by omega))
  have ho3 : w4.ownsRow w3.heap.size 31 14 (.slice (some ⟨w3.heap.size, 0, none⟩) 2 2) 2 ([x, y].flatMap DT.c) := by
    have := World.ownsRow_lit (base := w3.heap.size) (e := 31) (size := 14) w3 (x.c.toArray ++ y.c.toArray) 2 (Nat.le_refl _) (by unfold maxLen; omega) (by rw [Array.size_append, X14.out, Y14.out])
    rw [hw4] at this
    simpa using this
  obtain ⟨A5, c5, he5, hr5, _⟩ := own_structs ho3 rfl (fun u hu => by
    simp at hu
    rcases hu with rfl | rfl
    · exact Hx.out.len
    · exact Hy.out.len)
  cases he5
  have hr6 : DRow (fun k => S k ∨ (w.heap.size ≤ k ∧ k < w5.heap.size)) w5 14 (some ⟨w3.heap.size, 0, none⟩) 2 [x, y] := hr5.keep (fun k hk => hw5.block k (by have := hk.2.1; omega)) fun k hk => .inr ⟨by have := hk.2.1; omega, by have := hk.2.2; omega⟩
  rw [hz3] at hr6
  have hx5 : UIn (fun k => S k ∨ (w.heap.size ≤ k ∧ k < w5.heap.size)) w5 .expr x := Hx.out.keep (fun k hk => b5.block k (hS k hk)) fun k hk => .inl hk
  have hy5 : UIn (fun k => S k ∨ (w.heap.size ≤ k ∧ k < w5.heap.size)) w5 .expr y := Hy.out.keep (fun k hk => b5.block k (hS k hk)) fun k hk => .inl hk
  have i0' : I64 0 := by unfold I64; omega
  exact ⟨.node [.int .i64 3, .int .i64 6, .int .i64 0, .int .i64 0, .int .i64 0, .int .i64 0, .slice none 0 0, .int .i64 0, .int .i64 0, .int .i64 0, .string ⟨#[]⟩, .slice none 0 0, .slice (some ⟨w.heap.size + 3, 0, none⟩) 2 2, .slice none 0 0] [[], [], [x, y], []], rfl, b5,
    UIn.mkK rfl rfl ⟨⟨3, 6, 0, 0, 0, 0, 0, 0, 0, ⟨#[]⟩⟩, _, _, _, _, rfl, by show I64 3; unfold I64; omega, by show I64 6; unfold I64; omega, i0', i0', i0', i0', i0', i0', i0', by show (0 : Nat) ≤ _; unfold maxLen; omega⟩ ⟨⟨none, 0, rfl, nil_row _ _ _ _ _ (by unfold maxLen; omega), fun _ h => by cases h⟩, ⟨none, 0, rfl, nil_row _ _ _ _ _ (by unfold maxLen; omega), fun _ h => by cases h⟩, ⟨_, 2, rfl, hr6, fun u hu => by
      simp at hu
      rcases hu with rfl | rfl
      · exact hx5
      · exact hy5⟩, ⟨none, 0, rfl, nil_row _ _ _ _ _ (by unfold maxLen; omega), fun _ h => by cases h⟩, trivial⟩, andT_sm ⟨rfl, rfl⟩ (fun j h6 h11 h12 h13 => by match j with | 0 => rfl | 1 => rfl | 2 => rfl | 3 => rfl | 4 => rfl | 5 => rfl | 6 => exact absurd rfl h6 | 7 => rfl | 8 => rfl | 9 => rfl | 10 => rfl | 11 => rfl | 12 => exact absurd rfl h12 | 13 => rfl | j + 14 => rfl) (USm.refl _ _) (USm.refl _ _), by unfold andT; rw [DT.n_node, DT.n_node]⟩
end Go.Proofs.YthijagpnpcpcbaaGreat
namespace Go.Proofs.YthijagpnpcpcbaaGreat
open Go.RowKit Go.Sort
set_option maxRecDepth 100000 in
theorem boolean_any (w : World) : Calls Tryz.prog 67 #[] w fun e w' => e = .returned (.agg #[.int .i64 1, .int .i64 0, .slice none 0 0]) ∧ Below w.heap.size w w' := by
  obtain ⟨w1, hw1⟩ : ∃ w1, w.alloc (.cells #[.int .i64 0, .int .i64 0, .slice none 0 0] 24) = w1 := ⟨_, rfl⟩
  have k1 : Hid (Bk w1 w.heap.size [.int .i64 0, .int .i64 0, .slice none 0 0] 24) := by show Bk _ _ _ _; rw [← hw1]; exact Bk.new w [.int .i64 0, .int .i64 0, .slice none 0 0] _
  have hb : Hid (Below w.heap.size w w1) := by show Below _ _ _; rw [← hw1]; exact bel1 _ _
  have i24 := Lib.hid uItyp
  go_enter Tryz.func67, Tryz.ntmps67
  go_wp2_with (refine wpList_store_blk rfl 24 _ _ rfl _ 0 _ _ [.int .i64 1, .int .i64 0, .slice none 0 0] rfl rfl k1.out i24.out (by simp) rfl ?_; intro w2 hw2)
  refine bodyPost_blk rfl w.heap.size [.int .i64 1, .int .i64 0, .slice none 0 0] _ rfl _ hw2.bk Tryz.underlying24 rfl i24.out rfl ?_
  exact ⟨rfl, belTr hb.out (hw2.below (Nat.le_refl _))⟩
set_option maxRecDepth 100000 in
set_option maxHeartbeats 4000000 in
theorem constant_any (w : World) : Calls Tryz.prog 66 #[.agg #[.int .i64 1, .int .i64 0, .slice none 0 0], .agg #[.int .i64 1, .int .i64 1, .int .i64 0, .string ⟨#[]⟩, .slice none 0 0]] w (ExNil yesT w) := by
  obtain ⟨w1, hw1⟩ : ∃ w1, w.alloc (.cells #[.int .i64 1, .int .i64 0, .slice none 0 0] 24) = w1 := ⟨_, rfl⟩
  obtain ⟨w2, hw2⟩ : ∃ w2, w1.alloc (.cells #[.int .i64 1, .int .i64 1, .int .i64 0, .string ⟨#[]⟩, .slice none 0 0] 27) = w2 := ⟨_, rfl⟩
  obtain ⟨w3, hw3⟩ : ∃ w3, w2.alloc (.cells #[.int .i64 0, .int .i64 0, .int .i64 0, .int .i64 0, .int .i64 0, .int .i64 0, .slice none 0 0, .int .i64 0, .int .i64 0, .int .i64 0, .string ⟨#[]⟩, .slice none 0 0, .slice none 0 0, .slice none 0 0] 31) = w3 := ⟨_, rfl⟩
  have hz1 : w1.heap.size = w.heap.size + 1 := by rw [← hw1]; simp
  have hz2 : w2.heap.size = w.heap.size + 2 := by rw [← hw2]; simp [hz1]
  have hz3 : w3.heap.size = w.heap.size + 3 := by rw [← hw3]; simp [hz2]
  have k1 : Bk w3.drew w.heap.size [.int .i64 1, .int .i64 0, .slice none 0 0] 24 := by rw [← hw3, ← hw2, ← hw1]; exact ((Bk.new w [.int .i64 1, .int .i64 0, .slice none 0 0] _).alloc _).alloc _
  have k2 : Bk w3.drew (w.heap.size + 1) [.int .i64 1, .int .i64 1, .int .i64 0, .string ⟨#[]⟩, .slice none 0 0] 27 := by rw [← hw3, ← hw2, ← hz1]; exact (Bk.new w1 [.int .i64 1, .int .i64 1, .int .i64 0, .string ⟨#[]⟩, .slice none 0 0] _).alloc _
  have k3 : Bk w3.drew (w.heap.size + 2) zEx 31 := by rw [← hw3, ← hz2]; exact Bk.new w2 zEx _
  have hbw : Hid (Below w.heap.size w w3.drew) := by show Below _ _ _; rw [← hw3, ← hw2, ← hw1]; exact ((((Below.refl _ _).alloc (Nat.le_refl _) _).alloc (by simp) _).alloc (by simp; omega) _).drew
  have i24 := Lib.hid uItyp
  have i27 := Lib.hid uIval
  have i31 := Lib.hid uClExpr1
  have i0' : I64 0 := by unfold I64; omega
  have i1' : I64 1 := by unfold I64; omega
  have hct := copyType_any (.node [.int .i64 1, .int .i64 0, .slice none 0 0] [[]]) (fun _ => False) w3.drew (by rw [DT.n_node]; simp; have : nL ([] : List DT) = 0 := rfl; omega) (UIn.mkK rfl rfl ⟨1, 0, _, rfl, i1', i0'⟩ ⟨⟨none, 0, rfl, nil_row _ _ _ _ _ (by unfold maxLen; omega), fun _ h => by cases h⟩, trivial⟩) (fun _ h => h.elim)
  have Hct := Lib.hid hct
  have K3 := Lib.hid k3
  have hD : Bk w3.drew w.heap.size [.int .i64 1, .int .i64 0, .slice none 0 0] 24 ∧ Bk w3.drew (w.heap.size + 1) [.int .i64 1, .int .i64 1, .int .i64 0, .string ⟨#[]⟩, .slice none 0 0] 27 := ⟨k1, k2⟩
  clear hct k1 k2 k3
  go_enter Tryz.func66, Tryz.ntmps66
  go_upto_region 1 with (fail)
  refine wp_region_split 3 (fun w' => Bk w' w.heap.size [.int .i64 1, .int .i64 0, .slice none 0 0] 24 ∧ Bk w' (w.heap.size + 1) [.int .i64 1, .int .i64 1, .int .i64 0, .string ⟨#[]⟩, .slice none 0 0] 27) (by kernel_rfl) (by kernel_rfl) ?_
  simp only [List.take_succ_cons, List.take_zero, List.drop_succ_cons, List.drop_zero]
  refine take_op (i := 0) (v := .agg #[.int .i64 1, .int .i64 0, .slice none 0 0]) rfl rfl (by kernel_rfl) (by kernel_rfl) (by kernel_rfl) (fun _ _ _ h => h) (yields_load_part rfl 24 _ rfl _ Tryz.underlying24 rfl _ _ _ _ [.int .i64 1, .int .i64 0, .slice none 0 0] rfl (fun _ h => h.1) i24.out rfl) hD ?_
  simp only [List.setIfInBounds_toArray, List.set_cons_zero, List.set_cons_succ]
  refine take_op (i := 2) (v := .agg #[.int .i64 1, .int .i64 1, .int .i64 0, .string ⟨#[]⟩, .slice none 0 0]) rfl rfl (by kernel_rfl) (by kernel_rfl) (by kernel_rfl) (fun _ _ _ h => h) (yields_load_part rfl 27 _ rfl _ Tryz.underlying27 rfl _ _ _ _ [.int .i64 1, .int .i64 1, .int .i64 0, .string ⟨#[]⟩, .slice none 0 0] rfl (fun _ h => h.2) i27.out rfl) hD ?_
  simp only [List.setIfInBounds_toArray, List.set_cons_zero, List.set_cons_succ]
  refine call_op (i := 1) (by kernel_rfl) rfl rfl rfl 58 #[.agg #[.int .i64 1, .int .i64 0, .slice none 0 0]] (by go_simp) (Hct.out.mono ?_)
  rintro e w4 ⟨y, s', rfl, hf, _, hy, hu⟩
  have hb4 := Fr.to0 hf
  obtain ⟨k, sc, A, cp, l, rfl, ok, ry, iy⟩ := hy.typ
  obtain ⟨rfl, rfl, hus⟩ := hu.typ
  obtain rfl : l = [] := List.length_eq_zero_iff.1 (hus.1.symm)
  have hz3' : w3.drew.heap.size = w.heap.size + 3 := hz3
  have hz4 := hb4.size
  refine ⟨.agg #[.int .i64 1, .int .i64 0, .slice A 0 cp], rfl, ⟨(hb4.block _ (by omega)).trans hD.1, (hb4.block _ (by omega)).trans hD.2⟩, ?_⟩
  simp only [List.setIfInBounds_toArray, List.set_cons_zero, List.set_cons_succ]
  refine done_op (by kernel_rfl) ?_
  have K4 : Hid (Bk w4 (w.heap.size + 2) zEx 31) := (hb4.block _ (by omega)).trans K3.out
  have Hb4 := Lib.hid hb4
  have hcp : cp ≤ maxLen := ry.2.1
  clear hf hb4 hy hu ry iy hus hD
  go_wp2_with (show wpList _ _ _ (⟨none, _, _, _, _, _⟩ :: _) _ _; go_loud (refine wpList_store_blk rfl 31 _ _ rfl _ 0 _ _ [.int .i64 1, .int .i64 0, .int .i64 0, .int .i64 0, .int .i64 1, .int .i64 0, .slice A 0 cp, .int .i64 1, .int .i64 1, .int .i64 0, .string ⟨#[]⟩, .slice none 0 0, .slice none 0 0, .slice none 0 0] rfl rfl K4.out i31.out (by simp [zEx]) rfl ?_); intro w5 hw5)
  refine bodyPost_blk rfl (w.heap.size + 2) [.int .i64 1, .int .i64 0, .int .i64 0, .int .i64 0, .int .i64 1, .int .i64 0, .slice A 0 cp, .int .i64 1, .int .i64 1, .int .i64 0, .string ⟨#[]⟩, .slice none 0 0, .slice none 0 0, .slice none 0 0] _ rfl _ hw5.bk Tryz.underlying31 rfl i31.out rfl ?_
  have b5 : Below w.heap.size w w5 := belTr (belTr hbw.out (belLo Hb4.out (by omega))) (hw5.below (by omega))
  exact ⟨.node [.int .i64 1, .int .i64 0, .int .i64 0, .int .i64 0, .int .i64 1, .int .i64 0, .slice A 0 cp, .int .i64 1, .int .i64 1, .int .i64 0, .string ⟨#[]⟩, .slice none 0 0, .slice none 0 0, .slice none 0 0] [[], [], [], []], rfl, b5, fun S => UIn.mkK rfl rfl ⟨⟨1, 0, 0, 0, 1, 0, 1, 1, 0, ⟨#[]⟩⟩, _, _, _, _, rfl, i1', i0', i0', i0', i1', i0', i1', i1', i0', by show (0 : Nat) ≤ _; unfold maxLen; omega⟩ ⟨⟨A, cp, rfl, nil_row _ _ _ _ _ hcp, fun _ h => by cases h⟩, ⟨none, 0, rfl, nil_row _ _ _ _ _ (by unfold maxLen; omega), fun _ h => by cases h⟩, ⟨none, 0, rfl, nil_row _ _ _ _ _ (by unfold maxLen; omega), fun _ h => by cases h⟩, ⟨none, 0, rfl, nil_row _ _ _ _ _ (by unfold maxLen; omega), fun _ h => by cases h⟩, trivial⟩,
    USm.mkK rfl (fun j hj => by match j with | 0 => rfl | 1 => rfl | 2 => rfl | 3 => rfl | 4 => rfl | 5 => rfl | 6 => exact absurd (by simp [Uy.sl]) (hj .field) | 7 => rfl | 8 => rfl | 9 => rfl | 10 => rfl | 11 => rfl | 12 => rfl | 13 => rfl | j + 14 => rfl) ⟨USL.nil _, USL.nil _, USL.nil _, USL.nil _, trivial⟩, by unfold yesT; rw [DT.n_node, DT.n_node]⟩
set_option maxRecDepth 100000 in
set_option maxHeartbeats 4000000 in
theorem truth_any (w : World) : Calls Tryz.prog 48 #[.bool true] w (ExNil yesT w) := by
  obtain ⟨w1, hw1⟩ : ∃ w1, w.alloc (.cells #[.int .i64 0, .int .i64 0, .int .i64 0, .int .i64 0, .int .i64 0, .int .i64 0, .slice none 0 0, .int .i64 0, .int .i64 0, .int .i64 0, .string ⟨#[]⟩, .slice none 0 0, .slice none 0 0, .slice none 0 0] 31) = w1 := ⟨_, rfl⟩
  obtain ⟨w2, hw2⟩ : ∃ w2, w1.alloc (.cells #[.int .i64 0, .int .i64 0, .int .i64 0, .string ⟨#[]⟩, .slice none 0 0] 27) = w2 := ⟨_, rfl⟩
  have hz1 : w1.heap.size = w.heap.size + 1 := by rw [← hw1]; simp
  have hz2 : w2.heap.size = w.heap.size + 2 := by rw [← hw2]; simp [hz1]
  have k1 : Hid (Bk w2 w.heap.size zEx 31) := by show Bk _ _ _ _; rw [← hw2, ← hw1]; exact (Bk.new w zEx _).alloc _
  have k2 : Hid (Bk w2 (w.heap.size + 1) [.int .i64 0, .int .i64 0, .int .i64 0, .string ⟨#[]⟩, .slice none 0 0] 27) := by show Bk _ _ _ _; rw [← hw2, ← hz1]; exact Bk.new w1 [.int .i64 0, .int .i64 0, .int .i64 0, .string ⟨#[]⟩, .slice none 0 0] _
  have hbw : Hid (Below w.heap.size w w2) := by show Below _ _ _; rw [← hw2, ← hw1]; exact ((Below.refl _ _).alloc (Nat.le_refl _) _).alloc (by simp) _
  have i27 := Lib.hid uIval
  have i31 := Lib.hid uClExpr1
  have i1 := Lib.hid uInt1
  go_enter Tryz.func48, Tryz.ntmps48
  go_upto_region 4 with (first
    | (refine wpList_store_blk rfl 27 _ _ rfl _ 0 _ _ [.int .i64 1, .int .i64 0, .int .i64 0, .string ⟨#[]⟩, .slice none 0 0] rfl rfl k2.out i27.out (by simp) rfl ?_; intro w3 hw3; have K3 := Lib.hid hw3.bk; have K1 := Lib.hid (k1.out.wrt hw3 (by omega)); have W3 := Lib.hid hw3; clear hw3)
    | (refine wpList_store_blk rfl 3 _ _ rfl _ 1 _ _ [.int .i64 1] rfl rfl K3.out i1.out (by simp [setL]) rfl ?_; intro w4 hw4; have K4 := Lib.hid hw4.bk; have J1 := Lib.hid (K1.out.wrt hw4 (by omega)); have W4 := Lib.hid hw4; clear hw4))
  dsimp only [Act.put]
  have hD : Bk w4.drew (w.heap.size + 1) [.int .i64 1, .int .i64 1, .int .i64 0, .string ⟨#[]⟩, .slice none 0 0] 27 := K4.out
  have hz4 : w4.heap.size = w.heap.size + 2 := by rw [W4.out.size, W3.out.size, hz2]
  have hz4' : w4.drew.heap.size = w.heap.size + 2 := hz4
  refine wp_region_split 3 (fun w' => Bk w' (w.heap.size + 1) [.int .i64 1, .int .i64 1, .int .i64 0, .string ⟨#[]⟩, .slice none 0 0] 27) (by kernel_rfl) (by kernel_rfl) ?_
  simp only [List.take_succ_cons, List.take_zero, List.drop_succ_cons, List.drop_zero]
  refine take_op (i := 1) (v := .agg #[.int .i64 1, .int .i64 1, .int .i64 0, .string ⟨#[]⟩, .slice none 0 0]) rfl rfl (by kernel_rfl) (by kernel_rfl) (by kernel_rfl) (fun _ _ _ h => h) (yields_load_part rfl 27 _ rfl _ Tryz.underlying27 rfl _ _ _ _ [.int .i64 1, .int .i64 1, .int .i64 0, .string ⟨#[]⟩, .slice none 0 0] rfl (fun _ h => h) i27.out rfl) hD ?_
  simp only [List.setIfInBounds_toArray, List.set_cons_zero, List.set_cons_succ]
  refine call_op (i := 0) (by kernel_rfl) rfl rfl rfl 67 #[] (by go_simp) ((boolean_any w4.drew).mono ?_)
  rintro e w5 ⟨rfl, hb5⟩
  have hz5 := hb5.size
  refine ⟨_, rfl, (hb5.block _ (by omega)).trans hD, ?_⟩
  simp only [List.setIfInBounds_toArray, List.set_cons_zero, List.set_cons_succ]
  refine call_op (i := 2) (by kernel_rfl) rfl rfl rfl 66 #[.agg #[.int .i64 1, .int .i64 0, .slice none 0 0], .agg #[.int .i64 1, .int .i64 1, .int .i64 0, .string ⟨#[]⟩, .slice none 0 0]] (by go_simp) ((constant_any w5).mono ?_)
  rintro e w6 ⟨y, rfl, hb6, hy, hu⟩
  have hz6 := hb6.size
  refine ⟨_, rfl, (hb6.block _ (by omega)).trans ((hb5.block _ (by omega)).trans hD), ?_⟩
  simp only [List.setIfInBounds_toArray, List.set_cons_zero, List.set_cons_succ]
  refine done_op (by kernel_rfl) ?_
  have K6 : Hid (Bk w6 w.heap.size zEx 31) := (hb6.block _ (by omega)).trans ((hb5.block _ (by omega)).trans J1.out)
  have y14 : Hid (y.c.toArray.size = 14) := by show _ = _; rw [List.size_toArray, (hy (fun _ => False)).len]; rfl
  have yi : Hid ((Tryz.prog.info? 31).map (·.size) = some y.c.length) := by show _ = _; rw [(hy (fun _ => False)).len]; exact uClExpr1
  have y1 := Lib.hid (all_one (hy (fun _ => False)).ones)
  have Hy := Lib.hid hy
  have Hb5 := Lib.hid hb5
  have Hb6 := Lib.hid hb6
  have Hu := Lib.hid hu
  clear hy hb5 hb6 hu hD
  go_wp2_with (refine wpList_store_blk rfl 31 _ _ rfl _ 0 _ _ y.c rfl rfl K6.out yi.out (by simpa [zEx] using Nat.le_of_eq y14.out) (by simpa using y1.out) ?_; intro w7 hw7)
  rw [setL_all _ _ (by simpa [zEx] using y14.out)] at hw7
  refine bodyPost_blk rfl w.heap.size y.c _ rfl _ hw7.bk Tryz.underlying31 rfl yi.out rfl ?_
  have b4 : Below w.heap.size w w4 := belTr hbw.out (belTr (W3.out.below (by omega)) (W4.out.below (by omega)))
  have b5 : Below w.heap.size w4 w5 := belTr ((Below.refl _ _).drew) (belLo Hb5.out (by omega))
  have b7 : Below w.heap.size w w7 := belTr b4 (belTr b5 (belTr (belLo Hb6.out (by omega)) (hw7.below (Nat.le_refl _))))
  exact ⟨y, rfl, b7, fun S => (Hy.out (fun _ => False)).keep (fun _ h => h.elim) fun _ h => h.elim, Hu.out⟩
end Go.Proofs.YthijagpnpcpcbaaGreat

