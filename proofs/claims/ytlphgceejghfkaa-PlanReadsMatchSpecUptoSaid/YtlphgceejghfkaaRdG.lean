/-
  The walker over parts: what it keeps; its walk over an expression.
-/
import Derived.Test.YtlphgceejghfkaaRdF
import Derived.Test.YtlphgceejghfkaaStill
namespace Go.Proofs.Ytlphgceejghfkaa
open Go.RowKit Go.Sort
section
variable {P : Program} {w : World} {o : Oper} {a : Act} {K : Act → Prop}
theorem st_value {v : Value} (hv : (execOp a.eval o).run P w = .ok (.value v) w) (h : K (a.put o.dst v)) : o.still P a w K := by
  unfold Oper.still
  rw [hv]
  simp only [Oper.stillUpon]
  exact ⟨trivial, h⟩
theorem st_load (t : TypeId) (x : Operand) (ho : o.op = .load t x) (d : TypeDesc) (hu : P.underlying t = some d) (hd : d.isRow = true) (ad : Addr) (cs : List Value) (hi : (P.info? t).map (·.size) = some cs.length) (hx : a.eval x = .pointer (some ad)) (hc : ∀ j u, cs[j]? = some u → w.cell? (ad.add j) = some u)
    (h : K (a.put o.dst (.agg cs.toArray))) : o.still P a w K := by
  refine st_value ?_ h
  unfold execOp
  simp only [ho, hx, Sem.run_bind, run_loadAt_st w t d ad cs hc hu hd hi, Result.andThen_ok, Sem.run_pure]
theorem st_build (t : TypeId) (x y z : Operand) (ho : o.op = .build t #[(0, x), (1, y), (2, z)]) (v1 v2 v3 v : Value) (hx : a.eval x = v1) (hy : a.eval y = v2) (hz : a.eval z = v3) (hr : (Instr.build t #[(0, v1), (1, v2), (2, v3)]).run P w = .ok v w) (h : K (a.put o.dst v)) : o.still P a w K := by
  refine st_value ?_ h
  unfold execOp
  simp only [ho]
  simp [hx, hy, hz, hr, Sem.run_bind]
end
theorem len14 {α : Type} : ∀ {l : List α}, l.length = 14 → ∃ a b c d e f g h i j k m n o, l = [a, b, c, d, e, f, g, h, i, j, k, m, n, o]
  | [a, b, c, d, e, f, g, h, i, j, k, m, n, o], _ => ⟨a, b, c, d, e, f, g, h, i, j, k, m, n, o, rfl⟩
theorem build_part (c : List Value) (hc : c.length = 14) (n : Int) (pa : Option Addr) (w : World) : (Instr.build 50 #[(0, .agg c.toArray), (1, .int .i64 n), (2, .pointer pa)]).run Try.prog w = .ok (Value.agg (c ++ [Value.int .i64 n, Value.pointer pa]).toArray) w := by
  obtain ⟨c0, c1, c2, c3, c4, c5, c6, c7, c8, c9, c10, c11, c12, c13, rfl⟩ := len14 hc
  kernel_rfl
/-- The two blocks that are written. -/
def Ex (g vb : Nat) (k : Nat) : Prop := k = g ∨ k = vb
/-- The walker, and the row that it makes. -/
def WInv (g vb B : Nat) (w : World) (v : Value) (L : List (List Int)) : Prop :=
  (∃ c : Int, w.heap[g]? = some (.cells #[.int .i64 c, .func (.func 18) #[] #[.pointer (some ⟨vb, 0, none⟩)]] 64 (0, 0))) ∧ B ≤ g ∧ OInv vb B w v L
theorem WInv.lt {g vb B : Nat} {w : World} {v : Value} {L : List (List Int)} (h : WInv g vb B w v L) : g < w.heap.size ∧ vb < w.heap.size ∧ B ≤ g ∧ B ≤ vb := by
  obtain ⟨⟨c, hc⟩, hB, h1, h2, _⟩ := h
  exact ⟨(Array.getElem?_eq_some_iff.1 hc).1, (Array.getElem?_eq_some_iff.1 h1).1, hB, h2⟩
theorem WInv.below {g vb B : Nat} {w w' : World} {v : Value} {L : List (List Int)} (h : WInv g vb B w v L) (hb : Below w.heap.size w w') : WInv g vb B w' v L := by
  have hl := h.lt
  obtain ⟨⟨c, hc⟩, hB, ho⟩ := h
  exact ⟨⟨c, (hb.block g hl.1).trans hc⟩, hB, ho.below hb⟩
theorem WInv.see {g vb B : Nat} {w w' : World} {v v' : Value} {L L' : List (List Int)} (h : WInv g vb B w v L) (ho : OInv vb B w' v' L') (hp : PFr (· = vb) w v w' v') : WInv g vb B w' v' L' := by
  have hl := h.lt
  obtain ⟨⟨c, hc⟩, hB, h1, h2, xs, h3, h4⟩ := h
  refine ⟨⟨c, (hp.block g hl.1 (fun e => ?_) (own_ne h3 hc (by decide))).trans hc⟩, hB, ho⟩
  rw [show g = vb from e, h1] at hc
  cases hc
/-- Blocks of other types stay. -/
theorem PFr.kept {g vb B k : Nat} {w w' : World} {v v' : Value} {L : List (List Int)} {cs : Array Value} {t : TypeId} {fr : Nat × Nat} (hp : PFr (Ex g vb) w v w' v') (h : WInv g vb B w v L) (hk : w.heap[k]? = some (.cells cs t fr)) (h1 : t ≠ 64) (h2 : t ≠ 29) (h3 : t ≠ 37) : w'.heap[k]? = w.heap[k]? := by
  obtain ⟨⟨c, hc⟩, hB, hv1, hv2, xs, hv3, hv4⟩ := h
  refine hp.block k (Array.getElem?_eq_some_iff.1 hk).1 (fun e => ?_) (own_ne hv3 hk h3)
  rcases e with e | e
  · rw [e, hc] at hk
    cases hk
    exact h1 rfl
  · rw [e, hv1] at hk
    cases hk
    exact h2 rfl
theorem PFr.low {g vb B : Nat} {w w' : World} {v v' : Value} {L : List (List Int)} (hp : PFr (Ex g vb) w v w' v') (h : WInv g vb B w v L) : ∀ k, k < B → w'.heap[k]? = w.heap[k]? := fun k hk => by
  have hl := h.lt
  obtain ⟨⟨c, hc⟩, hB, hv1, hv2, xs, hv3, hv4⟩ := h
  refine hp.block k (by omega) (fun e => ?_) (fun e => ?_)
  · rcases e with e | e <;> omega
  · have := (hv3.lt k e.symm).1
    omega
theorem WInv.count {g vb B : Nat} {w : World} {v : Value} {L : List (List Int)} (h : WInv g vb B w v L) (c' : Int) : WInv g vb B (w.setCell ⟨g, 0, none⟩ (.int .i64 c')) v L ∧ PFr (Ex g vb) w v (w.setCell ⟨g, 0, none⟩ (.int .i64 c')) v := by
  have hl := h.lt
  obtain ⟨⟨c, hc⟩, hB, hv1, hv2, xs, hv3, hv4⟩ := h
  have hne : ∀ k cs t fr, w.heap[k]? = some (.cells cs t fr) → t ≠ 64 → k ≠ g := fun k cs t fr hk ht e => by
    rw [e, hc] at hk
    cases hk
    exact ht rfl
  refine ⟨⟨⟨c', heap_setCell_same w g 0 _ _ _ hc⟩, hB, (heap_setCell_other w _ vb _ (hne vb _ _ _ hv1 (by decide))).trans hv1, hv2, xs, ⟨hv3.1, ?_⟩, hv4.keep fun k cs fr hk => heap_setCell_other w _ k _ (hne k cs _ fr hk (by decide))⟩, rfl, rfl, rfl, by rw [size_setCell]; exact Nat.le_refl _, fun k _ hex _ => heap_setCell_other w _ k _ (fun e => hex (.inl e)), .inl rfl⟩
  rcases hv3.2 with hn | ⟨q, cap', cur, rfl, hbq, hq, rest⟩
  · exact .inl hn
  · exact .inr ⟨q, cap', cur, rfl, hbq, (heap_setCell_other w _ q _ (hne q _ _ _ hq (by decide))).trans hq, rest⟩
/-- Behind a call of the walker's. -/
def WPost (g vb B : Nat) (v : Value) (L : List (List Int)) (w : World) (e : Ending) (w' : World) : Prop := e = .returned (.tuple #[]) ∧ ∃ v', WInv g vb B w' v' L ∧ PFr (Ex g vb) w v w' v'
/-- What a loop over parts has at its head. -/
def WLoop (g vb B : Nat) (W1 : World) (v : Value) (L : List (List Int)) (l : List DT) (F : DT → List (List Int)) (i : Value) (wr : World) : Prop :=
  ∃ (j : Nat) (v' : Value), j ≤ l.length ∧ i = .int .i64 j ∧ WInv g vb B wr v' (L ++ (l.take j).flatMap F) ∧ PFr (Ex g vb) W1 v wr v'
theorem WLoop.start {g vb B : Nat} {W1 : World} {v : Value} {L : List (List Int)} (h : WInv g vb B W1 v L) (l : List DT) (F : DT → List (List Int)) : WLoop g vb B W1 v L l F (.int .i64 0) W1 :=
  ⟨0, v, Nat.zero_le _, rfl, by simpa using h, PFr.refl _ _ _⟩
theorem WLoop.step {g vb B j : Nat} {W1 wr W2 w3 : World} {v v' v3 : Value} {L : List (List Int)} {l : List DT} {F : DT → List (List Int)} {x : DT} (hx : l[j]? = some x) (hp : PFr (Ex g vb) W1 v wr v') (hb : Below wr.heap.size wr W2) (hi : WInv g vb B w3 v3 (L ++ (l.take j).flatMap F ++ F x)) (hp3 : PFr (Ex g vb) W2 v' w3 v3) : WLoop g vb B W1 v L l F (.int .i64 ((j : Int) + 1)) w3 := by
  refine ⟨j + 1, v3, (List.getElem?_eq_some_iff.1 hx).1, by simp, ?_, hp.trans ((PFr.below hb).trans hp3)⟩
  rw [List.take_add_one, hx, List.flatMap_append]
  simpa using hi
theorem len_take {F : DT → List (List Int)} {l : List DT} (j : Nat) {x : DT} (hx : l[j]? = some x) : ((l.take j).flatMap F).length + (F x).length ≤ (l.flatMap F).length := by
  have e : l.flatMap F = (l.take j).flatMap F ++ (F x ++ (l.drop (j + 1)).flatMap F) := by
    rw [← List.flatMap_cons, ← drop_of_get? hx, ← List.flatMap_append, List.take_append_drop]
  rw [e]
  simp only [List.length_append]
  omega
theorem DT.In.exprKids {S : Nat → Prop} {w : World} {d : DT} (h : DT.In S w .expr d) :
    (∃ A cap, d.c[12]? = some (.slice A (d.kid 0).length cap) ∧ DRow S w 14 A cap (d.kid 0)) ∧ (∃ A cap, d.c[13]? = some (.slice A (d.kid 1).length cap) ∧ DRow S w 14 A cap (d.kid 1)) ∧ (∀ x, x ∈ d.kid 0 → DT.In S w .expr x) ∧ ∀ x, x ∈ d.kid 1 → DT.In S w .rel x := by
  obtain ⟨a, A, cap, az, B, bcap, ss, hd⟩ := h.expr
  obtain ⟨he, _, ra, rs, ia, is⟩ := hd
  subst he
  exact ⟨⟨A, cap, rfl, ra⟩, ⟨B, bcap, rfl, rs⟩, ia, is⟩
/-- What is shown of expressions and relations of at most f structs. -/
def HE (g vb B f : Nat) : Prop := ∀ (e : DT) (v : Value) (w : World) (L : List (List Int)) (S : Nat → Prop), DT.In S w .expr e → (∀ k, S k → k < B) → e.n ≤ f → WInv g vb B w v L → L.length + (readsE f e).length ≤ 1048576 →
  Calls Try.prog 41 #[.pointer (some ⟨g, 0, none⟩), .agg e.c.toArray] w (WPost g vb B v (L ++ readsE f e) w)
def HR (g vb B f : Nat) : Prop := ∀ (d : DT) (above : Option DT) (pa : Option Addr) (v : Value) (w : World) (L : List (List Int)) (S : Nat → Prop), DT.In S w .rel d → (∀ k, S k → k < B) → AbOk S w (.pointer pa) above → (∀ p, above = some p → p.n ≤ 1048576) → d.n ≤ f → WInv g vb B w v L → L.length + (readsR f d (ownOf above d)).length ≤ 1048576 →
  Calls Try.prog 25 #[.pointer (some ⟨g, 0, none⟩), .agg d.c.toArray, .pointer pa] w (WPost g vb B v (L ++ readsR f d (ownOf above d)) w)
end Go.Proofs.Ytlphgceejghfkaa
