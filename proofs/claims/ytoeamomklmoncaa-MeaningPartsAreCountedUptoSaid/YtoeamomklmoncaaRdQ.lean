/-
  From what the argument reads as to the trees in memory, and how many structs there are in them.
-/
import Derived.Test.YtoeamomklmoncaaRows
import Derived.Test.YtoeamomklmoncaaDt
import Derived.ProofKit
import Derived.OpenShut
import Derived.KernelRfl
namespace Go.Proofs.Ytoeamomklmoncaa
open Go.RowKit Go.ChangeShapes Go.WideShapes
theorem ln2 {α : Type} : ∀ {l : List α}, l.length = 2 → ∃ a0 a1, l = [a0, a1]
  | [a0, a1], _ => ⟨a0, a1, rfl⟩
theorem ln3 {α : Type} : ∀ {l : List α}, l.length = 3 → ∃ a0 a1 a2, l = [a0, a1, a2]
  | [a0, a1, a2], _ => ⟨a0, a1, a2, rfl⟩
theorem ln5 {α : Type} : ∀ {l : List α}, l.length = 5 → ∃ a0 a1 a2 a3 a4, l = [a0, a1, a2, a3, a4]
  | [a0, a1, a2, a3, a4], _ => ⟨a0, a1, a2, a3, a4, rfl⟩
theorem ln8 {α : Type} : ∀ {l : List α}, l.length = 8 → ∃ a0 a1 a2 a3 a4 a5 a6 a7, l = [a0, a1, a2, a3, a4, a5, a6, a7]
  | [a0, a1, a2, a3, a4, a5, a6, a7], _ => ⟨a0, a1, a2, a3, a4, a5, a6, a7, rfl⟩
theorem ln10 {α : Type} : ∀ {l : List α}, l.length = 10 → ∃ a0 a1 a2 a3 a4 a5 a6 a7 a8 a9, l = [a0, a1, a2, a3, a4, a5, a6, a7, a8, a9]
  | [a0, a1, a2, a3, a4, a5, a6, a7, a8, a9], _ => ⟨a0, a1, a2, a3, a4, a5, a6, a7, a8, a9, rfl⟩
theorem ln12 {α : Type} : ∀ {l : List α}, l.length = 12 → ∃ a0 a1 a2 a3 a4 a5 a6 a7 a8 a9 a10 a11, l = [a0, a1, a2, a3, a4, a5, a6, a7, a8, a9, a10, a11]
  | [a0, a1, a2, a3, a4, a5, a6, a7, a8, a9, a10, a11], _ => ⟨a0, a1, a2, a3, a4, a5, a6, a7, a8, a9, a10, a11, rfl⟩
theorem ln14 {α : Type} : ∀ {l : List α}, l.length = 14 → ∃ a0 a1 a2 a3 a4 a5 a6 a7 a8 a9 a10 a11 a12 a13, l = [a0, a1, a2, a3, a4, a5, a6, a7, a8, a9, a10, a11, a12, a13]
  | [a0, a1, a2, a3, a4, a5, a6, a7, a8, a9, a10, a11, a12, a13], _ => ⟨a0, a1, a2, a3, a4, a5, a6, a7, a8, a9, a10, a11, a12, a13, rfl⟩
theorem bulk_one {H : Type} (d : DataW H) : 1 ≤ Rows.uptoBulk d := by
  cases d with
  | lit l => cases l <;> simp [Rows.uptoBulk]
  | nil => simp [Rows.uptoBulk]
  | ptr d => simp [Rows.uptoBulk]
  | slice elems spare => simp [Rows.uptoBulk]
  | agg parts => simp [Rows.uptoBulk]
  | iface t d => simp [Rows.uptoBulk]
  | map entries => simp [Rows.uptoBulk]
  | held h => simp [Rows.uptoBulk]
theorem bulk_part {H : Type} {d : DataW H} {l : List (DataW H)} (h : d ∈ l) : Rows.uptoBulk d ≤ Rows.uptoBulkAll l := by
  induction l with
  | nil => cases h
  | cons x r ih =>
    simp only [Rows.uptoBulkAll]
    cases List.mem_cons.1 h with
    | inl e => subst e; omega
    | inr e => have := ih e; omega
theorem bulk_len {H : Type} (l : List (DataW H)) : l.length ≤ Rows.uptoBulkAll l := by
  induction l with
  | nil => simp [Rows.uptoBulkAll]
  | cons x r ih => have := bulk_one x; simp only [Rows.uptoBulkAll, List.length_cons]; omega
section
variable {H : Type} {enc : TypeId × Value → H} {w : World}
/-- The cells read as x of type t, in n steps. -/
def Tr (enc : TypeId × Value → H) (w : World) (n : Nat) (t : TypeId) (cs : List Value) (x : DataW H × List MemPlace) : Prop := DataW.trod enc Try.prog w 0 (fun _ => true) true n t cs = some x
variable {n : Nat} {t : TypeId} {cs : List Value} {x : DataW H × List MemPlace}
theorem tr_int (ht : Try.prog.underlying t = some (.int .i64)) (h : Tr enc w n t cs x) : ∃ k, cs = [.int .i64 k] ∧ I64 k := by
  obtain ⟨k, hk, _, hw⟩ := DataW.trod_int ht h
  exact ⟨k, hk, bounds_i64 hw⟩
theorem tr_string (ht : Try.prog.underlying t = some .string) (h : Tr enc w n t cs x) : ∃ s : ByteArray, cs = [.string s] := by
  obtain ⟨s, hs, _, _⟩ := DataW.trod_string ht h
  exact ⟨s, hs⟩
theorem tr_bool (ht : Try.prog.underlying t = some .bool) (h : Tr enc w n t cs x) : ∃ b : Bool, cs = [.bool b] := by
  obtain ⟨b, hb, _⟩ := DataW.trod_bool ht h
  exact ⟨b, hb⟩
theorem tr_sl {e : TypeId} (ht : Try.prog.underlying t = some (.slice e)) (h : Tr enc w n t cs x) : ∃ (A : Option Addr) (len cap : Nat), cs = [.slice A len cap] ∧ len + 1 ≤ Rows.uptoBulk x.1 := by
  rcases DataW.trod_slice ht h with ⟨rfl, rfl⟩ | ⟨a, len, cap, elems, rest, m, hn, rfl, rfl, _, hl, hm, hlen, hel, _⟩
  · exact ⟨none, 0, 0, rfl, by simp [Rows.uptoBulk]⟩
  · refine ⟨some a, len, cap, rfl, ?_⟩
    have := bulk_len (elems.map (·.1))
    simp only [Rows.uptoBulk, List.length_map] at this ⊢
    omega
theorem cellsInt : Try.prog.cellsOf 3 = 1 := by kernel_rfl
theorem cellsBool : Try.prog.cellsOf 4 = 1 := by kernel_rfl
theorem cellsString : Try.prog.cellsOf 9 = 1 := by kernel_rfl
theorem cellsType : Try.prog.cellsOf 44 = 3 := by kernel_rfl
theorem cellsValue : Try.prog.cellsOf 47 = 5 := by kernel_rfl
theorem cellsBound : Try.prog.cellsOf 66 = 2 := by kernel_rfl
theorem cellsFields : Try.prog.cellsOf 42 = 1 := by kernel_rfl
theorem cellsValues : Try.prog.cellsOf 45 = 1 := by kernel_rfl
theorem cellsS_expr : Try.prog.cellsOf 25 = 1 := by kernel_rfl
theorem cellsS_rel : Try.prog.cellsOf 24 = 1 := by kernel_rfl
theorem cellsS_agg : Try.prog.cellsOf 27 = 1 := by kernel_rfl
theorem cellsS_win : Try.prog.cellsOf 28 = 1 := by kernel_rfl
theorem cellsS_key : Try.prog.cellsOf 29 = 1 := by kernel_rfl
theorem cellsS_types : Try.prog.cellsOf 22 = 1 := by kernel_rfl
theorem cellsS_rows : Try.prog.cellsOf 23 = 1 := by kernel_rfl
theorem cellsS_sets : Try.prog.cellsOf 26 = 1 := by kernel_rfl
theorem cellsExpr : Try.prog.cellsOf 49 = 14 := by kernel_rfl
theorem cellsRel : Try.prog.cellsOf 31 = 14 := by kernel_rfl
theorem cellsAgg : Try.prog.cellsOf 64 = 5 := by kernel_rfl
theorem cellsWin : Try.prog.cellsOf 68 = 12 := by kernel_rfl
theorem cellsKey : Try.prog.cellsOf 70 = 16 := by kernel_rfl
theorem tr_type (h : Tr enc w n 44 cs x) : ∃ (k sc : Int) (A : Option Addr) (len cap : Nat), cs = [.int .i64 k, .int .i64 sc, .slice A len cap] := by
  obtain ⟨xs, m, rfl, hx, hl, hxl, hf⟩ := DataW.trod_struct Try.underlying44 h
  rw [cellsType] at hl
  obtain ⟨c0, c1, c2, rfl⟩ := ln3 hl
  obtain ⟨y0, y1, y2, rfl⟩ := ln3 (show xs.length = 3 from hxl)
  have h0 : Tr enc w m 3 (([c0, c1, c2].drop 0).take (Try.prog.cellsOf 3)) y0 := hf 0 _ rfl
  have h1 : Tr enc w m 3 (([c0, c1, c2].drop 1).take (Try.prog.cellsOf 3)) y1 := hf 1 _ rfl
  have h2 : Tr enc w m 42 (([c0, c1, c2].drop 2).take (Try.prog.cellsOf 42)) y2 := hf 2 _ rfl
  simp only [cellsInt, cellsBool, cellsString, cellsType, cellsValue, cellsBound, cellsFields, cellsValues, cellsS_expr, cellsS_rel, cellsS_agg, cellsS_win, cellsS_key, cellsS_types, cellsS_rows, cellsS_sets, cellsExpr, List.drop_zero, List.drop_succ_cons, List.take_succ_cons, List.take_zero] at h0 h1 h2
  obtain ⟨k, e0, _⟩ := tr_int Try.underlying3 h0
  obtain ⟨sc, e1, _⟩ := tr_int Try.underlying3 h1
  obtain ⟨A, len, cap, e2, _⟩ := tr_sl Try.underlying42 h2
  simp only [List.cons.injEq, and_true] at e0 e1 e2
  subst e0 e1 e2
  exact ⟨k, sc, A, len, cap, rfl⟩
theorem tr_value (h : Tr enc w n 47 cs x) : ∃ (k n sc : Int) (s : ByteArray) (A : Option Addr) (len cap : Nat), cs = [.int .i64 k, .int .i64 n, .int .i64 sc, .string s, .slice A len cap] := by
  obtain ⟨xs, m, rfl, hx, hl, hxl, hf⟩ := DataW.trod_struct Try.underlying47 h
  rw [cellsValue] at hl
  obtain ⟨c0, c1, c2, c3, c4, rfl⟩ := ln5 hl
  obtain ⟨y0, y1, y2, y3, y4, rfl⟩ := ln5 (show xs.length = 5 from hxl)
  have h0 : Tr enc w m 3 (([c0, c1, c2, c3, c4].drop 0).take (Try.prog.cellsOf 3)) y0 := hf 0 _ rfl
  have h1 : Tr enc w m 3 (([c0, c1, c2, c3, c4].drop 1).take (Try.prog.cellsOf 3)) y1 := hf 1 _ rfl
  have h2 : Tr enc w m 3 (([c0, c1, c2, c3, c4].drop 2).take (Try.prog.cellsOf 3)) y2 := hf 2 _ rfl
  have h3 : Tr enc w m 9 (([c0, c1, c2, c3, c4].drop 3).take (Try.prog.cellsOf 9)) y3 := hf 3 _ rfl
  have h4 : Tr enc w m 45 (([c0, c1, c2, c3, c4].drop 4).take (Try.prog.cellsOf 45)) y4 := hf 4 _ rfl
  simp only [cellsInt, cellsBool, cellsString, cellsType, cellsValue, cellsBound, cellsFields, cellsValues, cellsS_expr, cellsS_rel, cellsS_agg, cellsS_win, cellsS_key, cellsS_types, cellsS_rows, cellsS_sets, cellsExpr, List.drop_zero, List.drop_succ_cons, List.take_succ_cons, List.take_zero] at h0 h1 h2 h3 h4
  obtain ⟨k, e0, _⟩ := tr_int Try.underlying3 h0
  obtain ⟨nn, e1, _⟩ := tr_int Try.underlying3 h1
  obtain ⟨sc, e2, _⟩ := tr_int Try.underlying3 h2
  obtain ⟨s, e3⟩ := tr_string Try.underlying9 h3
  obtain ⟨A, len, cap, e4, _⟩ := tr_sl Try.underlying45 h4
  simp only [List.cons.injEq, and_true] at e0 e1 e2 e3 e4
  subst e0 e1 e2 e3 e4
  exact ⟨k, nn, sc, s, A, len, cap, rfl⟩
theorem tr_bound (h : Tr enc w n 66 cs x) : ∃ (k n : Int), cs = [.int .i64 k, .int .i64 n] := by
  obtain ⟨xs, m, rfl, hx, hl, hxl, hf⟩ := DataW.trod_struct Try.underlying66 h
  rw [cellsBound] at hl
  obtain ⟨c0, c1, rfl⟩ := ln2 hl
  obtain ⟨y0, y1, rfl⟩ := ln2 (show xs.length = 2 from hxl)
  have h0 : Tr enc w m 3 (([c0, c1].drop 0).take (Try.prog.cellsOf 3)) y0 := hf 0 _ rfl
  have h1 : Tr enc w m 3 (([c0, c1].drop 1).take (Try.prog.cellsOf 3)) y1 := hf 1 _ rfl
  simp only [cellsInt, cellsBool, cellsString, cellsType, cellsValue, cellsBound, cellsFields, cellsValues, cellsS_expr, cellsS_rel, cellsS_agg, cellsS_win, cellsS_key, cellsS_types, cellsS_rows, cellsS_sets, cellsExpr, List.drop_zero, List.drop_succ_cons, List.take_succ_cons, List.take_zero] at h0 h1
  obtain ⟨k, e0, _⟩ := tr_int Try.underlying3 h0
  obtain ⟨nn, e1, _⟩ := tr_int Try.underlying3 h1
  simp only [List.cons.injEq, and_true] at e0 e1
  subst e0 e1
  exact ⟨k, nn, rfl⟩
def tyId : Ty → TypeId
  | .expr => 49
  | .rel => 31
  | .agg => 64
  | .win => 68
  | .key => 70
/-- The cells are those of a tree that lies in memory, with no more structs than bulk. -/
def Op (w : World) (t : Ty) (cs : List Value) (x : DataW H × List MemPlace) : Prop := ∃ d : DT, d.c = cs ∧ DT.In (fun k => k < w.heap.size) w t d ∧ d.n ≤ Rows.uptoBulk x.1
theorem list_choose' {α : Type} {p : Nat → α → Prop} : ∀ {n : Nat}, (∀ i, i < n → ∃ x, p i x) → ∃ l : List α, l.length = n ∧ ∀ i x, l[i]? = some x → p i x
  | 0, _ => ⟨[], rfl, fun i x h => by simp at h⟩
  | n + 1, h => by
    obtain ⟨l, hl, hp⟩ := list_choose' (n := n) (fun i hi => h i (by omega))
    obtain ⟨y, hy⟩ := h n (by omega)
    refine ⟨l ++ [y], by simp [hl], fun i x hx => ?_⟩
    by_cases hi : i < l.length
    · rw [List.getElem?_append_left hi] at hx
      exact hp i x hx
    · rw [List.getElem?_append_right (by omega)] at hx
      by_cases e : i - l.length = 0
      · rw [e] at hx
        simp at hx
        subst hx
        obtain rfl : i = n := by omega
        exact hy
      · rw [List.getElem?_eq_none (by simp; omega)] at hx
        cases hx
theorem nL_bulk : ∀ (l : List DT) (ys : List (DataW H × List MemPlace)), l.length = ys.length → (∀ (i : Nat) (d : DT) (y : DataW H × List MemPlace), l[i]? = some d → ys[i]? = some y → d.n ≤ Rows.uptoBulk y.1) → nL l ≤ Rows.uptoBulkAll (ys.map (·.1))
  | [], [], _, _ => by simp [nL, Rows.uptoBulkAll]
  | d :: l, y :: ys, hl, h => by
    have h0 := h 0 d y rfl rfl
    have h1 := nL_bulk l ys (by simpa using hl) fun i d y hd hy => h (i + 1) d y (by simpa using hd) (by simpa using hy)
    rw [nL_cons, List.map_cons, Rows.uptoBulkAll]
    omega
theorem open_sl (s : Ty) (tS : TypeId) (ht : Try.prog.underlying tS = some (.slice (tyId s))) (hc : Try.prog.cellsOf (tyId s) = s.sz) (n : Nat) (ih : ∀ k, k < n → ∀ cs x, Tr enc w k (tyId s) cs x → Rows.uptoBulk x.1 ≤ 1048576 → Op w s cs x) (h : Tr enc w n tS cs x) (hb : Rows.uptoBulk x.1 ≤ 1048576) :
    ∃ (A : Option Addr) (cap : Nat) (l : List DT), cs = [.slice A l.length cap] ∧ DRow (fun k => k < w.heap.size) w s.sz A cap l ∧ (∀ y, y ∈ l → DT.In (fun k => k < w.heap.size) w s y) ∧ nL l + 1 ≤ Rows.uptoBulk x.1 := by
  have hs0 : 0 < s.sz := by cases s <;> decide
  rcases DataW.trod_slice ht h with ⟨rfl, rfl⟩ | ⟨a, len, cap, elems, rest, m, hn, rfl, rfl, _, hl, hm, hlen, hel, _⟩
  · exact ⟨none, 0, [], rfl, DRow.nil _ _ _, (fun y hy => by cases hy), by simp [nL, Rows.uptoBulk]⟩
  · simp only [Rows.uptoBulk] at hb
    have hx : ∀ i, i < len → ∃ d : DT, (a.block < w.heap.size ∧ d.At w (a.add (i * s.sz))) ∧ DT.In (fun k => k < w.heap.size) w s d ∧ ∀ y, elems[i]? = some y → d.n ≤ Rows.uptoBulk y.1 := fun i hi => by
      have hei := hel i hi
      have hil : i < elems.length := by omega
      rw [List.getElem?_eq_getElem hil, hc] at hei
      obtain ⟨cs', h1, h2⟩ := Option.bind_eq_some_iff.1 hei
      obtain ⟨_, hl', hcell⟩ := World.cells?_some h1
      have hbi : Rows.uptoBulk (elems[i]).1 ≤ 1048576 := by
        have := bulk_part (l := elems.map (·.1)) (List.mem_map.2 ⟨elems[i], List.getElem_mem hil, rfl⟩)
        omega
      obtain ⟨d, hd, hin, hdn⟩ := ih m (by omega) cs' _ h2 hbi
      refine ⟨d, ⟨?_, fun j u hu => ?_⟩, hin, fun y hy => by rw [List.getElem?_eq_getElem hil] at hy; cases hy; exact hdn⟩
      · have h0 := hcell 0 hs0
        rw [List.getElem?_eq_getElem (show 0 < cs'.length by omega)] at h0
        have := cell_lt h0
        rw [block_add, block_add] at this
        exact this
      · rw [hd] at hu
        have hj : j < s.sz := by rw [← hl']; exact (List.getElem?_eq_some_iff.1 hu).1
        exact (hcell j hj).trans hu
    obtain ⟨l, hll, hlp⟩ := list_choose' hx
    refine ⟨some a, cap, l, by rw [hll], ⟨by omega, hm, fun i y hy => ⟨a, rfl, (hlp i y hy).1.1, (hlp i y hy).1.2⟩⟩, fun y hy => ?_, ?_⟩
    · obtain ⟨i, hi⟩ := List.getElem?_of_mem hy
      exact (hlp i y hi).2.1
    · have := nL_bulk l elems (by omega) fun i d y hd hy => (hlp i d hd).2.2 y hy
      simp only [Rows.uptoBulk]
      omega
theorem open_expr (n : Nat) (ih : ∀ k, k < n → ∀ t cs x, Tr enc w k (tyId t) cs x → Rows.uptoBulk x.1 ≤ 1048576 → Op w t cs x) (h : Tr enc w n 49 cs x) (hb : Rows.uptoBulk x.1 ≤ 1048576) : Op w .expr cs x := by
  obtain ⟨xs, m, rfl, hx, hl, hxl, hf⟩ := DataW.trod_struct Try.underlying49 h
  subst hx
  rw [cellsExpr] at hl
  obtain ⟨c0, c1, c2, c3, c4, c5, c6, c7, c8, c9, c10, c11, c12, c13, rfl⟩ := ln14 hl
  obtain ⟨y0, y1, y2, y3, y4, y5, y6, y7, rfl⟩ := ln8 (show xs.length = 8 from hxl)
  have h0 : Tr enc w m 3 (([c0, c1, c2, c3, c4, c5, c6, c7, c8, c9, c10, c11, c12, c13].drop 0).take (Try.prog.cellsOf 3)) y0 := hf 0 _ rfl
  have h1 : Tr enc w m 3 (([c0, c1, c2, c3, c4, c5, c6, c7, c8, c9, c10, c11, c12, c13].drop 1).take (Try.prog.cellsOf 3)) y1 := hf 1 _ rfl
  have h2 : Tr enc w m 3 (([c0, c1, c2, c3, c4, c5, c6, c7, c8, c9, c10, c11, c12, c13].drop 2).take (Try.prog.cellsOf 3)) y2 := hf 2 _ rfl
  have h3 : Tr enc w m 3 (([c0, c1, c2, c3, c4, c5, c6, c7, c8, c9, c10, c11, c12, c13].drop 3).take (Try.prog.cellsOf 3)) y3 := hf 3 _ rfl
  have h4 : Tr enc w m 44 (([c0, c1, c2, c3, c4, c5, c6, c7, c8, c9, c10, c11, c12, c13].drop 4).take (Try.prog.cellsOf 44)) y4 := hf 4 _ rfl
  have h5 : Tr enc w m 47 (([c0, c1, c2, c3, c4, c5, c6, c7, c8, c9, c10, c11, c12, c13].drop 7).take (Try.prog.cellsOf 47)) y5 := hf 5 _ rfl
  have h6 : Tr enc w m 25 (([c0, c1, c2, c3, c4, c5, c6, c7, c8, c9, c10, c11, c12, c13].drop 12).take (Try.prog.cellsOf 25)) y6 := hf 6 _ rfl
  have h7 : Tr enc w m 24 (([c0, c1, c2, c3, c4, c5, c6, c7, c8, c9, c10, c11, c12, c13].drop 13).take (Try.prog.cellsOf 24)) y7 := hf 7 _ rfl
  simp only [cellsInt, cellsBool, cellsString, cellsType, cellsValue, cellsBound, cellsFields, cellsValues, cellsS_expr, cellsS_rel, cellsS_agg, cellsS_win, cellsS_key, cellsS_types, cellsS_rows, cellsS_sets, cellsExpr, List.drop_zero, List.drop_succ_cons, List.take_succ_cons, List.take_zero] at h0 h1 h2 h3 h4 h5 h6 h7
  simp only [List.map_cons, List.map_nil, Rows.uptoBulk, Rows.uptoBulkAll] at hb
  obtain ⟨k0, e0, b0⟩ := tr_int Try.underlying3 h0
  obtain ⟨k1, e1, b1⟩ := tr_int Try.underlying3 h1
  obtain ⟨k2, e2, b2⟩ := tr_int Try.underlying3 h2
  obtain ⟨k3, e3, b3⟩ := tr_int Try.underlying3 h3
  obtain ⟨tk, tsc, TA, tl, tc, e4⟩ := tr_type h4
  obtain ⟨vk, vn, vsc, vs, VA, vl, vc, e5⟩ := tr_value h5
  obtain ⟨A6, cap6, l6, e6, r6, i6, n6⟩ := open_sl .expr _ Try.underlying25 cellsExpr m (fun k hk => ih k (by omega) .expr) h6 (by omega)
  obtain ⟨A7, cap7, l7, e7, r7, i7, n7⟩ := open_sl .rel _ Try.underlying24 cellsRel m (fun k hk => ih k (by omega) .rel) h7 (by omega)
  simp only [List.cons.injEq, and_true] at e0 e1 e2 e3 e4 e5 e6 e7
  subst e0
  subst e1
  subst e2
  subst e3
  obtain ⟨e4_0, e4_1, e4_2⟩ := e4
  subst e4_0 e4_1 e4_2
  obtain ⟨e5_0, e5_1, e5_2, e5_3, e5_4⟩ := e5
  subst e5_0 e5_1 e5_2 e5_3 e5_4
  subst e6
  subst e7
  refine ⟨.node [.int .i64 k0, .int .i64 k1, .int .i64 k2, .int .i64 k3, .int .i64 tk, .int .i64 tsc, .slice TA tl tc, .int .i64 vk, .int .i64 vn, .int .i64 vsc, .string vs, .slice VA vl vc, .slice A6 l6.length cap6, .slice A7 l7.length cap7] [l6, l7], rfl, .mk .expr _ _ rfl (fun u hu => ?_) ⟨⟨k0, k1, k2, k3, tk, tsc, TA, tl, tc, vk, vn, vsc, vs, VA, vl, vc⟩, _, _, rfl, b0, b1, b2, b3⟩ rfl (fun i o s l h1 h2 => ?_) (fun i o s l h1 h2 => ?_), ?_⟩
  · simp only [List.mem_cons, List.not_mem_nil, or_false] at hu
    rcases hu with rfl | rfl | rfl | rfl | rfl | rfl | rfl | rfl | rfl | rfl | rfl | rfl | rfl | rfl <;> rfl
  · match i, h1, h2 with
    | 0, h1, h2 => cases h1; cases h2; exact ⟨A6, cap6, rfl, r6⟩
    | 1, h1, h2 => cases h1; cases h2; exact ⟨A7, cap7, rfl, r7⟩
    | i + 2, h1, h2 => simp [Ty.sl] at h1
  · match i, h1, h2 with
    | 0, h1, h2 => cases h1; cases h2; exact i6
    | 1, h1, h2 => cases h1; cases h2; exact i7
    | i + 2, h1, h2 => simp [Ty.sl] at h1
  · rw [DT.n_node]
    simp only [List.map_cons, List.map_nil, List.sum_cons, List.sum_nil, Rows.uptoBulk, Rows.uptoBulkAll]
    omega
theorem open_rel (n : Nat) (ih : ∀ k, k < n → ∀ t cs x, Tr enc w k (tyId t) cs x → Rows.uptoBulk x.1 ≤ 1048576 → Op w t cs x) (h : Tr enc w n 31 cs x) (hb : Rows.uptoBulk x.1 ≤ 1048576) : Op w .rel cs x := by
  obtain ⟨xs, m, rfl, hx, hl, hxl, hf⟩ := DataW.trod_struct Try.underlying31 h
  subst hx
  rw [cellsRel] at hl
  obtain ⟨c0, c1, c2, c3, c4, c5, c6, c7, c8, c9, c10, c11, c12, c13, rfl⟩ := ln14 hl
  obtain ⟨y0, y1, y2, y3, y4, y5, y6, y7, y8, y9, y10, y11, y12, y13, rfl⟩ := ln14 (show xs.length = 14 from hxl)
  have h0 : Tr enc w m 3 (([c0, c1, c2, c3, c4, c5, c6, c7, c8, c9, c10, c11, c12, c13].drop 0).take (Try.prog.cellsOf 3)) y0 := hf 0 _ rfl
  have h1 : Tr enc w m 3 (([c0, c1, c2, c3, c4, c5, c6, c7, c8, c9, c10, c11, c12, c13].drop 1).take (Try.prog.cellsOf 3)) y1 := hf 1 _ rfl
  have h2 : Tr enc w m 9 (([c0, c1, c2, c3, c4, c5, c6, c7, c8, c9, c10, c11, c12, c13].drop 2).take (Try.prog.cellsOf 9)) y2 := hf 2 _ rfl
  have h3 : Tr enc w m 4 (([c0, c1, c2, c3, c4, c5, c6, c7, c8, c9, c10, c11, c12, c13].drop 3).take (Try.prog.cellsOf 4)) y3 := hf 3 _ rfl
  have h4 : Tr enc w m 22 (([c0, c1, c2, c3, c4, c5, c6, c7, c8, c9, c10, c11, c12, c13].drop 4).take (Try.prog.cellsOf 22)) y4 := hf 4 _ rfl
  have h5 : Tr enc w m 23 (([c0, c1, c2, c3, c4, c5, c6, c7, c8, c9, c10, c11, c12, c13].drop 5).take (Try.prog.cellsOf 23)) y5 := hf 5 _ rfl
  have h6 : Tr enc w m 24 (([c0, c1, c2, c3, c4, c5, c6, c7, c8, c9, c10, c11, c12, c13].drop 6).take (Try.prog.cellsOf 24)) y6 := hf 6 _ rfl
  have h7 : Tr enc w m 25 (([c0, c1, c2, c3, c4, c5, c6, c7, c8, c9, c10, c11, c12, c13].drop 7).take (Try.prog.cellsOf 25)) y7 := hf 7 _ rfl
  have h8 : Tr enc w m 26 (([c0, c1, c2, c3, c4, c5, c6, c7, c8, c9, c10, c11, c12, c13].drop 8).take (Try.prog.cellsOf 26)) y8 := hf 8 _ rfl
  have h9 : Tr enc w m 27 (([c0, c1, c2, c3, c4, c5, c6, c7, c8, c9, c10, c11, c12, c13].drop 9).take (Try.prog.cellsOf 27)) y9 := hf 9 _ rfl
  have h10 : Tr enc w m 28 (([c0, c1, c2, c3, c4, c5, c6, c7, c8, c9, c10, c11, c12, c13].drop 10).take (Try.prog.cellsOf 28)) y10 := hf 10 _ rfl
  have h11 : Tr enc w m 29 (([c0, c1, c2, c3, c4, c5, c6, c7, c8, c9, c10, c11, c12, c13].drop 11).take (Try.prog.cellsOf 29)) y11 := hf 11 _ rfl
  have h12 : Tr enc w m 3 (([c0, c1, c2, c3, c4, c5, c6, c7, c8, c9, c10, c11, c12, c13].drop 12).take (Try.prog.cellsOf 3)) y12 := hf 12 _ rfl
  have h13 : Tr enc w m 3 (([c0, c1, c2, c3, c4, c5, c6, c7, c8, c9, c10, c11, c12, c13].drop 13).take (Try.prog.cellsOf 3)) y13 := hf 13 _ rfl
  simp only [cellsInt, cellsBool, cellsString, cellsType, cellsValue, cellsBound, cellsFields, cellsValues, cellsS_expr, cellsS_rel, cellsS_agg, cellsS_win, cellsS_key, cellsS_types, cellsS_rows, cellsS_sets, cellsExpr, List.drop_zero, List.drop_succ_cons, List.take_succ_cons, List.take_zero] at h0 h1 h2 h3 h4 h5 h6 h7 h8 h9 h10 h11 h12 h13
  simp only [List.map_cons, List.map_nil, Rows.uptoBulk, Rows.uptoBulkAll] at hb
  obtain ⟨k0, e0, b0⟩ := tr_int Try.underlying3 h0
  obtain ⟨k1, e1, b1⟩ := tr_int Try.underlying3 h1
  obtain ⟨k2, e2⟩ := tr_string Try.underlying9 h2
  obtain ⟨k3, e3⟩ := tr_bool Try.underlying4 h3
  obtain ⟨A4, ln4, cap4, e4, q4⟩ := tr_sl Try.underlying22 h4
  obtain ⟨A5, ln5, cap5, e5, q5⟩ := tr_sl Try.underlying23 h5
  obtain ⟨A6, cap6, l6, e6, r6, i6, n6⟩ := open_sl .rel _ Try.underlying24 cellsRel m (fun k hk => ih k (by omega) .rel) h6 (by omega)
  obtain ⟨A7, cap7, l7, e7, r7, i7, n7⟩ := open_sl .expr _ Try.underlying25 cellsExpr m (fun k hk => ih k (by omega) .expr) h7 (by omega)
  obtain ⟨A8, ln8, cap8, e8, q8⟩ := tr_sl Try.underlying26 h8
  obtain ⟨A9, cap9, l9, e9, r9, i9, n9⟩ := open_sl .agg _ Try.underlying27 cellsAgg m (fun k hk => ih k (by omega) .agg) h9 (by omega)
  obtain ⟨A10, cap10, l10, e10, r10, i10, n10⟩ := open_sl .win _ Try.underlying28 cellsWin m (fun k hk => ih k (by omega) .win) h10 (by omega)
  obtain ⟨A11, cap11, l11, e11, r11, i11, n11⟩ := open_sl .key _ Try.underlying29 cellsKey m (fun k hk => ih k (by omega) .key) h11 (by omega)
  obtain ⟨k12, e12, b12⟩ := tr_int Try.underlying3 h12
  obtain ⟨k13, e13, b13⟩ := tr_int Try.underlying3 h13
  simp only [List.cons.injEq, and_true] at e0 e1 e2 e3 e4 e5 e6 e7 e8 e9 e10 e11 e12 e13
  subst e0
  subst e1
  subst e2
  subst e3
  subst e4
  subst e5
  subst e6
  subst e7
  subst e8
  subst e9
  subst e10
  subst e11
  subst e12
  subst e13
  refine ⟨.node [.int .i64 k0, .int .i64 k1, .string k2, .bool k3, .slice A4 ln4 cap4, .slice A5 ln5 cap5, .slice A6 l6.length cap6, .slice A7 l7.length cap7, .slice A8 ln8 cap8, .slice A9 l9.length cap9, .slice A10 l10.length cap10, .slice A11 l11.length cap11, .int .i64 k12, .int .i64 k13] [l6, l7, l9, l10, l11], rfl, .mk .rel _ _ rfl (fun u hu => ?_) ⟨⟨k0, k1, k2, k3, A4, ln4, cap4, A5, ln5, cap5, A8, ln8, cap8, k12, k13⟩, _, _, _, _, _, rfl, b0, (show ln4 ≤ 1048576 by omega)⟩ rfl (fun i o s l h1 h2 => ?_) (fun i o s l h1 h2 => ?_), ?_⟩
  · simp only [List.mem_cons, List.not_mem_nil, or_false] at hu
    rcases hu with rfl | rfl | rfl | rfl | rfl | rfl | rfl | rfl | rfl | rfl | rfl | rfl | rfl | rfl <;> rfl
  · match i, h1, h2 with
    | 0, h1, h2 => cases h1; cases h2; exact ⟨A6, cap6, rfl, r6⟩
    | 1, h1, h2 => cases h1; cases h2; exact ⟨A7, cap7, rfl, r7⟩
    | 2, h1, h2 => cases h1; cases h2; exact ⟨A9, cap9, rfl, r9⟩
    | 3, h1, h2 => cases h1; cases h2; exact ⟨A10, cap10, rfl, r10⟩
    | 4, h1, h2 => cases h1; cases h2; exact ⟨A11, cap11, rfl, r11⟩
    | i + 5, h1, h2 => simp [Ty.sl] at h1
  · match i, h1, h2 with
    | 0, h1, h2 => cases h1; cases h2; exact i6
    | 1, h1, h2 => cases h1; cases h2; exact i7
    | 2, h1, h2 => cases h1; cases h2; exact i9
    | 3, h1, h2 => cases h1; cases h2; exact i10
    | 4, h1, h2 => cases h1; cases h2; exact i11
    | i + 5, h1, h2 => simp [Ty.sl] at h1
  · rw [DT.n_node]
    simp only [List.map_cons, List.map_nil, List.sum_cons, List.sum_nil, Rows.uptoBulk, Rows.uptoBulkAll]
    omega
theorem open_agg (n : Nat) (ih : ∀ k, k < n → ∀ t cs x, Tr enc w k (tyId t) cs x → Rows.uptoBulk x.1 ≤ 1048576 → Op w t cs x) (h : Tr enc w n 64 cs x) (hb : Rows.uptoBulk x.1 ≤ 1048576) : Op w .agg cs x := by
  obtain ⟨xs, m, rfl, hx, hl, hxl, hf⟩ := DataW.trod_struct Try.underlying64 h
  subst hx
  rw [cellsAgg] at hl
  obtain ⟨c0, c1, c2, c3, c4, rfl⟩ := ln5 hl
  obtain ⟨y0, y1, y2, y3, y4, rfl⟩ := ln5 (show xs.length = 5 from hxl)
  have h0 : Tr enc w m 3 (([c0, c1, c2, c3, c4].drop 0).take (Try.prog.cellsOf 3)) y0 := hf 0 _ rfl
  have h1 : Tr enc w m 3 (([c0, c1, c2, c3, c4].drop 1).take (Try.prog.cellsOf 3)) y1 := hf 1 _ rfl
  have h2 : Tr enc w m 4 (([c0, c1, c2, c3, c4].drop 2).take (Try.prog.cellsOf 4)) y2 := hf 2 _ rfl
  have h3 : Tr enc w m 25 (([c0, c1, c2, c3, c4].drop 3).take (Try.prog.cellsOf 25)) y3 := hf 3 _ rfl
  have h4 : Tr enc w m 25 (([c0, c1, c2, c3, c4].drop 4).take (Try.prog.cellsOf 25)) y4 := hf 4 _ rfl
  simp only [cellsInt, cellsBool, cellsString, cellsType, cellsValue, cellsBound, cellsFields, cellsValues, cellsS_expr, cellsS_rel, cellsS_agg, cellsS_win, cellsS_key, cellsS_types, cellsS_rows, cellsS_sets, cellsExpr, List.drop_zero, List.drop_succ_cons, List.take_succ_cons, List.take_zero] at h0 h1 h2 h3 h4
  simp only [List.map_cons, List.map_nil, Rows.uptoBulk, Rows.uptoBulkAll] at hb
  obtain ⟨k0, e0, b0⟩ := tr_int Try.underlying3 h0
  obtain ⟨k1, e1, b1⟩ := tr_int Try.underlying3 h1
  obtain ⟨k2, e2⟩ := tr_bool Try.underlying4 h2
  obtain ⟨A3, cap3, l3, e3, r3, i3, n3⟩ := open_sl .expr _ Try.underlying25 cellsExpr m (fun k hk => ih k (by omega) .expr) h3 (by omega)
  obtain ⟨A4, cap4, l4, e4, r4, i4, n4⟩ := open_sl .expr _ Try.underlying25 cellsExpr m (fun k hk => ih k (by omega) .expr) h4 (by omega)
  simp only [List.cons.injEq, and_true] at e0 e1 e2 e3 e4
  subst e0
  subst e1
  subst e2
  subst e3
  subst e4
  refine ⟨.node [.int .i64 k0, .int .i64 k1, .bool k2, .slice A3 l3.length cap3, .slice A4 l4.length cap4] [l3, l4], rfl, .mk .agg _ _ rfl (fun u hu => ?_) ⟨k0, k1, k2, _, _, rfl⟩ rfl (fun i o s l h1 h2 => ?_) (fun i o s l h1 h2 => ?_), ?_⟩
  · simp only [List.mem_cons, List.not_mem_nil, or_false] at hu
    rcases hu with rfl | rfl | rfl | rfl | rfl <;> rfl
  · match i, h1, h2 with
    | 0, h1, h2 => cases h1; cases h2; exact ⟨A3, cap3, rfl, r3⟩
    | 1, h1, h2 => cases h1; cases h2; exact ⟨A4, cap4, rfl, r4⟩
    | i + 2, h1, h2 => simp [Ty.sl] at h1
  · match i, h1, h2 with
    | 0, h1, h2 => cases h1; cases h2; exact i3
    | 1, h1, h2 => cases h1; cases h2; exact i4
    | i + 2, h1, h2 => simp [Ty.sl] at h1
  · rw [DT.n_node]
    simp only [List.map_cons, List.map_nil, List.sum_cons, List.sum_nil, Rows.uptoBulk, Rows.uptoBulkAll]
    omega
theorem open_win (n : Nat) (ih : ∀ k, k < n → ∀ t cs x, Tr enc w k (tyId t) cs x → Rows.uptoBulk x.1 ≤ 1048576 → Op w t cs x) (h : Tr enc w n 68 cs x) (hb : Rows.uptoBulk x.1 ≤ 1048576) : Op w .win cs x := by
  obtain ⟨xs, m, rfl, hx, hl, hxl, hf⟩ := DataW.trod_struct Try.underlying68 h
  subst hx
  rw [cellsWin] at hl
  obtain ⟨c0, c1, c2, c3, c4, c5, c6, c7, c8, c9, c10, c11, rfl⟩ := ln12 hl
  obtain ⟨y0, y1, y2, y3, y4, y5, y6, y7, y8, y9, rfl⟩ := ln10 (show xs.length = 10 from hxl)
  have h0 : Tr enc w m 3 (([c0, c1, c2, c3, c4, c5, c6, c7, c8, c9, c10, c11].drop 0).take (Try.prog.cellsOf 3)) y0 := hf 0 _ rfl
  have h1 : Tr enc w m 3 (([c0, c1, c2, c3, c4, c5, c6, c7, c8, c9, c10, c11].drop 1).take (Try.prog.cellsOf 3)) y1 := hf 1 _ rfl
  have h2 : Tr enc w m 25 (([c0, c1, c2, c3, c4, c5, c6, c7, c8, c9, c10, c11].drop 2).take (Try.prog.cellsOf 25)) y2 := hf 2 _ rfl
  have h3 : Tr enc w m 27 (([c0, c1, c2, c3, c4, c5, c6, c7, c8, c9, c10, c11].drop 3).take (Try.prog.cellsOf 27)) y3 := hf 3 _ rfl
  have h4 : Tr enc w m 25 (([c0, c1, c2, c3, c4, c5, c6, c7, c8, c9, c10, c11].drop 4).take (Try.prog.cellsOf 25)) y4 := hf 4 _ rfl
  have h5 : Tr enc w m 29 (([c0, c1, c2, c3, c4, c5, c6, c7, c8, c9, c10, c11].drop 5).take (Try.prog.cellsOf 29)) y5 := hf 5 _ rfl
  have h6 : Tr enc w m 29 (([c0, c1, c2, c3, c4, c5, c6, c7, c8, c9, c10, c11].drop 6).take (Try.prog.cellsOf 29)) y6 := hf 6 _ rfl
  have h7 : Tr enc w m 3 (([c0, c1, c2, c3, c4, c5, c6, c7, c8, c9, c10, c11].drop 7).take (Try.prog.cellsOf 3)) y7 := hf 7 _ rfl
  have h8 : Tr enc w m 66 (([c0, c1, c2, c3, c4, c5, c6, c7, c8, c9, c10, c11].drop 8).take (Try.prog.cellsOf 66)) y8 := hf 8 _ rfl
  have h9 : Tr enc w m 66 (([c0, c1, c2, c3, c4, c5, c6, c7, c8, c9, c10, c11].drop 10).take (Try.prog.cellsOf 66)) y9 := hf 9 _ rfl
  simp only [cellsInt, cellsBool, cellsString, cellsType, cellsValue, cellsBound, cellsFields, cellsValues, cellsS_expr, cellsS_rel, cellsS_agg, cellsS_win, cellsS_key, cellsS_types, cellsS_rows, cellsS_sets, cellsExpr, List.drop_zero, List.drop_succ_cons, List.take_succ_cons, List.take_zero] at h0 h1 h2 h3 h4 h5 h6 h7 h8 h9
  simp only [List.map_cons, List.map_nil, Rows.uptoBulk, Rows.uptoBulkAll] at hb
  obtain ⟨k0, e0, b0⟩ := tr_int Try.underlying3 h0
  obtain ⟨k1, e1, b1⟩ := tr_int Try.underlying3 h1
  obtain ⟨A2, cap2, l2, e2, r2, i2, n2⟩ := open_sl .expr _ Try.underlying25 cellsExpr m (fun k hk => ih k (by omega) .expr) h2 (by omega)
  obtain ⟨A3, cap3, l3, e3, r3, i3, n3⟩ := open_sl .agg _ Try.underlying27 cellsAgg m (fun k hk => ih k (by omega) .agg) h3 (by omega)
  obtain ⟨A4, cap4, l4, e4, r4, i4, n4⟩ := open_sl .expr _ Try.underlying25 cellsExpr m (fun k hk => ih k (by omega) .expr) h4 (by omega)
  obtain ⟨A5, cap5, l5, e5, r5, i5, n5⟩ := open_sl .key _ Try.underlying29 cellsKey m (fun k hk => ih k (by omega) .key) h5 (by omega)
  obtain ⟨A6, cap6, l6, e6, r6, i6, n6⟩ := open_sl .key _ Try.underlying29 cellsKey m (fun k hk => ih k (by omega) .key) h6 (by omega)
  obtain ⟨k7, e7, b7⟩ := tr_int Try.underlying3 h7
  obtain ⟨f8, g8, e8⟩ := tr_bound h8
  obtain ⟨f9, g9, e9⟩ := tr_bound h9
  simp only [List.cons.injEq, and_true] at e0 e1 e2 e3 e4 e5 e6 e7 e8 e9
  subst e0
  subst e1
  subst e2
  subst e3
  subst e4
  subst e5
  subst e6
  subst e7
  obtain ⟨e8_0, e8_1⟩ := e8
  subst e8_0 e8_1
  obtain ⟨e9_0, e9_1⟩ := e9
  subst e9_0 e9_1
  refine ⟨.node [.int .i64 k0, .int .i64 k1, .slice A2 l2.length cap2, .slice A3 l3.length cap3, .slice A4 l4.length cap4, .slice A5 l5.length cap5, .slice A6 l6.length cap6, .int .i64 k7, .int .i64 f8, .int .i64 g8, .int .i64 f9, .int .i64 g9] [l2, l3, l4, l5, l6], rfl, .mk .win _ _ rfl (fun u hu => ?_) ⟨k0, k1, _, _, _, _, _, k7, f8, g8, f9, g9, rfl⟩ rfl (fun i o s l h1 h2 => ?_) (fun i o s l h1 h2 => ?_), ?_⟩
  · simp only [List.mem_cons, List.not_mem_nil, or_false] at hu
    rcases hu with rfl | rfl | rfl | rfl | rfl | rfl | rfl | rfl | rfl | rfl | rfl | rfl <;> rfl
  · match i, h1, h2 with
    | 0, h1, h2 => cases h1; cases h2; exact ⟨A2, cap2, rfl, r2⟩
    | 1, h1, h2 => cases h1; cases h2; exact ⟨A3, cap3, rfl, r3⟩
    | 2, h1, h2 => cases h1; cases h2; exact ⟨A4, cap4, rfl, r4⟩
    | 3, h1, h2 => cases h1; cases h2; exact ⟨A5, cap5, rfl, r5⟩
    | 4, h1, h2 => cases h1; cases h2; exact ⟨A6, cap6, rfl, r6⟩
    | i + 5, h1, h2 => simp [Ty.sl] at h1
  · match i, h1, h2 with
    | 0, h1, h2 => cases h1; cases h2; exact i2
    | 1, h1, h2 => cases h1; cases h2; exact i3
    | 2, h1, h2 => cases h1; cases h2; exact i4
    | 3, h1, h2 => cases h1; cases h2; exact i5
    | 4, h1, h2 => cases h1; cases h2; exact i6
    | i + 5, h1, h2 => simp [Ty.sl] at h1
  · rw [DT.n_node]
    simp only [List.map_cons, List.map_nil, List.sum_cons, List.sum_nil, Rows.uptoBulk, Rows.uptoBulkAll]
    omega
theorem open_key (n : Nat) (ih : ∀ k, k < n → ∀ t cs x, Tr enc w k (tyId t) cs x → Rows.uptoBulk x.1 ≤ 1048576 → Op w t cs x) (h : Tr enc w n 70 cs x) (hb : Rows.uptoBulk x.1 ≤ 1048576) : Op w .key cs x := by
  obtain ⟨xs, m, rfl, hx, hl, hxl, hf⟩ := DataW.trod_struct Try.underlying70 h
  subst hx
  rw [cellsKey] at hl
  obtain ⟨y0, y1, y2, rfl⟩ := ln3 (show xs.length = 3 from hxl)
  have h0 : Tr enc w m 49 ((cs.drop 0).take (Try.prog.cellsOf 49)) y0 := hf 0 _ rfl
  have h1 : Tr enc w m 4 ((cs.drop 14).take (Try.prog.cellsOf 4)) y1 := hf 1 _ rfl
  have h2 : Tr enc w m 4 ((cs.drop 15).take (Try.prog.cellsOf 4)) y2 := hf 2 _ rfl
  rw [cellsExpr, List.drop_zero] at h0
  rw [cellsBool] at h1 h2
  simp only [List.map_cons, List.map_nil, Rows.uptoBulk, Rows.uptoBulkAll] at hb
  obtain ⟨d, hdc, hin, hdn⟩ := ih m (by omega) .expr _ _ h0 (by omega)
  obtain ⟨b1, e1⟩ := tr_bool Try.underlying4 h1
  obtain ⟨b2, e2⟩ := tr_bool Try.underlying4 h2
  have hcs : cs = d.c ++ [.bool b1, .bool b2] := by
    rw [hdc, show ([.bool b1, .bool b2] : List Value) = [.bool b1] ++ [.bool b2] from rfl, ← e1, ← e2]
    have q1 : (cs.drop 14).take 1 ++ (cs.drop 15).take 1 = cs.drop 14 := by
      have : cs.drop 15 = (cs.drop 14).drop 1 := by rw [List.drop_drop]
      rw [this, List.take_of_length_le (l := (cs.drop 14).drop 1) (by simp; omega), List.take_append_drop]
    rw [q1, List.take_append_drop]
  cases hin with
  | mk _ c k hlc h1c hok hk hr hx =>
    obtain ⟨a, v12, v13, rfl, ha⟩ := hok
    refine ⟨.node cs k, rfl, .mk .key _ _ hl (fun u hu => ?_) ⟨a, v12, v13, b1, b2, by rw [hcs]; rfl, ha⟩ hk (fun i o s l g1 g2 => ?_) (fun i o s l g1 g2 => hx i o s l g1 g2), ?_⟩
    · rw [hcs] at hu
      rcases List.mem_append.1 hu with hu | hu
      · exact h1c u hu
      · simp at hu
        rcases hu with rfl | rfl <;> rfl
    · obtain ⟨A, cap, e, hrow⟩ := hr i o s l g1 g2
      refine ⟨A, cap, ?_, hrow⟩
      rw [hcs]
      exact (List.getElem?_append_left (List.getElem?_eq_some_iff.1 e).1).trans e
    · rw [DT.n_node] at hdn ⊢
      simp only [List.map_cons, List.map_nil, Rows.uptoBulk, Rows.uptoBulkAll]
      omega
theorem open_all : ∀ (n : Nat) (t : Ty) (cs : List Value) (x : DataW H × List MemPlace), Tr enc w n (tyId t) cs x → Rows.uptoBulk x.1 ≤ 1048576 → Op w t cs x := by
  intro n
  induction n using Nat.strongRecOn with
  | ind n ih =>
    intro t cs x h hb
    cases t with
    | expr => exact open_expr n ih h hb
    | rel => exact open_rel n ih h hb
    | agg => exact open_agg n ih h hb
    | win => exact open_win n ih h hb
    | key => exact open_key n ih h hb
end
end Go.Proofs.Ytoeamomklmoncaa
