/-
  Rows, opened with their bulk.
-/
import Derived.Test.YtcdaipkkddgbeaaQCopyB
import Derived.Test.YtcdaipkkddgbeaaQBatW0
namespace Go.Proofs.Ytcdaipkkddgbeaa
open Go.RowKit Go.ChangeShapes Go.WideShapes
mutual
/-- How many values a value holds. -/
def nodesV : VT → Nat
  | .node _ l => 1 + nodesL l
def nodesL : List VT → Nat
  | [] => 0
  | x :: r => nodesV x + nodesL r
end
theorem nodesV_pos (v : VT) : 1 ≤ nodesV v := by cases v; simp only [nodesV]; omega
theorem nodes_len : ∀ l : List VT, l.length ≤ nodesL l
  | [] => Nat.zero_le _
  | x :: r => by
    have h1 := nodesV_pos x
    have h2 := nodes_len r
    simp only [nodesL, List.length_cons]
    omega
theorem nodes_mem : ∀ {l : List VT} {x : VT}, x ∈ l → nodesV x ≤ nodesL l
  | y :: r, x, h => by
    simp only [nodesL]
    rcases List.mem_cons.1 h with rfl | h
    · omega
    · have := nodes_mem h
      omega
theorem sml_of : ∀ x : VT, nodesV x ≤ 1048576 → VT.Sml x := by
  refine VT.ind fun a l ih h => ?_
  simp only [nodesV] at h
  have hl := nodes_len l
  exact .mk a l (by omega) fun y hy => ih y hy (by have := nodes_mem hy; omega)
section
variable {H : Type} {enc : TypeId × Value → H} {w : World}
theorem Tr.rd {n : Nat} {t : TypeId} {cs : List Value} {x : DataW H × List MemPlace} (h : Tr enc w n t cs x) : Rd enc w n t cs := ⟨x, h⟩
theorem bulk_get {es : List (DataW H)} {i : Nat} {y : DataW H} (h : es[i]? = some y) : Rows.uptoBulk y ≤ Rows.uptoBulkAll es := bulk_part (List.mem_of_getElem? h)
theorem nodes_bulk : ∀ (l : List VT) (es : List (DataW H)), l.length = es.length → (∀ (i : Nat) (X : VT) (y : DataW H), l[i]? = some X → es[i]? = some y → nodesV X ≤ Rows.uptoBulk y) → nodesL l ≤ Rows.uptoBulkAll es
  | [], es, _, _ => Nat.zero_le _
  | x :: r, [], h, _ => by simp at h
  | x :: r, y :: es, h, hp => by
    have h1 := hp 0 x y rfl rfl
    have h2 := nodes_bulk r es (by simpa using h) fun i X y' hX hy => hp (i + 1) X y' (by simpa using hX) (by simpa using hy)
    simp only [nodesL, Rows.uptoBulkAll]
    omega
theorem trb_slice {n c : Nat} {t e : TypeId} {cs : List Value} {x : DataW H × List MemPlace} (ht : Try.prog.underlying t = some (.slice e)) (hc : Try.prog.cellsOf e = c) (hc0 : 0 < c) (h : Tr enc w n t cs x) :
    ∃ (A : Option Addr) (len cap m : Nat) (es : List (DataW H)), n = m + 1 ∧ cs = [.slice A len cap] ∧ len ≤ cap ∧ cap ≤ maxLen ∧ es.length = len ∧ Rows.uptoBulkAll es + 1 ≤ Rows.uptoBulk x.1 ∧
      ∀ i, i < len → ∃ (ad : Addr) (cs' : List Value) (y : DataW H × List MemPlace), A = some ad ∧ ad.block < w.heap.size ∧ cs'.length = c ∧ (∀ k, k < c → w.cell? ((ad.add (i * c)).add k) = cs'[k]?) ∧ Tr enc w m e cs' y ∧ es[i]? = some y.1 := by
  rcases DataW.trod_slice ht h with ⟨rfl, rfl⟩ | ⟨a, len, cap, elems, rest, m, hn, rfl, rfl, _, hl, hm, hlen, hel, _⟩
  · cases n with
    | zero => simp [Tr, DataW.trod] at h
    | succ m => exact ⟨none, 0, 0, m, [], rfl, rfl, Nat.le_refl _, Nat.zero_le _, rfl, by simp [Rows.uptoBulk, Rows.uptoBulkAll], fun i hi => absurd hi (Nat.not_lt_zero _)⟩
  · refine ⟨some a, len, cap, m, elems.map (·.1), hn, rfl, hl, hm, by rw [List.length_map]; exact hlen, by simp only [Rows.uptoBulk]; omega, fun i hi => ?_⟩
    have hei := hel i hi
    rw [List.getElem?_eq_getElem (show i < elems.length by omega), hc] at hei
    obtain ⟨cs', h1, h2⟩ := Option.bind_eq_some_iff.1 hei
    obtain ⟨_, hl', hcell⟩ := World.cells?_some h1
    refine ⟨a, cs', _, rfl, ?_, hl', hcell, h2, by rw [List.getElem?_map, List.getElem?_eq_getElem (show i < elems.length by omega)]; rfl⟩
    have h0 := hcell 0 hc0
    rw [List.getElem?_eq_getElem (show 0 < cs'.length by omega)] at h0
    have := cell_lt h0
    rw [block_add, block_add] at this
    exact this
theorem open_valueB : ∀ (n : Nat) (cs : List Value) (x : DataW H × List MemPlace), Tr enc w n 33 cs x →
    ∃ X : VT, cs = [.int .i64 X.a.k, .int .i64 X.a.n, .int .i64 X.a.sc, .string X.a.s, .slice X.a.A X.l.length X.a.cap] ∧ VT.In w.heap.size w X ∧ nodesV X ≤ Rows.uptoBulk x.1 := by
  intro n
  induction n using Nat.strongRecOn with
  | ind n ih =>
    intro cs x h
    obtain ⟨xs, m, rfl, rfl, hl, hxl, hf⟩ := DataW.trod_struct Try.underlying33 h
    rw [cellsValue] at hl
    obtain ⟨c0, c1, c2, c3, c4, rfl⟩ := len5 hl
    have hg : ∀ (i : Nat), i < xs.length → ∃ y, xs[i]? = some y := fun i hi => ⟨_, List.getElem?_eq_getElem hi⟩
    have hxl5 : xs.length = 5 := hxl
    obtain ⟨y0, hy0⟩ := hg 0 (by omega)
    obtain ⟨y1, hy1⟩ := hg 1 (by omega)
    obtain ⟨y2, hy2⟩ := hg 2 (by omega)
    obtain ⟨y3, hy3⟩ := hg 3 (by omega)
    obtain ⟨y4, hy4⟩ := hg 4 (by omega)
    have h0 : Rd enc w m 3 (([c0, c1, c2, c3, c4].drop 0).take (Try.prog.cellsOf 3)) := ⟨y0, (hf 0 _ rfl).trans hy0⟩
    have h1 : Rd enc w m 3 (([c0, c1, c2, c3, c4].drop 1).take (Try.prog.cellsOf 3)) := ⟨y1, (hf 1 _ rfl).trans hy1⟩
    have h2 : Rd enc w m 3 (([c0, c1, c2, c3, c4].drop 2).take (Try.prog.cellsOf 3)) := ⟨y2, (hf 2 _ rfl).trans hy2⟩
    have h3 : Rd enc w m 9 (([c0, c1, c2, c3, c4].drop 3).take (Try.prog.cellsOf 9)) := ⟨y3, (hf 3 _ rfl).trans hy3⟩
    have h4 : Tr enc w m 27 (([c0, c1, c2, c3, c4].drop 4).take (Try.prog.cellsOf 27)) y4 := (hf 4 _ rfl).trans hy4
    simp only [cellsInt, cellsString, cellsValues, List.drop_zero, List.drop_succ_cons, List.take_succ_cons, List.take_zero] at h0 h1 h2 h3 h4
    obtain ⟨k, e0, hk⟩ := rd_int Try.underlying3 h0
    obtain ⟨nn, e1, hn⟩ := rd_int Try.underlying3 h1
    obtain ⟨sc, e2, hsc⟩ := rd_int Try.underlying3 h2
    obtain ⟨s, e3, hs⟩ := rd_string Try.underlying9 h3
    obtain ⟨A, len, cap, m2, es, rfl, e4, hlc, hcm, hes, hbk, hel⟩ := trb_slice Try.underlying27 cellsValue (by omega) h4
    simp only [List.cons.injEq, and_true] at e0 e1 e2 e3 e4
    subst e0 e1 e2 e3 e4
    have hx : ∀ i, i < len → ∃ X : VT, (∃ ad : Addr, A = some ad ∧ ad.block < w.heap.size ∧ X.At w (ad.add (i * 5))) ∧ VT.In w.heap.size w X ∧ ∀ y, es[i]? = some y → nodesV X ≤ Rows.uptoBulk y := fun i hi => by
      obtain ⟨ad, cs', y, hA, hb, hl', hc, hr, hy⟩ := hel i hi
      obtain ⟨X, hX, hin, hnd⟩ := ih m2 (by omega) _ _ hr
      subst hX
      have k0 := hc 0 (by omega)
      have k1 := hc 1 (by omega)
      have k2 := hc 2 (by omega)
      have k3 := hc 3 (by omega)
      have k4 := hc 4 (by omega)
      exact ⟨X, ⟨ad, hA, hb, k0, k1, k2, k3, k4⟩, hin, fun y' hy' => by rw [hy] at hy'; cases hy'; exact hnd⟩
    obtain ⟨l, hll, hlp⟩ := list_choose hx
    have hnl := nodes_bulk l es (by omega) fun i X y hX hy => (hlp i X hX).2.2 y hy
    refine ⟨.node ⟨k, nn, sc, s, A, cap⟩ l, by simp [VT.a, VT.l, hll], .mk k nn sc s A cap l hk hn hsc hs ⟨by omega, hcm, fun i x hx => (hlp i x hx).1⟩ fun x hx => ?_, ?_⟩
    · obtain ⟨i, hi⟩ := List.getElem?_of_mem hx
      exact (hlp i x hi).2.1
    · have h5 := bulk_get (es := xs.map (·.1)) (i := 4) (y := y4.1) (by rw [List.getElem?_map, hy4]; rfl)
      simp only [nodesV, Rows.uptoBulk]
      omega
theorem open_valuesB {n : Nat} {cs : List Value} {x : DataW H × List MemPlace} (h : Tr enc w n 27 cs x) : ∃ (A : Option Addr) (cap : Nat) (l : List VT), cs = [.slice A l.length cap] ∧ VT.Rows w.heap.size w A cap l ∧ nodesL l ≤ Rows.uptoBulk x.1 := by
  obtain ⟨A, len, cap, m2, es, rfl, e4, hlc, hcm, hes, hbk, hel⟩ := trb_slice Try.underlying27 cellsValue (by omega) h
  have hx : ∀ i, i < len → ∃ X : VT, (∃ ad : Addr, A = some ad ∧ ad.block < w.heap.size ∧ X.At w (ad.add (i * 5))) ∧ VT.In w.heap.size w X ∧ ∀ y, es[i]? = some y → nodesV X ≤ Rows.uptoBulk y := fun i hi => by
    obtain ⟨ad, cs', y, hA, hb, hl', hc, hr, hy⟩ := hel i hi
    obtain ⟨X, hX, hin, hnd⟩ := open_valueB _ _ _ hr
    subst hX
    have k0 := hc 0 (by omega)
    have k1 := hc 1 (by omega)
    have k2 := hc 2 (by omega)
    have k3 := hc 3 (by omega)
    have k4 := hc 4 (by omega)
    exact ⟨X, ⟨ad, hA, hb, k0, k1, k2, k3, k4⟩, hin, fun y' hy' => by rw [hy] at hy'; cases hy'; exact hnd⟩
  obtain ⟨l, hll, hlp⟩ := list_choose hx
  have hnl := nodes_bulk l es (by omega) fun i X y hX hy => (hlp i X hX).2.2 y hy
  refine ⟨A, cap, l, by rw [e4, hll], ⟨⟨by omega, hcm, fun i x hx => (hlp i x hx).1⟩, fun x hx => ?_⟩, by omega⟩
  obtain ⟨i, hi⟩ := List.getElem?_of_mem hx
  exact (hlp i x hi).2.1
theorem open_rowsB {n : Nat} {cs : List Value} {x : DataW H × List MemPlace} (h : Tr enc w n 22 cs x) :
    ∃ (A : Option Addr) (cap : Nat) (l : List VT), cs = [.slice A l.length cap] ∧ VT.RRow w.heap.size w A cap l ∧ ∀ r, r ∈ l → nodesL r.l ≤ Rows.uptoBulk x.1 := by
  obtain ⟨A, len, cap, m2, es, rfl, e4, hlc, hcm, hes, hbk, hel⟩ := trb_slice Try.underlying22 cellsValues (by omega) h
  have hx : ∀ i, i < len → ∃ X : VT, (∃ ad : Addr, A = some ad ∧ ad.block < w.heap.size ∧ w.cell? (ad.add i) = some (.slice X.a.A X.l.length X.a.cap)) ∧ VT.Rows w.heap.size w X.a.A X.a.cap X.l ∧ nodesL X.l ≤ Rows.uptoBulk x.1 := fun i hi => by
    obtain ⟨ad, cs', y, hA, hb, hl', hc, hr, hy⟩ := hel i hi
    obtain ⟨A', cap', l', hX, hin, hnd⟩ := open_valuesB hr
    subst hX
    have k0 := hc 0 (by omega)
    rw [Nat.mul_one] at k0
    have := bulk_get hy
    exact ⟨.node ⟨0, 0, 0, ByteArray.empty, A', cap'⟩ l', ⟨ad, hA, hb, k0⟩, hin, by show nodesL l' ≤ _; omega⟩
  obtain ⟨l, hll, hlp⟩ := list_choose hx
  refine ⟨A, cap, l, by rw [e4, hll], ⟨by omega, hcm, fun x hx => ?_, fun i x hx => (hlp i x hx).1⟩, fun x hx => ?_⟩
  · obtain ⟨i, hi⟩ := List.getElem?_of_mem hx
    exact (hlp i x hi).2.1
  · obtain ⟨i, hi⟩ := List.getElem?_of_mem hx
    exact (hlp i x hi).2.2
end
end Go.Proofs.Ytcdaipkkddgbeaa
