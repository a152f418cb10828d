/-
  How long a value's text can be; and rows, opened with their bulk.
-/
import Derived.Test.YteeabfdafnncfaaDoorQTxU
import Derived.Test.YteeabfdafnncfaaDoorQBatW0
namespace Go.Proofs.YteeabfdafnncfaaDoor
open Go.RowKit Go.ChangeShapes Go.WideShapes
mutual
/-- How many values a value holds. -/
def nodesV : VT → Nat
  | .node _ l => 1 + nodesL l
def nodesL : List VT → Nat
  | [] => 0
  | x :: r => nodesV x + nodesL r
end
theorem nodesV_pos (v : VT) : 1 ≤ nodesV v := by cases v; simp only [nodesV]; omega
theorem join_sum (L : List (List UInt8)) (sep : List UInt8) : (Lib.join L sep).length ≤ (L.map fun x => x.length + sep.length).sum := by
  cases L with
  | nil => simp [Lib.join_nil]
  | cons x r =>
    rw [Lib.join_length]
    have : ∀ (l : List (List UInt8)), sep.length * l.length + Lib.lens l = (l.map fun x => x.length + sep.length).sum := by
      intro l
      induction l with
      | nil => simp [Lib.lens]
      | cons y l ih =>
        simp only [Lib.lens, List.map_cons, List.sum_cons, List.length_cons] at ih ⊢
        rw [Nat.mul_succ]
        omega
    have h2 := this (x :: r)
    rw [List.length_cons, Nat.mul_succ] at h2
    omega
theorem sum_nodes (f : VT → Nat) (k : Nat) : ∀ (l : List VT), (∀ x, x ∈ l → f x ≤ k * nodesV x) → (l.map f).sum ≤ k * nodesL l
  | [], _ => by simp [nodesL]
  | x :: r, h => by
    have h1 := h x (by simp)
    have h2 := sum_nodes f k r fun y hy => h y (by simp [hy])
    simp only [List.map_cons, List.sum_cons, nodesL, Nat.mul_add]
    omega
theorem dec_len {n sc : Int} (h0 : -999999999999999999 ≤ n) (h1 : n ≤ 999999999999999999) (h2 : sc ≤ 12) : (decL n sc).length ≤ 100 := by
  have hp := padL_len (if n < 0 then -n else n) (sc + 1) (by constructor <;> split <;> omega)
  unfold decL
  simp only [List.length_append, List.length_take, List.length_drop, List.length_singleton]
  have : (if n < 0 then ([45] : List UInt8) else []).length ≤ 1 := by split <;> simp
  omega
theorem mom_len {n : Int} (h0 : -62135596800 ≤ n) (h1 : n ≤ 253402300799) : (momL n).length ≤ 300 := by
  obtain ⟨_, m1, m2, d1, d2, y0, y1⟩ := ymd_ok (n / 86400) (by omega)
  have y1 := y1 (by omega)
  have d3 := md_bd (yI (n / 86400)) (moI (n / 86400))
  have p1 := padL_len (yI (n / 86400)) 4 ⟨by omega, by omega⟩
  have p2 := padL_len (moI (n / 86400)) 2 ⟨by omega, by omega⟩
  have p3 := padL_len (dI (n / 86400)) 2 ⟨by omega, by omega⟩
  have p4 := padL_len (n % 86400 / 3600) 2 ⟨by omega, by omega⟩
  have p5 := padL_len (n % 86400 % 3600 / 60) 2 ⟨by omega, by omega⟩
  have p6 := padL_len (n % 86400 % 60) 2 ⟨by omega, by omega⟩
  unfold momL cvL
  simp only [List.length_append, List.length_singleton]
  omega
theorem txt_len : ∀ (v : VT), OkV v → (txtV v).length + 2 ≤ 600 * nodesV v := by
  refine VT.ind fun a l ih hok => ?_
  obtain ⟨hal, hox⟩ := hok.inv
  have hpos : 600 ≤ 600 * nodesV (.node a l) := by have := nodesV_pos (.node a l); omega
  have hlist : (Lib.join (l.map txtV) [44, 32]).length ≤ 600 * nodesL l := by
    refine Nat.le_trans (join_sum _ _) ?_
    rw [List.map_map]
    exact sum_nodes _ 600 l fun x hx => ih x hx (hox x hx)
  rcases alone_kind hal with h | ⟨h, _⟩ | ⟨h, n0, n1⟩ | ⟨h, n0, n1, c0, c1⟩ | ⟨h, hs⟩ | ⟨h, n0, n1⟩ | h | h
  · rw [txtV_leaf (by omega) (by omega), h]; have : (leafL 0 a.n a.sc a.s).length = 4 := rfl
    omega
  · rw [txtV_leaf (by omega) (by omega), h]
    have : (leafL 1 a.n a.sc a.s).length ≤ 5 := by show (if a.n = 1 then _ else _ : List UInt8).length ≤ 5; split <;> simp
    omega
  · rw [txtV_leaf (by omega) (by omega), h]
    have : (leafL 2 a.n a.sc a.s).length ≤ 21 := itoa_len a.n ⟨by omega, by omega⟩
    omega
  · rw [txtV_leaf (by omega) (by omega), h]
    have : (leafL 3 a.n a.sc a.s).length ≤ 100 := dec_len n0 n1 c1
    omega
  · rw [txtV_leaf (by omega) (by omega), h]
    have h1 := quoL_len a.s.data.toList
    have h2 : a.s.data.toList.length = a.s.size := Array.length_toList
    have : (leafL 4 a.n a.sc a.s).length ≤ 514 := by show ([39] ++ quoL a.s.data.toList ++ [39]).length ≤ 514; simp only [List.length_append, List.length_singleton]; omega
    omega
  · rw [txtV_leaf (by omega) (by omega), h]
    have : (leafL 5 a.n a.sc a.s).length ≤ 300 := mom_len n0 n1
    omega
  · rw [txtV_list h]
    simp only [nodesV, List.length_append, List.length_singleton, Nat.mul_add]
    omega
  · rw [txtV_record h]
    simp only [nodesV, List.length_append, List.length_singleton, Nat.mul_add]
    omega
theorem row_len (l : List VT) : (rowL l).length ≤ 601 * nodesL l := by
  refine Nat.le_trans (join_sum _ _) ?_
  rw [List.map_map]
  refine sum_nodes _ 601 l fun x _ => ?_
  have hp := nodesV_pos x
  show (txtA x).length + 3 ≤ _
  unfold txtA
  split
  · rename_i h
    have := txt_len x (ok_of_sd x 1 0 h)
    omega
  · simp; omega
section
variable {H : Type} {enc : TypeId × Value → H} {w : World}
theorem Tr.rd {n : Nat} {t : TypeId} {cs : List Value} {x : DataW H × List MemPlace} (h : Tr enc w n t cs x) : Rd enc w n t cs := ⟨x, h⟩
theorem bulk_get {es : List (DataW H)} {i : Nat} {y : DataW H} (h : es[i]? = some y) : Rows.uptoBulk y ≤ Rows.uptoBulkAll es := bulk_part (List.mem_of_getElem? h)
theorem nodes_bulk : ∀ (l : List VT) (es : List (DataW H)), l.length = es.length → (∀ (i : Nat) (X : VT) (y : DataW H), l[i]? = some X → es[i]? = some y → nodesV X ≤ Rows.uptoBulk y) → nodesL l ≤ Rows.uptoBulkAll es
  | [], es, _, _ => Nat.zero_le _
  | x :: r, [], h, _ => by simp at h
  | x :: r, y :: es, h, hp => by
    have h1 := hp 0 x y rfl rfl
    have h2 := nodes_bulk r es (by simpa using h) fun i X y' hX hy => hp (i + 1) X y' (by simpa using hX) (by simpa using hy)
    simp only [nodesL, Rows.uptoBulkAll]
    omega
theorem trb_slice {n c : Nat} {t e : TypeId} {cs : List Value} {x : DataW H × List MemPlace} (ht : Tryd.prog.underlying t = some (.slice e)) (hc : Tryd.prog.cellsOf e = c) (hc0 : 0 < c) (h : Tr enc w n t cs x) :
    ∃ (A : Option Addr) (len cap m : Nat) (es : List (DataW H)), n = m + 1 ∧ cs = [.slice A len cap] ∧ len ≤ cap ∧ cap ≤ maxLen ∧ es.length = len ∧ Rows.uptoBulkAll es + 1 ≤ Rows.uptoBulk x.1 ∧
      ∀ i, i < len → ∃ (ad : Addr) (cs' : List Value) (y : DataW H × List MemPlace), A = some ad ∧ ad.block < w.heap.size ∧ cs'.length = c ∧ (∀ k, k < c → w.cell? ((ad.add (i * c)).add k) = cs'[k]?) ∧ Tr enc w m e cs' y ∧ es[i]? = some y.1 := by
  rcases DataW.trod_slice ht h with ⟨rfl, rfl⟩ | ⟨a, len, cap, elems, rest, m, hn, rfl, rfl, _, hl, hm, hlen, hel, _⟩
  · cases n with
    | zero => simp [Tr, DataW.trod] at h
    | succ m => exact ⟨none, 0, 0, m, [], rfl, rfl, Nat.le_refl _, Nat.zero_le _, rfl, by simp [Rows.uptoBulk, Rows.uptoBulkAll], fun i hi => absurd hi (Nat.not_lt_zero _)⟩
  · refine ⟨some a, len, cap, m, elems.map (·.1), hn, rfl, hl, hm, by rw [List.length_map]; exact hlen, by simp only [Rows.uptoBulk]; omega, fun i hi => ?_⟩
    have hei := hel i hi
    rw [List.getElem?_eq_getElem (show i < elems.length by omega), hc] at hei
    obtain ⟨cs', h1, h2⟩ := Option.bind_eq_some_iff.1 hei
    obtain ⟨_, hl', hcell⟩ := World.cells?_some h1
    refine ⟨a, cs', _, rfl, ?_, hl', hcell, h2, by rw [List.getElem?_map, List.getElem?_eq_getElem (show i < elems.length by omega)]; rfl⟩
    have h0 := hcell 0 hc0
    rw [List.getElem?_eq_getElem (show 0 < cs'.length by omega)] at h0
    have := cell_lt h0
    rw [block_add, block_add] at this
    exact this
theorem open_valueB : ∀ (n : Nat) (cs : List Value) (x : DataW H × List MemPlace), Tr enc w n 29 cs x →
    ∃ X : VT, cs = [.int .i64 X.a.k, .int .i64 X.a.n, .int .i64 X.a.sc, .string X.a.s, .slice X.a.A X.l.length X.a.cap] ∧ VT.In w.heap.size w X ∧ nodesV X ≤ Rows.uptoBulk x.1 := by
  intro n
  induction n using Nat.strongRecOn with
  | ind n ih =>
    intro cs x h
    obtain ⟨xs, m, rfl, rfl, hl, hxl, hf⟩ := DataW.trod_struct Tryd.underlying29 h
    rw [cellsValue] at hl
    obtain ⟨c0, c1, c2, c3, c4, rfl⟩ := len5 hl
    have hg : ∀ (i : Nat), i < xs.length → ∃ y, xs[i]? = some y := fun i hi => ⟨_, List.getElem?_eq_getElem hi⟩
    have hxl5 : xs.length = 5 := hxl
    obtain ⟨y0, hy0⟩ := hg 0 (by omega)
    obtain ⟨y1, hy1⟩ := hg 1 (by omega)
    obtain ⟨y2, hy2⟩ := hg 2 (by omega)
    obtain ⟨y3, hy3⟩ := hg 3 (by omega)
    obtain ⟨y4, hy4⟩ := hg 4 (by omega)
    have h0 : Rd enc w m 3 (([c0, c1, c2, c3, c4].drop 0).take (Tryd.prog.cellsOf 3)) := ⟨y0, (hf 0 _ rfl).trans hy0⟩
    have h1 : Rd enc w m 3 (([c0, c1, c2, c3, c4].drop 1).take (Tryd.prog.cellsOf 3)) := ⟨y1, (hf 1 _ rfl).trans hy1⟩
    have h2 : Rd enc w m 3 (([c0, c1, c2, c3, c4].drop 2).take (Tryd.prog.cellsOf 3)) := ⟨y2, (hf 2 _ rfl).trans hy2⟩
    have h3 : Rd enc w m 9 (([c0, c1, c2, c3, c4].drop 3).take (Tryd.prog.cellsOf 9)) := ⟨y3, (hf 3 _ rfl).trans hy3⟩
    have h4 : Tr enc w m 27 (([c0, c1, c2, c3, c4].drop 4).take (Tryd.prog.cellsOf 27)) y4 := (hf 4 _ rfl).trans hy4
    simp only [cellsInt, cellsString, cellsValues, List.drop_zero, List.drop_succ_cons, List.take_succ_cons, List.take_zero] at h0 h1 h2 h3 h4
    obtain ⟨k, e0, hk⟩ := rd_int Tryd.underlying3 h0
    obtain ⟨nn, e1, hn⟩ := rd_int Tryd.underlying3 h1
    obtain ⟨sc, e2, hsc⟩ := rd_int Tryd.underlying3 h2
    obtain ⟨s, e3, hs⟩ := rd_string Tryd.underlying9 h3
    obtain ⟨A, len, cap, m2, es, rfl, e4, hlc, hcm, hes, hbk, hel⟩ := trb_slice Tryd.underlying27 cellsValue (by omega) h4
    simp only [List.cons.injEq, and_true] at e0 e1 e2 e3 e4
    subst e0 e1 e2 e3 e4
    have hx : ∀ i, i < len → ∃ X : VT, (∃ ad : Addr, A = some ad ∧ ad.block < w.heap.size ∧ X.At w (ad.add (i * 5))) ∧ VT.In w.heap.size w X ∧ ∀ y, es[i]? = some y → nodesV X ≤ Rows.uptoBulk y := fun i hi => by
      obtain ⟨ad, cs', y, hA, hb, hl', hc, hr, hy⟩ := hel i hi
      obtain ⟨X, hX, hin, hnd⟩ := ih m2 (by omega) _ _ hr
      subst hX
      have k0 := hc 0 (by omega)
      have k1 := hc 1 (by omega)
      have k2 := hc 2 (by omega)
      have k3 := hc 3 (by omega)
      have k4 := hc 4 (by omega)
      exact ⟨X, ⟨ad, hA, hb, k0, k1, k2, k3, k4⟩, hin, fun y' hy' => by rw [hy] at hy'; cases hy'; exact hnd⟩
    obtain ⟨l, hll, hlp⟩ := list_choose hx
    have hnl := nodes_bulk l es (by omega) fun i X y hX hy => (hlp i X hX).2.2 y hy
    refine ⟨.node ⟨k, nn, sc, s, A, cap⟩ l, by simp [VT.a, VT.l, hll], .mk k nn sc s A cap l hk hn hsc hs ⟨by omega, hcm, fun i x hx => (hlp i x hx).1⟩ fun x hx => ?_, ?_⟩
    · obtain ⟨i, hi⟩ := List.getElem?_of_mem hx
      exact (hlp i x hi).2.1
    · have h5 := bulk_get (es := xs.map (·.1)) (i := 4) (y := y4.1) (by rw [List.getElem?_map, hy4]; rfl)
      simp only [nodesV, Rows.uptoBulk]
      omega
theorem open_valuesB {n : Nat} {cs : List Value} {x : DataW H × List MemPlace} (h : Tr enc w n 27 cs x) : ∃ (A : Option Addr) (cap : Nat) (l : List VT), cs = [.slice A l.length cap] ∧ VT.Rows w.heap.size w A cap l ∧ nodesL l ≤ Rows.uptoBulk x.1 := by
  obtain ⟨A, len, cap, m2, es, rfl, e4, hlc, hcm, hes, hbk, hel⟩ := trb_slice Tryd.underlying27 cellsValue (by omega) h
  have hx : ∀ i, i < len → ∃ X : VT, (∃ ad : Addr, A = some ad ∧ ad.block < w.heap.size ∧ X.At w (ad.add (i * 5))) ∧ VT.In w.heap.size w X ∧ ∀ y, es[i]? = some y → nodesV X ≤ Rows.uptoBulk y := fun i hi => by
    obtain ⟨ad, cs', y, hA, hb, hl', hc, hr, hy⟩ := hel i hi
    obtain ⟨X, hX, hin, hnd⟩ := open_valueB _ _ _ hr
    subst hX
    have k0 := hc 0 (by omega)
    have k1 := hc 1 (by omega)
    have k2 := hc 2 (by omega)
    have k3 := hc 3 (by omega)
    have k4 := hc 4 (by omega)
    exact ⟨X, ⟨ad, hA, hb, k0, k1, k2, k3, k4⟩, hin, fun y' hy' => by rw [hy] at hy'; cases hy'; exact hnd⟩
  obtain ⟨l, hll, hlp⟩ := list_choose hx
  have hnl := nodes_bulk l es (by omega) fun i X y hX hy => (hlp i X hX).2.2 y hy
  refine ⟨A, cap, l, by rw [e4, hll], ⟨⟨by omega, hcm, fun i x hx => (hlp i x hx).1⟩, fun x hx => ?_⟩, by omega⟩
  obtain ⟨i, hi⟩ := List.getElem?_of_mem hx
  exact (hlp i x hi).2.1
theorem open_rowsB {n : Nat} {cs : List Value} {x : DataW H × List MemPlace} (h : Tr enc w n 22 cs x) :
    ∃ (A : Option Addr) (cap : Nat) (l : List VT), cs = [.slice A l.length cap] ∧ VT.RRow w.heap.size w A cap l ∧ ∀ r, r ∈ l → nodesL r.l ≤ Rows.uptoBulk x.1 := by
  obtain ⟨A, len, cap, m2, es, rfl, e4, hlc, hcm, hes, hbk, hel⟩ := trb_slice Tryd.underlying22 cellsValues (by omega) h
  have hx : ∀ i, i < len → ∃ X : VT, (∃ ad : Addr, A = some ad ∧ ad.block < w.heap.size ∧ w.cell? (ad.add i) = some (.slice X.a.A X.l.length X.a.cap)) ∧ VT.Rows w.heap.size w X.a.A X.a.cap X.l ∧ nodesL X.l ≤ Rows.uptoBulk x.1 := fun i hi => by
    obtain ⟨ad, cs', y, hA, hb, hl', hc, hr, hy⟩ := hel i hi
    obtain ⟨A', cap', l', hX, hin, hnd⟩ := open_valuesB hr
    subst hX
    have k0 := hc 0 (by omega)
    rw [Nat.mul_one] at k0
    have := bulk_get hy
    exact ⟨.node ⟨0, 0, 0, ByteArray.empty, A', cap'⟩ l', ⟨ad, hA, hb, k0⟩, hin, by show nodesL l' ≤ _; omega⟩
  obtain ⟨l, hll, hlp⟩ := list_choose hx
  refine ⟨A, cap, l, by rw [e4, hll], ⟨by omega, hcm, fun x hx => ?_, fun i x hx => (hlp i x hx).1⟩, fun x hx => ?_⟩
  · obtain ⟨i, hi⟩ := List.getElem?_of_mem hx
    exact (hlp i x hi).2.1
  · obtain ⟨i, hi⟩ := List.getElem?_of_mem hx
    exact (hlp i x hi).2.2
end
end Go.Proofs.YteeabfdafnncfaaDoor
