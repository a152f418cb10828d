/-
  From what an argument reads as to the whole trees in memory, and how many structs there are in them.
-/
import Derived.Test.YthijagpnpcpcbaaGreatQGtB
import Derived.Test.YthijagpnpcpcbaaGreatRows
import Derived.ProofKit
import Derived.OpenShut
import Derived.KernelRfl
namespace Go.Proofs.YthijagpnpcpcbaaGreat
open Go.RowKit Go.ChangeShapes Go.WideShapes
theorem oln2 {α : Type} : ∀ {l : List α}, l.length = 2 → ∃ a0 a1, l = [a0, a1]
  | [a0, a1], _ => ⟨a0, a1, rfl⟩
theorem oln3 {α : Type} : ∀ {l : List α}, l.length = 3 → ∃ a0 a1 a2, l = [a0, a1, a2]
  | [a0, a1, a2], _ => ⟨a0, a1, a2, rfl⟩
theorem oln4 {α : Type} : ∀ {l : List α}, l.length = 4 → ∃ a0 a1 a2 a3, l = [a0, a1, a2, a3]
  | [a0, a1, a2, a3], _ => ⟨a0, a1, a2, a3, rfl⟩
theorem oln5 {α : Type} : ∀ {l : List α}, l.length = 5 → ∃ a0 a1 a2 a3 a4, l = [a0, a1, a2, a3, a4]
  | [a0, a1, a2, a3, a4], _ => ⟨a0, a1, a2, a3, a4, rfl⟩
theorem oln6 {α : Type} : ∀ {l : List α}, l.length = 6 → ∃ a0 a1 a2 a3 a4 a5, l = [a0, a1, a2, a3, a4, a5]
  | [a0, a1, a2, a3, a4, a5], _ => ⟨a0, a1, a2, a3, a4, a5, rfl⟩
theorem oln8 {α : Type} : ∀ {l : List α}, l.length = 8 → ∃ a0 a1 a2 a3 a4 a5 a6 a7, l = [a0, a1, a2, a3, a4, a5, a6, a7]
  | [a0, a1, a2, a3, a4, a5, a6, a7], _ => ⟨a0, a1, a2, a3, a4, a5, a6, a7, rfl⟩
theorem oln10 {α : Type} : ∀ {l : List α}, l.length = 10 → ∃ a0 a1 a2 a3 a4 a5 a6 a7 a8 a9, l = [a0, a1, a2, a3, a4, a5, a6, a7, a8, a9]
  | [a0, a1, a2, a3, a4, a5, a6, a7, a8, a9], _ => ⟨a0, a1, a2, a3, a4, a5, a6, a7, a8, a9, rfl⟩
theorem oln12 {α : Type} : ∀ {l : List α}, l.length = 12 → ∃ a0 a1 a2 a3 a4 a5 a6 a7 a8 a9 a10 a11, l = [a0, a1, a2, a3, a4, a5, a6, a7, a8, a9, a10, a11]
  | [a0, a1, a2, a3, a4, a5, a6, a7, a8, a9, a10, a11], _ => ⟨a0, a1, a2, a3, a4, a5, a6, a7, a8, a9, a10, a11, rfl⟩
theorem oln14 {α : Type} : ∀ {l : List α}, l.length = 14 → ∃ a0 a1 a2 a3 a4 a5 a6 a7 a8 a9 a10 a11 a12 a13, l = [a0, a1, a2, a3, a4, a5, a6, a7, a8, a9, a10, a11, a12, a13]
  | [a0, a1, a2, a3, a4, a5, a6, a7, a8, a9, a10, a11, a12, a13], _ => ⟨a0, a1, a2, a3, a4, a5, a6, a7, a8, a9, a10, a11, a12, a13, rfl⟩
theorem oln1 {α : Type} : ∀ {l : List α}, l.length = 1 → ∃ a, l = [a]
  | [a], _ => ⟨a, rfl⟩
theorem obulk_one {H : Type} (d : DataW H) : 1 ≤ Rows.uptoBulk d := by
  cases d with
  | lit l => cases l <;> simp [Rows.uptoBulk]
  | nil => simp [Rows.uptoBulk]
  | ptr d => simp [Rows.uptoBulk]
  | slice elems spare => simp [Rows.uptoBulk]
  | agg parts => simp [Rows.uptoBulk]
  | iface t d => simp [Rows.uptoBulk]
  | map entries => simp [Rows.uptoBulk]
  | held h => simp [Rows.uptoBulk]
section
variable {H : Type} {enc : TypeId × Value → H} {w : World}
/-- The cells read as x of type t, in n steps. -/
def OTr (enc : TypeId × Value → H) (w : World) (n : Nat) (t : TypeId) (cs : List Value) (x : DataW H × List MemPlace) : Prop := DataW.trod enc Tryz.prog w 0 (fun _ => true) true n t cs = some x
variable {n : Nat} {t : TypeId} {cs : List Value} {x : DataW H × List MemPlace}
theorem otr_int (ht : Tryz.prog.underlying t = some (.int .i64)) (h : OTr enc w n t cs x) : ∃ k, cs = [.int .i64 k] ∧ I64 k := by
  obtain ⟨k, hk, _, hw⟩ := DataW.trod_int ht h
  exact ⟨k, hk, bounds_i64 hw⟩
theorem otr_string (ht : Tryz.prog.underlying t = some .string) (h : OTr enc w n t cs x) : ∃ s : ByteArray, cs = [.string s] ∧ s.size ≤ maxLen := by
  obtain ⟨s, hs, _, hw⟩ := DataW.trod_string ht h
  exact ⟨s, hs, hw⟩
theorem otr_bool (ht : Tryz.prog.underlying t = some .bool) (h : OTr enc w n t cs x) : ∃ b : Bool, cs = [.bool b] := by
  obtain ⟨b, hb, _⟩ := DataW.trod_bool ht h
  exact ⟨b, hb⟩
theorem oc_int : Tryz.prog.cellsOf 3 = 1 := by kernel_rfl
theorem oc_api_Type : Tryz.prog.cellsOf 24 = 3 := by kernel_rfl
theorem oc_api_Value : Tryz.prog.cellsOf 27 = 5 := by kernel_rfl
theorem oc___api_Expr : Tryz.prog.cellsOf 28 = 1 := by kernel_rfl
theorem oc___api_Rel : Tryz.prog.cellsOf 29 = 1 := by kernel_rfl
theorem oc_string : Tryz.prog.cellsOf 9 = 1 := by kernel_rfl
theorem oc_bool : Tryz.prog.cellsOf 4 = 1 := by kernel_rfl
theorem oc___api_Type : Tryz.prog.cellsOf 52 = 1 := by kernel_rfl
theorem oc_____api_Value : Tryz.prog.cellsOf 53 = 1 := by kernel_rfl
theorem oc_____int : Tryz.prog.cellsOf 54 = 1 := by kernel_rfl
theorem oc___api_Agg : Tryz.prog.cellsOf 55 = 1 := by kernel_rfl
theorem oc___api_Window : Tryz.prog.cellsOf 56 = 1 := by kernel_rfl
theorem oc___api_SortKey : Tryz.prog.cellsOf 57 = 1 := by kernel_rfl
theorem oc_api_Bound : Tryz.prog.cellsOf 101 = 2 := by kernel_rfl
theorem oc___api_Field : Tryz.prog.cellsOf 22 = 1 := by kernel_rfl
theorem oc___api_Value : Tryz.prog.cellsOf 25 = 1 := by kernel_rfl
theorem oc___int : Tryz.prog.cellsOf 39 = 1 := by kernel_rfl
theorem oc_api_Expr : Tryz.prog.cellsOf 31 = 14 := by kernel_rfl
theorem oc_api_Rel : Tryz.prog.cellsOf 59 = 14 := by kernel_rfl
theorem oc_api_Agg : Tryz.prog.cellsOf 99 = 5 := by kernel_rfl
theorem oc_api_Window : Tryz.prog.cellsOf 103 = 12 := by kernel_rfl
theorem oc_api_SortKey : Tryz.prog.cellsOf 105 = 16 := by kernel_rfl
theorem oc_api_Field : Tryz.prog.cellsOf 79 = 6 := by kernel_rfl
def uyId : Uy → TypeId
  | .expr => 31
  | .rel => 59
  | .agg => 99
  | .win => 103
  | .key => 105
  | .field => 79
  | .type => 24
  | .value => 27
  | .row => 25
  | .set => 39
  | .num => 3
/-- An expression holds one value more than it counts for. -/
def Uy.ex : Uy → Nat
  | .expr => 1
  | _ => 0
/-- The cells are those of a tree that lies in memory, with no more structs than bulk. -/
def UOp (w : World) (t : Uy) (cs : List Value) (x : DataW H × List MemPlace) : Prop := ∃ d : DT, d.c = cs ∧ UIn (fun k => k < w.heap.size) w t d ∧ d.n + t.ex ≤ Rows.uptoBulk x.1
theorem ochoose {α : Type} {p : Nat → α → Prop} : ∀ {n : Nat}, (∀ i, i < n → ∃ x, p i x) → ∃ l : List α, l.length = n ∧ ∀ i x, l[i]? = some x → p i x
  | 0, _ => ⟨[], rfl, fun i x h => by simp at h⟩
  | n + 1, h => by
    obtain ⟨l, hl, hp⟩ := ochoose (n := n) (fun i hi => h i (by omega))
    obtain ⟨y, hy⟩ := h n (by omega)
    refine ⟨l ++ [y], by simp [hl], fun i x hx => ?_⟩
    by_cases hi : i < l.length
    · rw [List.getElem?_append_left hi] at hx
      exact hp i x hx
    · rw [List.getElem?_append_right (by omega)] at hx
      by_cases e : i - l.length = 0
      · rw [e] at hx
        simp at hx
        subst hx
        obtain rfl : i = n := by omega
        exact hy
      · rw [List.getElem?_eq_none (by simp; omega)] at hx
        cases hx
theorem onL_bulk (e : Nat) : ∀ (l : List DT) (ys : List (DataW H × List MemPlace)), l.length = ys.length → (∀ (i : Nat) (d : DT) (y : DataW H × List MemPlace), l[i]? = some d → ys[i]? = some y → d.n + e ≤ Rows.uptoBulk y.1) → nL l + e * l.length ≤ Rows.uptoBulkAll (ys.map (·.1))
  | [], [], _, _ => by simp [nL, Rows.uptoBulkAll]
  | d :: l, y :: ys, hl, h => by
    have h0 := h 0 d y rfl rfl
    have h1 := onL_bulk e l ys (by simpa using hl) fun i d y hd hy => h (i + 1) d y (by simpa using hd) (by simpa using hy)
    rw [nL_cons, List.map_cons, Rows.uptoBulkAll, List.length_cons, Nat.mul_add, Nat.mul_one]
    omega
/-- What a slice reads as. -/
def OSl (w : World) (s : Uy) (cs : List Value) (b : Nat) : Prop := ∃ (A : Option Addr) (cap : Nat) (l : List DT), cs = [.slice A l.length cap] ∧ DRow (fun k => k < w.heap.size) w s.sz A cap l ∧ (∀ y, y ∈ l → UIn (fun k => k < w.heap.size) w s y) ∧ nL l + s.ex * l.length + 1 ≤ b
theorem uopen_sl (s : Uy) (tS : TypeId) (ht : Tryz.prog.underlying tS = some (.slice (uyId s))) (hc : Tryz.prog.cellsOf (uyId s) = s.sz) (n : Nat) (ih : ∀ k, k < n → ∀ cs x, OTr enc w k (uyId s) cs x → UOp w s cs x) (h : OTr enc w n tS cs x) : OSl w s cs (Rows.uptoBulk x.1) := by
  have hs0 : 0 < s.sz := by cases s <;> decide
  rcases DataW.trod_slice ht h with ⟨rfl, rfl⟩ | ⟨a, len, cap, elems, rest, m, hn, rfl, rfl, _, hl, hm, hlen, hel, _⟩
  · exact ⟨none, 0, [], rfl, DRow.nil _ _ _, (fun y hy => by cases hy), by simp [nL, Rows.uptoBulk]⟩
  · have hx : ∀ i, i < len → ∃ d : DT, (a.block < w.heap.size ∧ d.At w (a.add (i * s.sz))) ∧ UIn (fun k => k < w.heap.size) w s d ∧ ∀ y, elems[i]? = some y → d.n + s.ex ≤ Rows.uptoBulk y.1 := fun i hi => by
      have hei := hel i hi
      have hil : i < elems.length := by omega
      rw [List.getElem?_eq_getElem hil, hc] at hei
      obtain ⟨cs', h1, h2⟩ := Option.bind_eq_some_iff.1 hei
      obtain ⟨_, hl', hcell⟩ := World.cells?_some h1
      obtain ⟨d, hd, hin, hdn⟩ := ih m (by omega) cs' _ h2
      refine ⟨d, ⟨?_, fun j u hu => ?_⟩, hin, fun y hy => by rw [List.getElem?_eq_getElem hil] at hy; cases hy; exact hdn⟩
      · have h0 := hcell 0 hs0
        rw [List.getElem?_eq_getElem (show 0 < cs'.length by omega)] at h0
        have := cell_lt h0
        rw [block_add, block_add] at this
        exact this
      · rw [hd] at hu
        have hj : j < s.sz := by rw [← hl']; exact (List.getElem?_eq_some_iff.1 hu).1
        exact (hcell j hj).trans hu
    obtain ⟨l, hll, hlp⟩ := ochoose hx
    refine ⟨some a, cap, l, by rw [hll], ⟨by omega, hm, fun i y hy => ⟨a, rfl, (hlp i y hy).1.1, (hlp i y hy).1.2⟩⟩, fun y hy => ?_, ?_⟩
    · obtain ⟨i, hi⟩ := List.getElem?_of_mem hy
      exact (hlp i y hi).2.1
    · have := onL_bulk s.ex l elems (by omega) fun i d y hd hy => (hlp i d hd).2.2 y hy
      simp only [Rows.uptoBulk]
      omega
/-- What is known of a tree of one slice. -/
theorem uin_one {S : Nat → Prop} {t s : Uy} {o : Nat} {d : DT} (hs : t.sl = [(o, s)]) (h : UIn S w t d) : ∃ (A : Option Addr) (cap : Nat) (l : List DT), d.n = nL l + 1 ∧ d.c[o]? = some (.slice A l.length cap) ∧ t.ok d.c ∧ DRow S w s.sz A cap l ∧ ∀ y, y ∈ l → UIn S w s y := by
  cases h with
  | mk _ c k hl h1 hok hk hr hx =>
    rw [hs] at hk hr hx
    obtain ⟨m, rfl⟩ := oln1 hk
    obtain ⟨A, cap, e, hrow⟩ := hr 0 o s m rfl rfl
    exact ⟨A, cap, m, by rw [DT.n_node]; simp [nL]; omega, e, hok, hrow, hx 0 o s m rfl rfl⟩
theorem uopen_num (h : OTr enc w n 3 cs x) : UOp w .num cs x := by
  obtain ⟨k, rfl, hk⟩ := otr_int Tryz.underlying3 h
  refine ⟨.node [.int .i64 k] [], rfl, .mk .num _ _ rfl (fun u hu => ?_) ⟨k, rfl, hk⟩ rfl (fun i o s l h1 h2 => by simp [Uy.sl] at h1) (fun i o s l h1 h2 => by simp [Uy.sl] at h1), ?_⟩
  · simp only [List.mem_cons, List.not_mem_nil, or_false] at hu
    subst hu
    rfl
  · rw [DT.n_node]
    have := obulk_one x.1
    simp only [List.map_nil, List.sum_nil, Uy.ex]
    omega
theorem uopen_row (n : Nat) (ih : ∀ k, k < n → ∀ t cs x, OTr enc w k (uyId t) cs x → UOp w t cs x) (h : OTr enc w n 25 cs x) : UOp w .row cs x := by
  obtain ⟨A, cap, l, rfl, r, i, b⟩ := uopen_sl .value _ Tryz.underlying25 oc_api_Value n (fun k hk => ih k hk .value) h
  refine ⟨.node [.slice A l.length cap] [l], rfl, .mk .row _ _ rfl (fun u hu => ?_) ⟨_, rfl⟩ rfl (fun q o s l h1 h2 => ?_) (fun q o s l h1 h2 => ?_), ?_⟩
  · simp only [List.mem_cons, List.not_mem_nil, or_false] at hu
    subst hu
    rfl
  · match q, h1, h2 with
    | 0, h1, h2 => cases h1; cases h2; exact ⟨A, cap, rfl, r⟩
    | q + 1, h1, h2 => simp [Uy.sl] at h1
  · match q, h1, h2 with
    | 0, h1, h2 => cases h1; cases h2; exact i
    | q + 1, h1, h2 => simp [Uy.sl] at h1
  · rw [DT.n_node]
    simp only [List.map_cons, List.map_nil, List.sum_cons, List.sum_nil, Uy.ex] at b ⊢
    omega
theorem uopen_set (n : Nat) (ih : ∀ k, k < n → ∀ t cs x, OTr enc w k (uyId t) cs x → UOp w t cs x) (h : OTr enc w n 39 cs x) : UOp w .set cs x := by
  obtain ⟨A, cap, l, rfl, r, i, b⟩ := uopen_sl .num _ Tryz.underlying39 oc_int n (fun k hk => ih k hk .num) h
  refine ⟨.node [.slice A l.length cap] [l], rfl, .mk .set _ _ rfl (fun u hu => ?_) ⟨_, rfl⟩ rfl (fun q o s l h1 h2 => ?_) (fun q o s l h1 h2 => ?_), ?_⟩
  · simp only [List.mem_cons, List.not_mem_nil, or_false] at hu
    subst hu
    rfl
  · match q, h1, h2 with
    | 0, h1, h2 => cases h1; cases h2; exact ⟨A, cap, rfl, r⟩
    | q + 1, h1, h2 => simp [Uy.sl] at h1
  · match q, h1, h2 with
    | 0, h1, h2 => cases h1; cases h2; exact i
    | q + 1, h1, h2 => simp [Uy.sl] at h1
  · rw [DT.n_node]
    simp only [List.map_cons, List.map_nil, List.sum_cons, List.sum_nil, Uy.ex] at b ⊢
    omega
theorem otr_bound (h : OTr enc w n 101 cs x) : ∃ k n : Int, cs = [.int .i64 k, .int .i64 n] ∧ I64 k ∧ I64 n := by
  obtain ⟨xs, m, rfl, hx, hl, hxl, hf⟩ := DataW.trod_struct Tryz.underlying101 h
  rw [oc_api_Bound] at hl
  obtain ⟨c0, c1, rfl⟩ := oln2 hl
  obtain ⟨y0, y1, rfl⟩ := oln2 (show xs.length = 2 from hxl)
  have h0 : OTr enc w m 3 (([c0, c1].drop 0).take (Tryz.prog.cellsOf 3)) y0 := hf 0 _ rfl
  have h1 : OTr enc w m 3 (([c0, c1].drop 1).take (Tryz.prog.cellsOf 3)) y1 := hf 1 _ rfl
  simp only [oc_int, List.drop_zero, List.drop_succ_cons, List.take_succ_cons, List.take_zero] at h0 h1
  obtain ⟨k, e0, b0⟩ := otr_int Tryz.underlying3 h0
  obtain ⟨nn, e1, b1⟩ := otr_int Tryz.underlying3 h1
  simp only [List.cons.injEq, and_true] at e0 e1
  subst e0 e1
  exact ⟨k, nn, rfl, b0, b1⟩
set_option maxHeartbeats 2000000 in
theorem uopen_type (n : Nat) (ih : ∀ k, k < n → ∀ t cs x, OTr enc w k (uyId t) cs x → UOp w t cs x) (h : OTr enc w n 24 cs x) : UOp w .type cs x := by
  obtain ⟨xs, m, rfl, hx, hl, hxl, hf⟩ := DataW.trod_struct Tryz.underlying24 h
  subst hx
  rw [oc_api_Type] at hl
  obtain ⟨c0, c1, c2, rfl⟩ := oln3 hl
  obtain ⟨y0, y1, y2, rfl⟩ := oln3 (show xs.length = 3 from hxl)
  have h0 : OTr enc w m 3 (([c0, c1, c2].drop 0).take (Tryz.prog.cellsOf 3)) y0 := hf 0 _ rfl
  have h1 : OTr enc w m 3 (([c0, c1, c2].drop 1).take (Tryz.prog.cellsOf 3)) y1 := hf 1 _ rfl
  have h2 : OTr enc w m 22 (([c0, c1, c2].drop 2).take (Tryz.prog.cellsOf 22)) y2 := hf 2 _ rfl
  simp only [oc_int, oc___api_Field, List.drop_zero, List.drop_succ_cons, List.take_succ_cons, List.take_zero] at h0 h1 h2
  obtain ⟨k0, e0, b0⟩ := otr_int Tryz.underlying3 h0
  obtain ⟨k1, e1, b1⟩ := otr_int Tryz.underlying3 h1
  obtain ⟨A2, cap2, l2, e2, r2, i2, n2⟩ := uopen_sl .field _ Tryz.underlying22 oc_api_Field m (fun k hk => ih k (by omega) .field) h2
  simp only [List.cons.injEq, and_true] at e0 e1 e2
  subst e0
  subst e1
  subst e2
  refine ⟨.node [.int .i64 k0, .int .i64 k1, .slice A2 l2.length cap2] [l2], rfl, .mk .type _ _ rfl (fun u hu => ?_) ⟨k0, k1, _, rfl, b0, b1⟩ rfl (fun i o s l h1 h2 => ?_) (fun i o s l h1 h2 => ?_), ?_⟩
  · simp only [List.mem_cons, List.not_mem_nil, or_false] at hu
    rcases hu with rfl | rfl | rfl <;> rfl
  · match i, h1, h2 with
    | 0, h1, h2 => cases h1; cases h2; exact ⟨A2, cap2, rfl, r2⟩
    | i + 1, h1, h2 => simp [Uy.sl] at h1
  · match i, h1, h2 with
    | 0, h1, h2 => cases h1; cases h2; exact i2
    | i + 1, h1, h2 => simp [Uy.sl] at h1
  · rw [DT.n_node]
    simp only [Uy.ex] at n2
    have z0 := obulk_one y0.1
    have z1 := obulk_one y1.1
    have z2 := obulk_one y2.1
    simp only [List.map_cons, List.map_nil, List.sum_cons, List.sum_nil, Rows.uptoBulk, Rows.uptoBulkAll, Uy.ex]
    omega
set_option maxHeartbeats 2000000 in
theorem uopen_value (n : Nat) (ih : ∀ k, k < n → ∀ t cs x, OTr enc w k (uyId t) cs x → UOp w t cs x) (h : OTr enc w n 27 cs x) : UOp w .value cs x := by
  obtain ⟨xs, m, rfl, hx, hl, hxl, hf⟩ := DataW.trod_struct Tryz.underlying27 h
  subst hx
  rw [oc_api_Value] at hl
  obtain ⟨c0, c1, c2, c3, c4, rfl⟩ := oln5 hl
  obtain ⟨y0, y1, y2, y3, y4, rfl⟩ := oln5 (show xs.length = 5 from hxl)
  have h0 : OTr enc w m 3 (([c0, c1, c2, c3, c4].drop 0).take (Tryz.prog.cellsOf 3)) y0 := hf 0 _ rfl
  have h1 : OTr enc w m 3 (([c0, c1, c2, c3, c4].drop 1).take (Tryz.prog.cellsOf 3)) y1 := hf 1 _ rfl
  have h2 : OTr enc w m 3 (([c0, c1, c2, c3, c4].drop 2).take (Tryz.prog.cellsOf 3)) y2 := hf 2 _ rfl
  have h3 : OTr enc w m 9 (([c0, c1, c2, c3, c4].drop 3).take (Tryz.prog.cellsOf 9)) y3 := hf 3 _ rfl
  have h4 : OTr enc w m 25 (([c0, c1, c2, c3, c4].drop 4).take (Tryz.prog.cellsOf 25)) y4 := hf 4 _ rfl
  simp only [oc_int, oc_string, oc___api_Value, List.drop_zero, List.drop_succ_cons, List.take_succ_cons, List.take_zero] at h0 h1 h2 h3 h4
  obtain ⟨k0, e0, b0⟩ := otr_int Tryz.underlying3 h0
  obtain ⟨k1, e1, b1⟩ := otr_int Tryz.underlying3 h1
  obtain ⟨k2, e2, b2⟩ := otr_int Tryz.underlying3 h2
  obtain ⟨k3, e3, b3⟩ := otr_string Tryz.underlying9 h3
  obtain ⟨A4, cap4, l4, e4, r4, i4, n4⟩ := uopen_sl .value _ Tryz.underlying25 oc_api_Value m (fun k hk => ih k (by omega) .value) h4
  simp only [List.cons.injEq, and_true] at e0 e1 e2 e3 e4
  subst e0
  subst e1
  subst e2
  subst e3
  subst e4
  refine ⟨.node [.int .i64 k0, .int .i64 k1, .int .i64 k2, .string k3, .slice A4 l4.length cap4] [l4], rfl, .mk .value _ _ rfl (fun u hu => ?_) ⟨k0, k1, k2, k3, _, rfl, b0, b1, b2, b3⟩ rfl (fun i o s l h1 h2 => ?_) (fun i o s l h1 h2 => ?_), ?_⟩
  · simp only [List.mem_cons, List.not_mem_nil, or_false] at hu
    rcases hu with rfl | rfl | rfl | rfl | rfl <;> rfl
  · match i, h1, h2 with
    | 0, h1, h2 => cases h1; cases h2; exact ⟨A4, cap4, rfl, r4⟩
    | i + 1, h1, h2 => simp [Uy.sl] at h1
  · match i, h1, h2 with
    | 0, h1, h2 => cases h1; cases h2; exact i4
    | i + 1, h1, h2 => simp [Uy.sl] at h1
  · rw [DT.n_node]
    simp only [Uy.ex] at n4
    have z0 := obulk_one y0.1
    have z1 := obulk_one y1.1
    have z2 := obulk_one y2.1
    have z3 := obulk_one y3.1
    have z4 := obulk_one y4.1
    simp only [List.map_cons, List.map_nil, List.sum_cons, List.sum_nil, Rows.uptoBulk, Rows.uptoBulkAll, Uy.ex]
    omega
set_option maxHeartbeats 2000000 in
theorem uopen_field (n : Nat) (ih : ∀ k, k < n → ∀ t cs x, OTr enc w k (uyId t) cs x → UOp w t cs x) (h : OTr enc w n 79 cs x) : UOp w .field cs x := by
  obtain ⟨xs, m, rfl, hx, hl, hxl, hf⟩ := DataW.trod_struct Tryz.underlying79 h
  subst hx
  rw [oc_api_Field] at hl
  obtain ⟨c0, c1, c2, c3, c4, c5, rfl⟩ := oln6 hl
  obtain ⟨y0, y1, y2, y3, rfl⟩ := oln4 (show xs.length = 4 from hxl)
  have h0 : OTr enc w m 3 (([c0, c1, c2, c3, c4, c5].drop 0).take (Tryz.prog.cellsOf 3)) y0 := hf 0 _ rfl
  have h1 : OTr enc w m 9 (([c0, c1, c2, c3, c4, c5].drop 1).take (Tryz.prog.cellsOf 9)) y1 := hf 1 _ rfl
  have h2 : OTr enc w m 4 (([c0, c1, c2, c3, c4, c5].drop 2).take (Tryz.prog.cellsOf 4)) y2 := hf 2 _ rfl
  have h3 : OTr enc w m 24 (([c0, c1, c2, c3, c4, c5].drop 3).take (Tryz.prog.cellsOf 24)) y3 := hf 3 _ rfl
  simp only [oc_int, oc_api_Type, oc_string, oc_bool, List.drop_zero, List.drop_succ_cons, List.take_succ_cons, List.take_zero] at h0 h1 h2 h3
  obtain ⟨k0, e0, b0⟩ := otr_int Tryz.underlying3 h0
  obtain ⟨k1, e1, b1⟩ := otr_string Tryz.underlying9 h1
  obtain ⟨k2, e2⟩ := otr_bool Tryz.underlying4 h2
  obtain ⟨d3, e3, hin3, n3⟩ := ih m (by omega) .type _ _ h3
  obtain ⟨A3, cap3, l3, hn3, es3, hok3, r3, i3⟩ := uin_one (s := .field) (o := 2) rfl hin3
  rw [e3] at es3 hok3
  rw [hn3] at n3
  obtain ⟨tk, tsc, tv, q3, btk, btsc⟩ := hok3
  rw [q3] at es3
  obtain rfl : tv = _ := Option.some.inj es3
  clear hin3 e3
  simp only [List.cons.injEq, and_true] at e0 e1 e2 q3
  subst e0
  subst e1
  subst e2
  obtain ⟨q3_0, q3_1, q3_2⟩ := q3
  subst q3_0 q3_1 q3_2
  refine ⟨.node [.int .i64 k0, .string k1, .bool k2, .int .i64 tk, .int .i64 tsc, .slice A3 l3.length cap3] [l3], rfl, .mk .field _ _ rfl (fun u hu => ?_) ⟨k0, k1, k2, tk, tsc, _, rfl, b0, b1, btk, btsc⟩ rfl (fun i o s l h1 h2 => ?_) (fun i o s l h1 h2 => ?_), ?_⟩
  · simp only [List.mem_cons, List.not_mem_nil, or_false] at hu
    rcases hu with rfl | rfl | rfl | rfl | rfl | rfl <;> rfl
  · match i, h1, h2 with
    | 0, h1, h2 => cases h1; cases h2; exact ⟨A3, cap3, rfl, r3⟩
    | i + 1, h1, h2 => simp [Uy.sl] at h1
  · match i, h1, h2 with
    | 0, h1, h2 => cases h1; cases h2; exact i3
    | i + 1, h1, h2 => simp [Uy.sl] at h1
  · rw [DT.n_node]
    simp only [Uy.ex] at n3
    have z0 := obulk_one y0.1
    have z1 := obulk_one y1.1
    have z2 := obulk_one y2.1
    have z3 := obulk_one y3.1
    simp only [List.map_cons, List.map_nil, List.sum_cons, List.sum_nil, Rows.uptoBulk, Rows.uptoBulkAll, Uy.ex]
    omega
set_option maxHeartbeats 2000000 in
theorem uopen_agg (n : Nat) (ih : ∀ k, k < n → ∀ t cs x, OTr enc w k (uyId t) cs x → UOp w t cs x) (h : OTr enc w n 99 cs x) : UOp w .agg cs x := by
  obtain ⟨xs, m, rfl, hx, hl, hxl, hf⟩ := DataW.trod_struct Tryz.underlying99 h
  subst hx
  rw [oc_api_Agg] at hl
  obtain ⟨c0, c1, c2, c3, c4, rfl⟩ := oln5 hl
  obtain ⟨y0, y1, y2, y3, y4, rfl⟩ := oln5 (show xs.length = 5 from hxl)
  have h0 : OTr enc w m 3 (([c0, c1, c2, c3, c4].drop 0).take (Tryz.prog.cellsOf 3)) y0 := hf 0 _ rfl
  have h1 : OTr enc w m 3 (([c0, c1, c2, c3, c4].drop 1).take (Tryz.prog.cellsOf 3)) y1 := hf 1 _ rfl
  have h2 : OTr enc w m 4 (([c0, c1, c2, c3, c4].drop 2).take (Tryz.prog.cellsOf 4)) y2 := hf 2 _ rfl
  have h3 : OTr enc w m 28 (([c0, c1, c2, c3, c4].drop 3).take (Tryz.prog.cellsOf 28)) y3 := hf 3 _ rfl
  have h4 : OTr enc w m 28 (([c0, c1, c2, c3, c4].drop 4).take (Tryz.prog.cellsOf 28)) y4 := hf 4 _ rfl
  simp only [oc_int, oc___api_Expr, oc_bool, List.drop_zero, List.drop_succ_cons, List.take_succ_cons, List.take_zero] at h0 h1 h2 h3 h4
  obtain ⟨k0, e0, b0⟩ := otr_int Tryz.underlying3 h0
  obtain ⟨k1, e1, b1⟩ := otr_int Tryz.underlying3 h1
  obtain ⟨k2, e2⟩ := otr_bool Tryz.underlying4 h2
  obtain ⟨A3, cap3, l3, e3, r3, i3, n3⟩ := uopen_sl .expr _ Tryz.underlying28 oc_api_Expr m (fun k hk => ih k (by omega) .expr) h3
  obtain ⟨A4, cap4, l4, e4, r4, i4, n4⟩ := uopen_sl .expr _ Tryz.underlying28 oc_api_Expr m (fun k hk => ih k (by omega) .expr) h4
  simp only [List.cons.injEq, and_true] at e0 e1 e2 e3 e4
  subst e0
  subst e1
  subst e2
  subst e3
  subst e4
  refine ⟨.node [.int .i64 k0, .int .i64 k1, .bool k2, .slice A3 l3.length cap3, .slice A4 l4.length cap4] [l3, l4], rfl, .mk .agg _ _ rfl (fun u hu => ?_) ⟨k0, k1, k2, _, _, rfl, b0, b1⟩ rfl (fun i o s l h1 h2 => ?_) (fun i o s l h1 h2 => ?_), ?_⟩
  · simp only [List.mem_cons, List.not_mem_nil, or_false] at hu
    rcases hu with rfl | rfl | rfl | rfl | rfl <;> rfl
  · match i, h1, h2 with
    | 0, h1, h2 => cases h1; cases h2; exact ⟨A3, cap3, rfl, r3⟩
    | 1, h1, h2 => cases h1; cases h2; exact ⟨A4, cap4, rfl, r4⟩
    | i + 2, h1, h2 => simp [Uy.sl] at h1
  · match i, h1, h2 with
    | 0, h1, h2 => cases h1; cases h2; exact i3
    | 1, h1, h2 => cases h1; cases h2; exact i4
    | i + 2, h1, h2 => simp [Uy.sl] at h1
  · rw [DT.n_node]
    simp only [Uy.ex] at n3 n4
    have z0 := obulk_one y0.1
    have z1 := obulk_one y1.1
    have z2 := obulk_one y2.1
    have z3 := obulk_one y3.1
    have z4 := obulk_one y4.1
    simp only [List.map_cons, List.map_nil, List.sum_cons, List.sum_nil, Rows.uptoBulk, Rows.uptoBulkAll, Uy.ex]
    omega
set_option maxHeartbeats 2000000 in
theorem uopen_win (n : Nat) (ih : ∀ k, k < n → ∀ t cs x, OTr enc w k (uyId t) cs x → UOp w t cs x) (h : OTr enc w n 103 cs x) : UOp w .win cs x := by
  obtain ⟨xs, m, rfl, hx, hl, hxl, hf⟩ := DataW.trod_struct Tryz.underlying103 h
  subst hx
  rw [oc_api_Window] at hl
  obtain ⟨c0, c1, c2, c3, c4, c5, c6, c7, c8, c9, c10, c11, rfl⟩ := oln12 hl
  obtain ⟨y0, y1, y2, y3, y4, y5, y6, y7, y8, y9, rfl⟩ := oln10 (show xs.length = 10 from hxl)
  have h0 : OTr enc w m 3 (([c0, c1, c2, c3, c4, c5, c6, c7, c8, c9, c10, c11].drop 0).take (Tryz.prog.cellsOf 3)) y0 := hf 0 _ rfl
  have h1 : OTr enc w m 3 (([c0, c1, c2, c3, c4, c5, c6, c7, c8, c9, c10, c11].drop 1).take (Tryz.prog.cellsOf 3)) y1 := hf 1 _ rfl
  have h2 : OTr enc w m 28 (([c0, c1, c2, c3, c4, c5, c6, c7, c8, c9, c10, c11].drop 2).take (Tryz.prog.cellsOf 28)) y2 := hf 2 _ rfl
  have h3 : OTr enc w m 55 (([c0, c1, c2, c3, c4, c5, c6, c7, c8, c9, c10, c11].drop 3).take (Tryz.prog.cellsOf 55)) y3 := hf 3 _ rfl
  have h4 : OTr enc w m 28 (([c0, c1, c2, c3, c4, c5, c6, c7, c8, c9, c10, c11].drop 4).take (Tryz.prog.cellsOf 28)) y4 := hf 4 _ rfl
  have h5 : OTr enc w m 57 (([c0, c1, c2, c3, c4, c5, c6, c7, c8, c9, c10, c11].drop 5).take (Tryz.prog.cellsOf 57)) y5 := hf 5 _ rfl
  have h6 : OTr enc w m 57 (([c0, c1, c2, c3, c4, c5, c6, c7, c8, c9, c10, c11].drop 6).take (Tryz.prog.cellsOf 57)) y6 := hf 6 _ rfl
  have h7 : OTr enc w m 3 (([c0, c1, c2, c3, c4, c5, c6, c7, c8, c9, c10, c11].drop 7).take (Tryz.prog.cellsOf 3)) y7 := hf 7 _ rfl
  have h8 : OTr enc w m 101 (([c0, c1, c2, c3, c4, c5, c6, c7, c8, c9, c10, c11].drop 8).take (Tryz.prog.cellsOf 101)) y8 := hf 8 _ rfl
  have h9 : OTr enc w m 101 (([c0, c1, c2, c3, c4, c5, c6, c7, c8, c9, c10, c11].drop 10).take (Tryz.prog.cellsOf 101)) y9 := hf 9 _ rfl
  simp only [oc_int, oc___api_Expr, oc___api_Agg, oc___api_SortKey, oc_api_Bound, List.drop_zero, List.drop_succ_cons, List.take_succ_cons, List.take_zero] at h0 h1 h2 h3 h4 h5 h6 h7 h8 h9
  obtain ⟨k0, e0, b0⟩ := otr_int Tryz.underlying3 h0
  obtain ⟨k1, e1, b1⟩ := otr_int Tryz.underlying3 h1
  obtain ⟨A2, cap2, l2, e2, r2, i2, n2⟩ := uopen_sl .expr _ Tryz.underlying28 oc_api_Expr m (fun k hk => ih k (by omega) .expr) h2
  obtain ⟨A3, cap3, l3, e3, r3, i3, n3⟩ := uopen_sl .agg _ Tryz.underlying55 oc_api_Agg m (fun k hk => ih k (by omega) .agg) h3
  obtain ⟨A4, cap4, l4, e4, r4, i4, n4⟩ := uopen_sl .expr _ Tryz.underlying28 oc_api_Expr m (fun k hk => ih k (by omega) .expr) h4
  obtain ⟨A5, cap5, l5, e5, r5, i5, n5⟩ := uopen_sl .key _ Tryz.underlying57 oc_api_SortKey m (fun k hk => ih k (by omega) .key) h5
  obtain ⟨A6, cap6, l6, e6, r6, i6, n6⟩ := uopen_sl .key _ Tryz.underlying57 oc_api_SortKey m (fun k hk => ih k (by omega) .key) h6
  obtain ⟨k7, e7, b7⟩ := otr_int Tryz.underlying3 h7
  obtain ⟨f8, g8, e8, bf8, bg8⟩ := otr_bound h8
  obtain ⟨f9, g9, e9, bf9, bg9⟩ := otr_bound h9
  simp only [List.cons.injEq, and_true] at e0 e1 e2 e3 e4 e5 e6 e7 e8 e9
  subst e0
  subst e1
  subst e2
  subst e3
  subst e4
  subst e5
  subst e6
  subst e7
  obtain ⟨e8_0, e8_1⟩ := e8
  subst e8_0 e8_1
  obtain ⟨e9_0, e9_1⟩ := e9
  subst e9_0 e9_1
  refine ⟨.node [.int .i64 k0, .int .i64 k1, .slice A2 l2.length cap2, .slice A3 l3.length cap3, .slice A4 l4.length cap4, .slice A5 l5.length cap5, .slice A6 l6.length cap6, .int .i64 k7, .int .i64 f8, .int .i64 g8, .int .i64 f9, .int .i64 g9] [l2, l3, l4, l5, l6], rfl, .mk .win _ _ rfl (fun u hu => ?_) ⟨k0, k1, _, _, _, _, _, k7, f8, g8, f9, g9, rfl, b0, b1, b7, bf8, bg8, bf9, bg9⟩ rfl (fun i o s l h1 h2 => ?_) (fun i o s l h1 h2 => ?_), ?_⟩
  · simp only [List.mem_cons, List.not_mem_nil, or_false] at hu
    rcases hu with rfl | rfl | rfl | rfl | rfl | rfl | rfl | rfl | rfl | rfl | rfl | rfl <;> rfl
  · match i, h1, h2 with
    | 0, h1, h2 => cases h1; cases h2; exact ⟨A2, cap2, rfl, r2⟩
    | 1, h1, h2 => cases h1; cases h2; exact ⟨A3, cap3, rfl, r3⟩
    | 2, h1, h2 => cases h1; cases h2; exact ⟨A4, cap4, rfl, r4⟩
    | 3, h1, h2 => cases h1; cases h2; exact ⟨A5, cap5, rfl, r5⟩
    | 4, h1, h2 => cases h1; cases h2; exact ⟨A6, cap6, rfl, r6⟩
    | i + 5, h1, h2 => simp [Uy.sl] at h1
  · match i, h1, h2 with
    | 0, h1, h2 => cases h1; cases h2; exact i2
    | 1, h1, h2 => cases h1; cases h2; exact i3
    | 2, h1, h2 => cases h1; cases h2; exact i4
    | 3, h1, h2 => cases h1; cases h2; exact i5
    | 4, h1, h2 => cases h1; cases h2; exact i6
    | i + 5, h1, h2 => simp [Uy.sl] at h1
  · rw [DT.n_node]
    simp only [Uy.ex] at n2 n3 n4 n5 n6
    have z0 := obulk_one y0.1
    have z1 := obulk_one y1.1
    have z2 := obulk_one y2.1
    have z3 := obulk_one y3.1
    have z4 := obulk_one y4.1
    have z5 := obulk_one y5.1
    have z6 := obulk_one y6.1
    have z7 := obulk_one y7.1
    have z8 := obulk_one y8.1
    have z9 := obulk_one y9.1
    simp only [List.map_cons, List.map_nil, List.sum_cons, List.sum_nil, Rows.uptoBulk, Rows.uptoBulkAll, Uy.ex]
    omega
set_option maxHeartbeats 2000000 in
theorem uopen_rel (n : Nat) (ih : ∀ k, k < n → ∀ t cs x, OTr enc w k (uyId t) cs x → UOp w t cs x) (h : OTr enc w n 59 cs x) : UOp w .rel cs x := by
  obtain ⟨xs, m, rfl, hx, hl, hxl, hf⟩ := DataW.trod_struct Tryz.underlying59 h
  subst hx
  rw [oc_api_Rel] at hl
  obtain ⟨c0, c1, c2, c3, c4, c5, c6, c7, c8, c9, c10, c11, c12, c13, rfl⟩ := oln14 hl
  obtain ⟨y0, y1, y2, y3, y4, y5, y6, y7, y8, y9, y10, y11, y12, y13, rfl⟩ := oln14 (show xs.length = 14 from hxl)
  have h0 : OTr enc w m 3 (([c0, c1, c2, c3, c4, c5, c6, c7, c8, c9, c10, c11, c12, c13].drop 0).take (Tryz.prog.cellsOf 3)) y0 := hf 0 _ rfl
  have h1 : OTr enc w m 3 (([c0, c1, c2, c3, c4, c5, c6, c7, c8, c9, c10, c11, c12, c13].drop 1).take (Tryz.prog.cellsOf 3)) y1 := hf 1 _ rfl
  have h2 : OTr enc w m 9 (([c0, c1, c2, c3, c4, c5, c6, c7, c8, c9, c10, c11, c12, c13].drop 2).take (Tryz.prog.cellsOf 9)) y2 := hf 2 _ rfl
  have h3 : OTr enc w m 4 (([c0, c1, c2, c3, c4, c5, c6, c7, c8, c9, c10, c11, c12, c13].drop 3).take (Tryz.prog.cellsOf 4)) y3 := hf 3 _ rfl
  have h4 : OTr enc w m 52 (([c0, c1, c2, c3, c4, c5, c6, c7, c8, c9, c10, c11, c12, c13].drop 4).take (Tryz.prog.cellsOf 52)) y4 := hf 4 _ rfl
  have h5 : OTr enc w m 53 (([c0, c1, c2, c3, c4, c5, c6, c7, c8, c9, c10, c11, c12, c13].drop 5).take (Tryz.prog.cellsOf 53)) y5 := hf 5 _ rfl
  have h6 : OTr enc w m 29 (([c0, c1, c2, c3, c4, c5, c6, c7, c8, c9, c10, c11, c12, c13].drop 6).take (Tryz.prog.cellsOf 29)) y6 := hf 6 _ rfl
  have h7 : OTr enc w m 28 (([c0, c1, c2, c3, c4, c5, c6, c7, c8, c9, c10, c11, c12, c13].drop 7).take (Tryz.prog.cellsOf 28)) y7 := hf 7 _ rfl
  have h8 : OTr enc w m 54 (([c0, c1, c2, c3, c4, c5, c6, c7, c8, c9, c10, c11, c12, c13].drop 8).take (Tryz.prog.cellsOf 54)) y8 := hf 8 _ rfl
  have h9 : OTr enc w m 55 (([c0, c1, c2, c3, c4, c5, c6, c7, c8, c9, c10, c11, c12, c13].drop 9).take (Tryz.prog.cellsOf 55)) y9 := hf 9 _ rfl
  have h10 : OTr enc w m 56 (([c0, c1, c2, c3, c4, c5, c6, c7, c8, c9, c10, c11, c12, c13].drop 10).take (Tryz.prog.cellsOf 56)) y10 := hf 10 _ rfl
  have h11 : OTr enc w m 57 (([c0, c1, c2, c3, c4, c5, c6, c7, c8, c9, c10, c11, c12, c13].drop 11).take (Tryz.prog.cellsOf 57)) y11 := hf 11 _ rfl
  have h12 : OTr enc w m 3 (([c0, c1, c2, c3, c4, c5, c6, c7, c8, c9, c10, c11, c12, c13].drop 12).take (Tryz.prog.cellsOf 3)) y12 := hf 12 _ rfl
  have h13 : OTr enc w m 3 (([c0, c1, c2, c3, c4, c5, c6, c7, c8, c9, c10, c11, c12, c13].drop 13).take (Tryz.prog.cellsOf 3)) y13 := hf 13 _ rfl
  simp only [oc_int, oc___api_Expr, oc___api_Rel, oc_string, oc_bool, oc___api_Type, oc_____api_Value, oc_____int, oc___api_Agg, oc___api_Window, oc___api_SortKey, List.drop_zero, List.drop_succ_cons, List.take_succ_cons, List.take_zero] at h0 h1 h2 h3 h4 h5 h6 h7 h8 h9 h10 h11 h12 h13
  obtain ⟨k0, e0, b0⟩ := otr_int Tryz.underlying3 h0
  obtain ⟨k1, e1, b1⟩ := otr_int Tryz.underlying3 h1
  obtain ⟨k2, e2, b2⟩ := otr_string Tryz.underlying9 h2
  obtain ⟨k3, e3⟩ := otr_bool Tryz.underlying4 h3
  obtain ⟨A4, cap4, l4, e4, r4, i4, n4⟩ := uopen_sl .type _ Tryz.underlying52 oc_api_Type m (fun k hk => ih k (by omega) .type) h4
  obtain ⟨A5, cap5, l5, e5, r5, i5, n5⟩ := uopen_sl .row _ Tryz.underlying53 oc___api_Value m (fun k hk => ih k (by omega) .row) h5
  obtain ⟨A6, cap6, l6, e6, r6, i6, n6⟩ := uopen_sl .rel _ Tryz.underlying29 oc_api_Rel m (fun k hk => ih k (by omega) .rel) h6
  obtain ⟨A7, cap7, l7, e7, r7, i7, n7⟩ := uopen_sl .expr _ Tryz.underlying28 oc_api_Expr m (fun k hk => ih k (by omega) .expr) h7
  obtain ⟨A8, cap8, l8, e8, r8, i8, n8⟩ := uopen_sl .set _ Tryz.underlying54 oc___int m (fun k hk => ih k (by omega) .set) h8
  obtain ⟨A9, cap9, l9, e9, r9, i9, n9⟩ := uopen_sl .agg _ Tryz.underlying55 oc_api_Agg m (fun k hk => ih k (by omega) .agg) h9
  obtain ⟨A10, cap10, l10, e10, r10, i10, n10⟩ := uopen_sl .win _ Tryz.underlying56 oc_api_Window m (fun k hk => ih k (by omega) .win) h10
  obtain ⟨A11, cap11, l11, e11, r11, i11, n11⟩ := uopen_sl .key _ Tryz.underlying57 oc_api_SortKey m (fun k hk => ih k (by omega) .key) h11
  obtain ⟨k12, e12, b12⟩ := otr_int Tryz.underlying3 h12
  obtain ⟨k13, e13, b13⟩ := otr_int Tryz.underlying3 h13
  simp only [List.cons.injEq, and_true] at e0 e1 e2 e3 e4 e5 e6 e7 e8 e9 e10 e11 e12 e13
  subst e0
  subst e1
  subst e2
  subst e3
  subst e4
  subst e5
  subst e6
  subst e7
  subst e8
  subst e9
  subst e10
  subst e11
  subst e12
  subst e13
  refine ⟨.node [.int .i64 k0, .int .i64 k1, .string k2, .bool k3, .slice A4 l4.length cap4, .slice A5 l5.length cap5, .slice A6 l6.length cap6, .slice A7 l7.length cap7, .slice A8 l8.length cap8, .slice A9 l9.length cap9, .slice A10 l10.length cap10, .slice A11 l11.length cap11, .int .i64 k12, .int .i64 k13] [l4, l5, l6, l7, l8, l9, l10, l11], rfl, .mk .rel _ _ rfl (fun u hu => ?_) ⟨k0, k1, k2, k3, k12, k13, _, _, _, _, _, _, _, _, rfl, b0, b1, b2, b12, b13⟩ rfl (fun i o s l h1 h2 => ?_) (fun i o s l h1 h2 => ?_), ?_⟩
  · simp only [List.mem_cons, List.not_mem_nil, or_false] at hu
    rcases hu with rfl | rfl | rfl | rfl | rfl | rfl | rfl | rfl | rfl | rfl | rfl | rfl | rfl | rfl <;> rfl
  · match i, h1, h2 with
    | 0, h1, h2 => cases h1; cases h2; exact ⟨A4, cap4, rfl, r4⟩
    | 1, h1, h2 => cases h1; cases h2; exact ⟨A5, cap5, rfl, r5⟩
    | 2, h1, h2 => cases h1; cases h2; exact ⟨A6, cap6, rfl, r6⟩
    | 3, h1, h2 => cases h1; cases h2; exact ⟨A7, cap7, rfl, r7⟩
    | 4, h1, h2 => cases h1; cases h2; exact ⟨A8, cap8, rfl, r8⟩
    | 5, h1, h2 => cases h1; cases h2; exact ⟨A9, cap9, rfl, r9⟩
    | 6, h1, h2 => cases h1; cases h2; exact ⟨A10, cap10, rfl, r10⟩
    | 7, h1, h2 => cases h1; cases h2; exact ⟨A11, cap11, rfl, r11⟩
    | i + 8, h1, h2 => simp [Uy.sl] at h1
  · match i, h1, h2 with
    | 0, h1, h2 => cases h1; cases h2; exact i4
    | 1, h1, h2 => cases h1; cases h2; exact i5
    | 2, h1, h2 => cases h1; cases h2; exact i6
    | 3, h1, h2 => cases h1; cases h2; exact i7
    | 4, h1, h2 => cases h1; cases h2; exact i8
    | 5, h1, h2 => cases h1; cases h2; exact i9
    | 6, h1, h2 => cases h1; cases h2; exact i10
    | 7, h1, h2 => cases h1; cases h2; exact i11
    | i + 8, h1, h2 => simp [Uy.sl] at h1
  · rw [DT.n_node]
    simp only [Uy.ex] at n4 n5 n6 n7 n8 n9 n10 n11
    have z0 := obulk_one y0.1
    have z1 := obulk_one y1.1
    have z2 := obulk_one y2.1
    have z3 := obulk_one y3.1
    have z4 := obulk_one y4.1
    have z5 := obulk_one y5.1
    have z6 := obulk_one y6.1
    have z7 := obulk_one y7.1
    have z8 := obulk_one y8.1
    have z9 := obulk_one y9.1
    have z10 := obulk_one y10.1
    have z11 := obulk_one y11.1
    have z12 := obulk_one y12.1
    have z13 := obulk_one y13.1
    simp only [List.map_cons, List.map_nil, List.sum_cons, List.sum_nil, Rows.uptoBulk, Rows.uptoBulkAll, Uy.ex]
    omega
set_option maxHeartbeats 2000000 in
theorem uopen_expr (n : Nat) (ih : ∀ k, k < n → ∀ t cs x, OTr enc w k (uyId t) cs x → UOp w t cs x) (h : OTr enc w n 31 cs x) : UOp w .expr cs x := by
  obtain ⟨xs, m, rfl, hx, hl, hxl, hf⟩ := DataW.trod_struct Tryz.underlying31 h
  subst hx
  rw [oc_api_Expr] at hl
  obtain ⟨c0, c1, c2, c3, c4, c5, c6, c7, c8, c9, c10, c11, c12, c13, rfl⟩ := oln14 hl
  obtain ⟨y0, y1, y2, y3, y4, y5, y6, y7, rfl⟩ := oln8 (show xs.length = 8 from hxl)
  have h0 : OTr enc w m 3 (([c0, c1, c2, c3, c4, c5, c6, c7, c8, c9, c10, c11, c12, c13].drop 0).take (Tryz.prog.cellsOf 3)) y0 := hf 0 _ rfl
  have h1 : OTr enc w m 3 (([c0, c1, c2, c3, c4, c5, c6, c7, c8, c9, c10, c11, c12, c13].drop 1).take (Tryz.prog.cellsOf 3)) y1 := hf 1 _ rfl
  have h2 : OTr enc w m 3 (([c0, c1, c2, c3, c4, c5, c6, c7, c8, c9, c10, c11, c12, c13].drop 2).take (Tryz.prog.cellsOf 3)) y2 := hf 2 _ rfl
  have h3 : OTr enc w m 3 (([c0, c1, c2, c3, c4, c5, c6, c7, c8, c9, c10, c11, c12, c13].drop 3).take (Tryz.prog.cellsOf 3)) y3 := hf 3 _ rfl
  have h4 : OTr enc w m 24 (([c0, c1, c2, c3, c4, c5, c6, c7, c8, c9, c10, c11, c12, c13].drop 4).take (Tryz.prog.cellsOf 24)) y4 := hf 4 _ rfl
  have h5 : OTr enc w m 27 (([c0, c1, c2, c3, c4, c5, c6, c7, c8, c9, c10, c11, c12, c13].drop 7).take (Tryz.prog.cellsOf 27)) y5 := hf 5 _ rfl
  have h6 : OTr enc w m 28 (([c0, c1, c2, c3, c4, c5, c6, c7, c8, c9, c10, c11, c12, c13].drop 12).take (Tryz.prog.cellsOf 28)) y6 := hf 6 _ rfl
  have h7 : OTr enc w m 29 (([c0, c1, c2, c3, c4, c5, c6, c7, c8, c9, c10, c11, c12, c13].drop 13).take (Tryz.prog.cellsOf 29)) y7 := hf 7 _ rfl
  simp only [oc_int, oc_api_Type, oc_api_Value, oc___api_Expr, oc___api_Rel, List.drop_zero, List.drop_succ_cons, List.take_succ_cons, List.take_zero] at h0 h1 h2 h3 h4 h5 h6 h7
  obtain ⟨k0, e0, b0⟩ := otr_int Tryz.underlying3 h0
  obtain ⟨k1, e1, b1⟩ := otr_int Tryz.underlying3 h1
  obtain ⟨k2, e2, b2⟩ := otr_int Tryz.underlying3 h2
  obtain ⟨k3, e3, b3⟩ := otr_int Tryz.underlying3 h3
  obtain ⟨d4, e4, hin4, n4⟩ := ih m (by omega) .type _ _ h4
  obtain ⟨A4, cap4, l4, hn4, es4, hok4, r4, i4⟩ := uin_one (s := .field) (o := 2) rfl hin4
  rw [e4] at es4 hok4
  rw [hn4] at n4
  obtain ⟨tk, tsc, tv, q4, btk, btsc⟩ := hok4
  rw [q4] at es4
  obtain rfl : tv = _ := Option.some.inj es4
  clear hin4 e4
  obtain ⟨d5, e5, hin5, n5⟩ := ih m (by omega) .value _ _ h5
  obtain ⟨A5, cap5, l5, hn5, es5, hok5, r5, i5⟩ := uin_one (s := .value) (o := 4) rfl hin5
  rw [e5] at es5 hok5
  rw [hn5] at n5
  obtain ⟨vk, vn, vsc, vs, vv, q5, bvk, bvn, bvsc, bvs⟩ := hok5
  rw [q5] at es5
  obtain rfl : vv = _ := Option.some.inj es5
  clear hin5 e5
  obtain ⟨A6, cap6, l6, e6, r6, i6, n6⟩ := uopen_sl .expr _ Tryz.underlying28 oc_api_Expr m (fun k hk => ih k (by omega) .expr) h6
  obtain ⟨A7, cap7, l7, e7, r7, i7, n7⟩ := uopen_sl .rel _ Tryz.underlying29 oc_api_Rel m (fun k hk => ih k (by omega) .rel) h7
  simp only [List.cons.injEq, and_true] at e0 e1 e2 e3 q4 q5 e6 e7
  subst e0
  subst e1
  subst e2
  subst e3
  obtain ⟨q4_0, q4_1, q4_2⟩ := q4
  subst q4_0 q4_1 q4_2
  obtain ⟨q5_0, q5_1, q5_2, q5_3, q5_4⟩ := q5
  subst q5_0 q5_1 q5_2 q5_3 q5_4
  subst e6
  subst e7
  refine ⟨.node [.int .i64 k0, .int .i64 k1, .int .i64 k2, .int .i64 k3, .int .i64 tk, .int .i64 tsc, .slice A4 l4.length cap4, .int .i64 vk, .int .i64 vn, .int .i64 vsc, .string vs, .slice A5 l5.length cap5, .slice A6 l6.length cap6, .slice A7 l7.length cap7] [l4, l5, l6, l7], rfl, .mk .expr _ _ rfl (fun u hu => ?_) ⟨⟨k0, k1, k2, k3, tk, tsc, vk, vn, vsc, vs⟩, _, _, _, _, rfl, b0, b1, b2, b3, btk, btsc, bvk, bvn, bvsc, bvs⟩ rfl (fun i o s l h1 h2 => ?_) (fun i o s l h1 h2 => ?_), ?_⟩
  · simp only [List.mem_cons, List.not_mem_nil, or_false] at hu
    rcases hu with rfl | rfl | rfl | rfl | rfl | rfl | rfl | rfl | rfl | rfl | rfl | rfl | rfl | rfl <;> rfl
  · match i, h1, h2 with
    | 0, h1, h2 => cases h1; cases h2; exact ⟨A4, cap4, rfl, r4⟩
    | 1, h1, h2 => cases h1; cases h2; exact ⟨A5, cap5, rfl, r5⟩
    | 2, h1, h2 => cases h1; cases h2; exact ⟨A6, cap6, rfl, r6⟩
    | 3, h1, h2 => cases h1; cases h2; exact ⟨A7, cap7, rfl, r7⟩
    | i + 4, h1, h2 => simp [Uy.sl] at h1
  · match i, h1, h2 with
    | 0, h1, h2 => cases h1; cases h2; exact i4
    | 1, h1, h2 => cases h1; cases h2; exact i5
    | 2, h1, h2 => cases h1; cases h2; exact i6
    | 3, h1, h2 => cases h1; cases h2; exact i7
    | i + 4, h1, h2 => simp [Uy.sl] at h1
  · rw [DT.n_node]
    simp only [Uy.ex] at n4 n5 n6 n7
    have z0 := obulk_one y0.1
    have z1 := obulk_one y1.1
    have z2 := obulk_one y2.1
    have z3 := obulk_one y3.1
    have z4 := obulk_one y4.1
    have z5 := obulk_one y5.1
    have z6 := obulk_one y6.1
    have z7 := obulk_one y7.1
    simp only [List.map_cons, List.map_nil, List.sum_cons, List.sum_nil, Rows.uptoBulk, Rows.uptoBulkAll, Uy.ex]
    omega
theorem uopen_key (n : Nat) (ih : ∀ k, k < n → ∀ t cs x, OTr enc w k (uyId t) cs x → UOp w t cs x) (h : OTr enc w n 105 cs x) : UOp w .key cs x := by
  obtain ⟨xs, m, rfl, hx, hl, hxl, hf⟩ := DataW.trod_struct Tryz.underlying105 h
  subst hx
  rw [oc_api_SortKey] at hl
  obtain ⟨y0, y1, y2, rfl⟩ := oln3 (show xs.length = 3 from hxl)
  have h0 : OTr enc w m 31 ((cs.drop 0).take (Tryz.prog.cellsOf 31)) y0 := hf 0 _ rfl
  have h1 : OTr enc w m 4 ((cs.drop 14).take (Tryz.prog.cellsOf 4)) y1 := hf 1 _ rfl
  have h2 : OTr enc w m 4 ((cs.drop 15).take (Tryz.prog.cellsOf 4)) y2 := hf 2 _ rfl
  rw [oc_api_Expr, List.drop_zero] at h0
  rw [oc_bool] at h1 h2
  obtain ⟨d, hdc, hin, hdn⟩ := ih m (by omega) .expr _ _ h0
  obtain ⟨b1, e1⟩ := otr_bool Tryz.underlying4 h1
  obtain ⟨b2, e2⟩ := otr_bool Tryz.underlying4 h2
  have hcs : cs = d.c ++ [.bool b1, .bool b2] := by
    rw [hdc, show ([.bool b1, .bool b2] : List Value) = [.bool b1] ++ [.bool b2] from rfl, ← e1, ← e2]
    have q1 : (cs.drop 14).take 1 ++ (cs.drop 15).take 1 = cs.drop 14 := by
      have : cs.drop 15 = (cs.drop 14).drop 1 := by rw [List.drop_drop]
      rw [this, List.take_of_length_le (l := (cs.drop 14).drop 1) (by simp; omega), List.take_append_drop]
    rw [q1, List.take_append_drop]
  cases hin with
  | mk _ c k hlc h1c hok hk hr hx =>
    obtain ⟨a, v6, v11, v12, v13, rfl, ha⟩ := hok
    refine ⟨.node cs k, rfl, .mk .key _ _ hl (fun u hu => ?_) ⟨a, v6, v11, v12, v13, b1, b2, by rw [hcs]; rfl, ha⟩ hk (fun i o s l g1 g2 => ?_) (fun i o s l g1 g2 => hx i o s l g1 g2), ?_⟩
    · rw [hcs] at hu
      rcases List.mem_append.1 hu with hu | hu
      · exact h1c u hu
      · simp at hu
        rcases hu with rfl | rfl <;> rfl
    · obtain ⟨A, cap, e, hrow⟩ := hr i o s l g1 g2
      refine ⟨A, cap, ?_, hrow⟩
      rw [hcs]
      exact (List.getElem?_append_left (List.getElem?_eq_some_iff.1 e).1).trans e
    · rw [DT.n_node] at hdn ⊢
      simp only [List.map_cons, List.map_nil, Rows.uptoBulk, Rows.uptoBulkAll, Uy.ex] at hdn ⊢
      omega
theorem uopen_all : ∀ (n : Nat) (t : Uy) (cs : List Value) (x : DataW H × List MemPlace), OTr enc w n (uyId t) cs x → UOp w t cs x := by
  intro n
  induction n using Nat.strongRecOn with
  | ind n ih =>
    intro t cs x h
    cases t with
    | expr => exact uopen_expr n ih h
    | rel => exact uopen_rel n ih h
    | agg => exact uopen_agg n ih h
    | win => exact uopen_win n ih h
    | key => exact uopen_key n ih h
    | field => exact uopen_field n ih h
    | type => exact uopen_type n ih h
    | value => exact uopen_value n ih h
    | row => exact uopen_row n ih h
    | set => exact uopen_set n ih h
    | num => exact uopen_num h
end
end Go.Proofs.YthijagpnpcpcbaaGreat

