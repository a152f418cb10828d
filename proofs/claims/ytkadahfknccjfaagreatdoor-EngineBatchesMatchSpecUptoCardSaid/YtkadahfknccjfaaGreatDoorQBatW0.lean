/-
  From what an argument reads as to what lies in memory: types, values, tables.
  Lists of types and lists of rows, opened.
  The bulk of a list.
-/
import Derived.Test.YtkadahfknccjfaaGreatDoorQData3
import Derived.Test.YtkadahfknccjfaaGreatDoorProg
import Derived.ProofKit
import Derived.OpenShut
import Derived.KernelRfl
import Derived.Test.YtkadahfknccjfaaGreatDoorRows
namespace Go.Proofs.YtkadahfknccjfaaGreatDoor
open Go.RowKit Go.ChangeShapes Go.WideShapes
section
variable {H : Type} {enc : TypeId × Value → H} {w : World}
/-- The cells read as something of type t, in n steps. -/
def Rd (enc : TypeId × Value → H) (w : World) (n : Nat) (t : TypeId) (cs : List Value) : Prop := ∃ x, DataW.trod enc Tryz.prog w 0 (fun _ => true) true n t cs = some x
theorem rd_int {n : Nat} {t : TypeId} {cs : List Value} (ht : Tryz.prog.underlying t = some (.int .i64)) (h : Rd enc w n t cs) : ∃ k, cs = [.int .i64 k] ∧ I64 k := by
  obtain ⟨x, h⟩ := h
  obtain ⟨k, hk, _, hw⟩ := DataW.trod_int ht h
  exact ⟨k, hk, bounds_i64 hw⟩
theorem rd_string {n : Nat} {t : TypeId} {cs : List Value} (ht : Tryz.prog.underlying t = some .string) (h : Rd enc w n t cs) : ∃ s : ByteArray, cs = [.string s] ∧ s.size ≤ maxLen := by
  obtain ⟨x, h⟩ := h
  obtain ⟨s, hs, _, hw⟩ := DataW.trod_string ht h
  exact ⟨s, hs, hw⟩
theorem rd_bool {n : Nat} {t : TypeId} {cs : List Value} (ht : Tryz.prog.underlying t = some .bool) (h : Rd enc w n t cs) : ∃ b : Bool, cs = [.bool b] := by
  obtain ⟨x, h⟩ := h
  obtain ⟨b, hb, _⟩ := DataW.trod_bool ht h
  exact ⟨b, hb⟩
theorem rd_struct {n : Nat} {t : TypeId} {cs : List Value} {fs : Array Field} (ht : Tryz.prog.underlying t = some (.struct fs)) (h : Rd enc w n t cs) :
    ∃ m, n = m + 1 ∧ cs.length = Tryz.prog.cellsOf t ∧ ∀ (i : Nat) (f : Field), fs[i]? = some f → Rd enc w m f.type ((cs.drop f.offset).take (Tryz.prog.cellsOf f.type)) := by
  obtain ⟨x, h⟩ := h
  obtain ⟨xs, m, hn, _, hl, hx, hf⟩ := DataW.trod_struct ht h
  refine ⟨m, hn, hl, fun i f hfi => ?_⟩
  have hi : i < xs.length := by rw [hx]; exact (Array.getElem?_eq_some_iff.1 hfi).1
  exact ⟨xs[i], by rw [hf i f hfi, List.getElem?_eq_getElem hi]⟩
theorem rd_slice {n c : Nat} {t e : TypeId} {cs : List Value} (ht : Tryz.prog.underlying t = some (.slice e)) (hc : Tryz.prog.cellsOf e = c) (hc0 : 0 < c) (h : Rd enc w n t cs) :
    ∃ (A : Option Addr) (len cap m : Nat), n = m + 1 ∧ cs = [.slice A len cap] ∧ len ≤ cap ∧ cap ≤ maxLen ∧
      ∀ i, i < len → ∃ (ad : Addr) (cs' : List Value), A = some ad ∧ ad.block < w.heap.size ∧ cs'.length = c ∧ (∀ k, k < c → w.cell? ((ad.add (i * c)).add k) = cs'[k]?) ∧ Rd enc w m e cs' := by
  obtain ⟨x, h⟩ := h
  rcases DataW.trod_slice ht h with ⟨rfl, _⟩ | ⟨a, len, cap, elems, rest, m, hn, rfl, _, _, hl, hm, hlen, hel, _⟩
  · cases n with
    | zero => simp [DataW.trod] at h
    | succ m => exact ⟨none, 0, 0, m, rfl, rfl, Nat.le_refl _, Nat.zero_le _, fun i hi => absurd hi (Nat.not_lt_zero _)⟩
  · refine ⟨some a, len, cap, m, hn, rfl, hl, hm, fun i hi => ?_⟩
    have hei := hel i hi
    rw [List.getElem?_eq_getElem (show i < elems.length by omega), hc] at hei
    obtain ⟨cs', h1, h2⟩ := Option.bind_eq_some_iff.1 hei
    obtain ⟨_, hl', hcell⟩ := World.cells?_some h1
    refine ⟨a, cs', rfl, ?_, hl', hcell, _, h2⟩
    have h0 := hcell 0 hc0
    rw [List.getElem?_eq_getElem (show 0 < cs'.length by omega)] at h0
    have := cell_lt h0
    rw [block_add, block_add] at this
    exact this
theorem list_choose {α : Type} {p : Nat → α → Prop} : ∀ {n : Nat}, (∀ i, i < n → ∃ x, p i x) → ∃ l : List α, l.length = n ∧ ∀ i x, l[i]? = some x → p i x
  | 0, _ => ⟨[], rfl, fun i x h => by simp at h⟩
  | n + 1, h => by
    obtain ⟨l, hl, hp⟩ := list_choose (n := n) (fun i hi => h i (by omega))
    obtain ⟨y, hy⟩ := h n (by omega)
    refine ⟨l ++ [y], by simp [hl], fun i x hx => ?_⟩
    by_cases hi : i < l.length
    · rw [List.getElem?_append_left hi] at hx
      exact hp i x hx
    · rw [List.getElem?_append_right (by omega)] at hx
      by_cases e : i - l.length = 0
      · rw [e] at hx
        simp at hx
        subst hx
        obtain rfl : i = n := by omega
        exact hy
      · rw [List.getElem?_eq_none (by simp; omega)] at hx
        cases hx
theorem len3 {α : Type} : ∀ {l : List α}, l.length = 3 → ∃ a b c, l = [a, b, c]
  | [a, b, c], _ => ⟨a, b, c, rfl⟩
theorem len5 {α : Type} : ∀ {l : List α}, l.length = 5 → ∃ a b c d e, l = [a, b, c, d, e]
  | [a, b, c, d, e], _ => ⟨a, b, c, d, e, rfl⟩
theorem len6 {α : Type} : ∀ {l : List α}, l.length = 6 → ∃ a b c d e f, l = [a, b, c, d, e, f]
  | [a, b, c, d, e, f], _ => ⟨a, b, c, d, e, f, rfl⟩
theorem cellsInt : Tryz.prog.cellsOf 3 = 1 := by kernel_rfl
theorem cellsBool : Tryz.prog.cellsOf 4 = 1 := by kernel_rfl
theorem cellsString : Tryz.prog.cellsOf 9 = 1 := by kernel_rfl
theorem cellsType : Tryz.prog.cellsOf 50 = 3 := by kernel_rfl
theorem cellsField : Tryz.prog.cellsOf 84 = 6 := by kernel_rfl
theorem cellsFields : Tryz.prog.cellsOf 48 = 1 := by kernel_rfl
theorem cellsValue : Tryz.prog.cellsOf 61 = 5 := by kernel_rfl
theorem cellsValues : Tryz.prog.cellsOf 42 = 1 := by kernel_rfl
theorem open_type : ∀ (n : Nat) (cs : List Value), Rd enc w n 50 cs → ∀ (id : Int) (nm : ByteArray) (nd : Bool), I64 id → nm.size ≤ maxLen →
    ∃ (k sc : Int) (A : Option Addr) (cap : Nat) (l : List FT), cs = [.int .i64 k, .int .i64 sc, .slice A l.length cap] ∧ FT.In w.heap.size w (.node ⟨id, nm, nd, k, sc, A, cap⟩ l) := by
  intro n
  induction n using Nat.strongRecOn with
  | ind n ih =>
    intro cs h id nm nd hid hnm
    obtain ⟨m, rfl, hl, hf⟩ := rd_struct Tryz.underlying50 h
    rw [cellsType] at hl
    obtain ⟨c0, c1, c2, rfl⟩ := len3 hl
    have h0 : Rd enc w m 3 (([c0, c1, c2].drop 0).take (Tryz.prog.cellsOf 3)) := hf 0 _ rfl
    have h1 : Rd enc w m 3 (([c0, c1, c2].drop 1).take (Tryz.prog.cellsOf 3)) := hf 1 _ rfl
    have h2 : Rd enc w m 48 (([c0, c1, c2].drop 2).take (Tryz.prog.cellsOf 48)) := hf 2 _ rfl
    simp only [cellsInt, cellsFields, List.drop_zero, List.drop_succ_cons, List.take_succ_cons, List.take_zero] at h0 h1 h2
    obtain ⟨k, e0, hk⟩ := rd_int Tryz.underlying3 h0
    obtain ⟨sc, e1, hsc⟩ := rd_int Tryz.underlying3 h1
    obtain ⟨A, len, cap, m2, rfl, e2, hlc, hcm, hel⟩ := rd_slice Tryz.underlying48 cellsField (by omega) h2
    simp only [List.cons.injEq, and_true] at e0 e1 e2
    subst e0 e1 e2
    have hx : ∀ i, i < len → ∃ X : FT, (∃ ad : Addr, A = some ad ∧ ad.block < w.heap.size ∧ X.At w (ad.add (i * 6))) ∧ FT.In w.heap.size w X := fun i hi => by
      obtain ⟨ad, cs', hA, hb, hl', hc, hr⟩ := hel i hi
      obtain ⟨m3, rfl, _, hf'⟩ := rd_struct Tryz.underlying84 hr
      obtain ⟨d0, d1, d2, d3, d4, d5, rfl⟩ := len6 hl'
      have g0 : Rd enc w m3 3 (([d0, d1, d2, d3, d4, d5].drop 0).take (Tryz.prog.cellsOf 3)) := hf' 0 _ rfl
      have g1 : Rd enc w m3 9 (([d0, d1, d2, d3, d4, d5].drop 1).take (Tryz.prog.cellsOf 9)) := hf' 1 _ rfl
      have g2 : Rd enc w m3 4 (([d0, d1, d2, d3, d4, d5].drop 2).take (Tryz.prog.cellsOf 4)) := hf' 2 _ rfl
      have g3 : Rd enc w m3 50 (([d0, d1, d2, d3, d4, d5].drop 3).take (Tryz.prog.cellsOf 50)) := hf' 3 _ rfl
      simp only [cellsInt, cellsString, cellsBool, cellsType, List.drop_zero, List.drop_succ_cons, List.take_succ_cons, List.take_zero] at g0 g1 g2 g3
      obtain ⟨id', f0, hid'⟩ := rd_int Tryz.underlying3 g0
      obtain ⟨nm', f1, hnm'⟩ := rd_string Tryz.underlying9 g1
      obtain ⟨nd', f2⟩ := rd_bool Tryz.underlying4 g2
      obtain ⟨k', sc', A', cap', l', f3, hin'⟩ := ih m3 (by omega) _ g3 id' nm' nd' hid' hnm'
      simp only [List.cons.injEq, and_true] at f0 f1 f2 f3
      obtain ⟨f3, f4, f5⟩ := f3
      subst f0 f1 f2 f3 f4 f5
      have k0 := hc 0 (by omega)
      have k1 := hc 1 (by omega)
      have k2 := hc 2 (by omega)
      have k3 := hc 3 (by omega)
      have k4 := hc 4 (by omega)
      have k5 := hc 5 (by omega)
      exact ⟨.node ⟨id', nm', nd', k', sc', A', cap'⟩ l', ⟨ad, hA, hb, k0, k1, k2, k3, k4, k5⟩, hin'⟩
    obtain ⟨l, hll, hlp⟩ := list_choose hx
    refine ⟨k, sc, A, cap, l, by rw [hll], .mk id nm nd k sc A cap l hid hnm hk hsc ⟨by omega, hcm, fun i x hx => (hlp i x hx).1⟩ fun x hx => ?_⟩
    obtain ⟨i, hi⟩ := List.getElem?_of_mem hx
    exact (hlp i x hi).2
theorem open_value : ∀ (n : Nat) (cs : List Value), Rd enc w n 61 cs →
    ∃ X : VT, cs = [.int .i64 X.a.k, .int .i64 X.a.n, .int .i64 X.a.sc, .string X.a.s, .slice X.a.A X.l.length X.a.cap] ∧ VT.In w.heap.size w X := by
  intro n
  induction n using Nat.strongRecOn with
  | ind n ih =>
    intro cs h
    obtain ⟨m, rfl, hl, hf⟩ := rd_struct Tryz.underlying61 h
    rw [cellsValue] at hl
    obtain ⟨c0, c1, c2, c3, c4, rfl⟩ := len5 hl
    have h0 : Rd enc w m 3 (([c0, c1, c2, c3, c4].drop 0).take (Tryz.prog.cellsOf 3)) := hf 0 _ rfl
    have h1 : Rd enc w m 3 (([c0, c1, c2, c3, c4].drop 1).take (Tryz.prog.cellsOf 3)) := hf 1 _ rfl
    have h2 : Rd enc w m 3 (([c0, c1, c2, c3, c4].drop 2).take (Tryz.prog.cellsOf 3)) := hf 2 _ rfl
    have h3 : Rd enc w m 9 (([c0, c1, c2, c3, c4].drop 3).take (Tryz.prog.cellsOf 9)) := hf 3 _ rfl
    have h4 : Rd enc w m 42 (([c0, c1, c2, c3, c4].drop 4).take (Tryz.prog.cellsOf 42)) := hf 4 _ rfl
    simp only [cellsInt, cellsString, cellsValues, List.drop_zero, List.drop_succ_cons, List.take_succ_cons, List.take_zero] at h0 h1 h2 h3 h4
    obtain ⟨k, e0, hk⟩ := rd_int Tryz.underlying3 h0
    obtain ⟨nn, e1, hn⟩ := rd_int Tryz.underlying3 h1
    obtain ⟨sc, e2, hsc⟩ := rd_int Tryz.underlying3 h2
    obtain ⟨s, e3, hs⟩ := rd_string Tryz.underlying9 h3
    obtain ⟨A, len, cap, m2, rfl, e4, hlc, hcm, hel⟩ := rd_slice Tryz.underlying42 cellsValue (by omega) h4
    simp only [List.cons.injEq, and_true] at e0 e1 e2 e3 e4
    subst e0 e1 e2 e3 e4
    have hx : ∀ i, i < len → ∃ X : VT, (∃ ad : Addr, A = some ad ∧ ad.block < w.heap.size ∧ X.At w (ad.add (i * 5))) ∧ VT.In w.heap.size w X := fun i hi => by
      obtain ⟨ad, cs', hA, hb, hl', hc, hr⟩ := hel i hi
      obtain ⟨X, hX, hin⟩ := ih m2 (by omega) _ hr
      subst hX
      have k0 := hc 0 (by omega)
      have k1 := hc 1 (by omega)
      have k2 := hc 2 (by omega)
      have k3 := hc 3 (by omega)
      have k4 := hc 4 (by omega)
      exact ⟨X, ⟨ad, hA, hb, k0, k1, k2, k3, k4⟩, hin⟩
    obtain ⟨l, hll, hlp⟩ := list_choose hx
    refine ⟨.node ⟨k, nn, sc, s, A, cap⟩ l, by simp [VT.a, VT.l, hll], .mk k nn sc s A cap l hk hn hsc hs ⟨by omega, hcm, fun i x hx => (hlp i x hx).1⟩ fun x hx => ?_⟩
    obtain ⟨i, hi⟩ := List.getElem?_of_mem hx
    exact (hlp i x hi).2
/-- A slice of values. -/
theorem open_values {n : Nat} {cs : List Value} (h : Rd enc w n 42 cs) : ∃ (A : Option Addr) (cap : Nat) (l : List VT), cs = [.slice A l.length cap] ∧ VT.Rows w.heap.size w A cap l := by
  obtain ⟨A, len, cap, m2, rfl, e4, hlc, hcm, hel⟩ := rd_slice Tryz.underlying42 cellsValue (by omega) h
  have hx : ∀ i, i < len → ∃ X : VT, (∃ ad : Addr, A = some ad ∧ ad.block < w.heap.size ∧ X.At w (ad.add (i * 5))) ∧ VT.In w.heap.size w X := fun i hi => by
    obtain ⟨ad, cs', hA, hb, hl', hc, hr⟩ := hel i hi
    obtain ⟨X, hX, hin⟩ := open_value _ _ hr
    subst hX
    have k0 := hc 0 (by omega)
    have k1 := hc 1 (by omega)
    have k2 := hc 2 (by omega)
    have k3 := hc 3 (by omega)
    have k4 := hc 4 (by omega)
    exact ⟨X, ⟨ad, hA, hb, k0, k1, k2, k3, k4⟩, hin⟩
  obtain ⟨l, hll, hlp⟩ := list_choose hx
  refine ⟨A, cap, l, by rw [e4, hll], ⟨by omega, hcm, fun i x hx => (hlp i x hx).1⟩, fun x hx => ?_⟩
  obtain ⟨i, hi⟩ := List.getElem?_of_mem hx
  exact (hlp i x hi).2
end
end Go.Proofs.YtkadahfknccjfaaGreatDoor
namespace Go.Proofs.YtkadahfknccjfaaGreatDoor
open Go.RowKit Go.ChangeShapes Go.WideShapes
section
variable {H : Type} {enc : TypeId × Value → H} {w : World}
theorem cellsTypes : Tryz.prog.cellsOf 22 = 1 := by kernel_rfl
theorem cellsRows : Tryz.prog.cellsOf 23 = 1 := by kernel_rfl
theorem open_types {n : Nat} {cs : List Value} (h : Rd enc w n 22 cs) : ∃ (A : Option Addr) (cap : Nat) (l : List FT), cs = [.slice A l.length cap] ∧ FT.TRow w.heap.size w A cap l := by
  obtain ⟨A, len, cap, m2, rfl, e4, hlc, hcm, hel⟩ := rd_slice Tryz.underlying22 cellsType (by omega) h
  have hx : ∀ i, i < len → ∃ X : FT, (∃ ad : Addr, A = some ad ∧ ad.block < w.heap.size ∧ X.TAt w (ad.add (i * 3))) ∧ FT.In w.heap.size w X := fun i hi => by
    obtain ⟨ad, cs', hA, hb, hl', hc, hr⟩ := hel i hi
    obtain ⟨k, sc, A', cap', l', hX, hin⟩ := open_type _ _ hr 0 ByteArray.empty false ⟨by omega, by omega⟩ (Nat.zero_le _)
    subst hX
    have k0 := hc 0 (by omega)
    have k1 := hc 1 (by omega)
    have k2 := hc 2 (by omega)
    exact ⟨.node ⟨0, ByteArray.empty, false, k, sc, A', cap'⟩ l', ⟨ad, hA, hb, k0, k1, k2⟩, hin⟩
  obtain ⟨l, hll, hlp⟩ := list_choose hx
  refine ⟨A, cap, l, by rw [e4, hll], by omega, hcm, fun x hx => ?_, fun i x hx => (hlp i x hx).1⟩
  obtain ⟨i, hi⟩ := List.getElem?_of_mem hx
  exact (hlp i x hi).2
/-- A slice of rows. -/
theorem open_rows {n : Nat} {cs : List Value} (h : Rd enc w n 23 cs) : ∃ (A : Option Addr) (cap : Nat) (l : List VT), cs = [.slice A l.length cap] ∧ VT.RRow w.heap.size w A cap l := by
  obtain ⟨A, len, cap, m2, rfl, e4, hlc, hcm, hel⟩ := rd_slice Tryz.underlying23 cellsValues (by omega) h
  have hx : ∀ i, i < len → ∃ X : VT, (∃ ad : Addr, A = some ad ∧ ad.block < w.heap.size ∧ w.cell? (ad.add i) = some (.slice X.a.A X.l.length X.a.cap)) ∧ VT.Rows w.heap.size w X.a.A X.a.cap X.l := fun i hi => by
    obtain ⟨ad, cs', hA, hb, hl', hc, hr⟩ := hel i hi
    obtain ⟨A', cap', l', hX, hin⟩ := open_values hr
    subst hX
    have k0 := hc 0 (by omega)
    rw [Nat.mul_one] at k0
    exact ⟨.node ⟨0, 0, 0, ByteArray.empty, A', cap'⟩ l', ⟨ad, hA, hb, k0⟩, hin⟩
  obtain ⟨l, hll, hlp⟩ := list_choose hx
  refine ⟨A, cap, l, by rw [e4, hll], by omega, hcm, fun x hx => ?_, fun i x hx => (hlp i x hx).1⟩
  obtain ⟨i, hi⟩ := List.getElem?_of_mem hx
  exact (hlp i x hi).2
end
end Go.Proofs.YtkadahfknccjfaaGreatDoor
namespace Go.Proofs.YtkadahfknccjfaaGreatDoor
open Go.RowKit Go.ChangeShapes Go.WideShapes
theorem bulk_one {H : Type} (d : DataW H) : 1 ≤ Rows.uptoBulk d := by
  cases d with
  | lit l => cases l <;> simp [Rows.uptoBulk]
  | nil => simp [Rows.uptoBulk]
  | ptr d => simp [Rows.uptoBulk]
  | slice elems spare => simp [Rows.uptoBulk]
  | agg parts => simp [Rows.uptoBulk]
  | iface t d => simp [Rows.uptoBulk]
  | map entries => simp [Rows.uptoBulk]
  | held h => simp [Rows.uptoBulk]
theorem bulk_part {H : Type} {d : DataW H} {l : List (DataW H)} (h : d ∈ l) : Rows.uptoBulk d ≤ Rows.uptoBulkAll l := by
  induction l with
  | nil => cases h
  | cons x r ih =>
    simp only [Rows.uptoBulkAll]
    cases List.mem_cons.1 h with
    | inl e => subst e; omega
    | inr e => have := ih e; omega
theorem bulk_len {H : Type} (l : List (DataW H)) : l.length ≤ Rows.uptoBulkAll l := by
  induction l with
  | nil => simp [Rows.uptoBulkAll]
  | cons x r ih => have := bulk_one x; simp only [Rows.uptoBulkAll, List.length_cons]; omega
section
variable {H : Type} {enc : TypeId × Value → H} {w : World}
def Tr (enc : TypeId × Value → H) (w : World) (n : Nat) (t : TypeId) (cs : List Value) (x : DataW H × List MemPlace) : Prop := DataW.trod enc Tryz.prog w 0 (fun _ => true) true n t cs = some x
variable {n : Nat} {t : TypeId} {cs : List Value} {x : DataW H × List MemPlace}
theorem tr_sl {e : TypeId} (ht : Tryz.prog.underlying t = some (.slice e)) (h : Tr enc w n t cs x) : ∃ (A : Option Addr) (len cap : Nat), cs = [.slice A len cap] ∧ len + 1 ≤ Rows.uptoBulk x.1 := by
  rcases DataW.trod_slice ht h with ⟨rfl, rfl⟩ | ⟨a, len, cap, elems, rest, m, hn, rfl, rfl, _, hl, hm, hlen, hel, _⟩
  · exact ⟨none, 0, 0, rfl, by simp [Rows.uptoBulk]⟩
  · refine ⟨some a, len, cap, rfl, ?_⟩
    have := bulk_len (elems.map (·.1))
    simp only [Rows.uptoBulk, List.length_map] at this ⊢
    omega
end
end Go.Proofs.YtkadahfknccjfaaGreatDoor
