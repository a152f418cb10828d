/-
  From what an argument reads as to what lies in memory: values.
-/
import Derived.Test.YtcdaipkkddgbeaaQData3
import Derived.Test.YtcdaipkkddgbeaaProg
import Derived.ProofKit
import Derived.OpenShut
import Derived.KernelRfl
namespace Go.Proofs.Ytcdaipkkddgbeaa
open Go.RowKit Go.ChangeShapes Go.WideShapes
section
variable {H : Type} {enc : TypeId × Value → H} {w : World}
/-- The cells read as something of type t, in n steps. -/
def Rd (enc : TypeId × Value → H) (w : World) (n : Nat) (t : TypeId) (cs : List Value) : Prop := ∃ x, DataW.trod enc Try.prog w 0 (fun _ => true) true n t cs = some x
theorem rd_int {n : Nat} {t : TypeId} {cs : List Value} (ht : Try.prog.underlying t = some (.int .i64)) (h : Rd enc w n t cs) : ∃ k, cs = [.int .i64 k] ∧ I64 k := by
  obtain ⟨x, h⟩ := h
  obtain ⟨k, hk, _, hw⟩ := DataW.trod_int ht h
  exact ⟨k, hk, bounds_i64 hw⟩
theorem rd_string {n : Nat} {t : TypeId} {cs : List Value} (ht : Try.prog.underlying t = some .string) (h : Rd enc w n t cs) : ∃ s : ByteArray, cs = [.string s] ∧ s.size ≤ maxLen := by
  obtain ⟨x, h⟩ := h
  obtain ⟨s, hs, _, hw⟩ := DataW.trod_string ht h
  exact ⟨s, hs, hw⟩
theorem rd_bool {n : Nat} {t : TypeId} {cs : List Value} (ht : Try.prog.underlying t = some .bool) (h : Rd enc w n t cs) : ∃ b : Bool, cs = [.bool b] := by
  obtain ⟨x, h⟩ := h
  obtain ⟨b, hb, _⟩ := DataW.trod_bool ht h
  exact ⟨b, hb⟩
theorem rd_struct {n : Nat} {t : TypeId} {cs : List Value} {fs : Array Field} (ht : Try.prog.underlying t = some (.struct fs)) (h : Rd enc w n t cs) :
    ∃ m, n = m + 1 ∧ cs.length = Try.prog.cellsOf t ∧ ∀ (i : Nat) (f : Field), fs[i]? = some f → Rd enc w m f.type ((cs.drop f.offset).take (Try.prog.cellsOf f.type)) := by
  obtain ⟨x, h⟩ := h
  obtain ⟨xs, m, hn, _, hl, hx, hf⟩ := DataW.trod_struct ht h
  refine ⟨m, hn, hl, fun i f hfi => ?_⟩
  have hi : i < xs.length := by rw [hx]; exact (Array.getElem?_eq_some_iff.1 hfi).1
  exact ⟨xs[i], by rw [hf i f hfi, List.getElem?_eq_getElem hi]⟩
theorem rd_slice {n c : Nat} {t e : TypeId} {cs : List Value} (ht : Try.prog.underlying t = some (.slice e)) (hc : Try.prog.cellsOf e = c) (hc0 : 0 < c) (h : Rd enc w n t cs) :
    ∃ (A : Option Addr) (len cap m : Nat), n = m + 1 ∧ cs = [.slice A len cap] ∧ len ≤ cap ∧ cap ≤ maxLen ∧
      ∀ i, i < len → ∃ (ad : Addr) (cs' : List Value), A = some ad ∧ ad.block < w.heap.size ∧ cs'.length = c ∧ (∀ k, k < c → w.cell? ((ad.add (i * c)).add k) = cs'[k]?) ∧ Rd enc w m e cs' := by
  obtain ⟨x, h⟩ := h
  rcases DataW.trod_slice ht h with ⟨rfl, _⟩ | ⟨a, len, cap, elems, rest, m, hn, rfl, _, _, hl, hm, hlen, hel, _⟩
  · cases n with
    | zero => simp [DataW.trod] at h
    | succ m => exact ⟨none, 0, 0, m, rfl, rfl, Nat.le_refl _, Nat.zero_le _, fun i hi => absurd hi (Nat.not_lt_zero _)⟩
  · refine ⟨some a, len, cap, m, hn, rfl, hl, hm, fun i hi => ?_⟩
    have hei := hel i hi
    rw [List.getElem?_eq_getElem (show i < elems.length by omega), hc] at hei
    obtain ⟨cs', h1, h2⟩ := Option.bind_eq_some_iff.1 hei
    obtain ⟨_, hl', hcell⟩ := World.cells?_some h1
    refine ⟨a, cs', rfl, ?_, hl', hcell, _, h2⟩
    have h0 := hcell 0 hc0
    rw [List.getElem?_eq_getElem (show 0 < cs'.length by omega)] at h0
    have := cell_lt h0
    rw [block_add, block_add] at this
    exact this
theorem list_choose {α : Type} {p : Nat → α → Prop} : ∀ {n : Nat}, (∀ i, i < n → ∃ x, p i x) → ∃ l : List α, l.length = n ∧ ∀ i x, l[i]? = some x → p i x
  | 0, _ => ⟨[], rfl, fun i x h => by simp at h⟩
  | n + 1, h => by
    obtain ⟨l, hl, hp⟩ := list_choose (n := n) (fun i hi => h i (by omega))
    obtain ⟨y, hy⟩ := h n (by omega)
    refine ⟨l ++ [y], by simp [hl], fun i x hx => ?_⟩
    by_cases hi : i < l.length
    · rw [List.getElem?_append_left hi] at hx
      exact hp i x hx
    · rw [List.getElem?_append_right (by omega)] at hx
      by_cases e : i - l.length = 0
      · rw [e] at hx
        simp at hx
        subst hx
        obtain rfl : i = n := by omega
        exact hy
      · rw [List.getElem?_eq_none (by simp; omega)] at hx
        cases hx
theorem len3 {α : Type} : ∀ {l : List α}, l.length = 3 → ∃ a b c, l = [a, b, c]
  | [a, b, c], _ => ⟨a, b, c, rfl⟩
theorem len5 {α : Type} : ∀ {l : List α}, l.length = 5 → ∃ a b c d e, l = [a, b, c, d, e]
  | [a, b, c, d, e], _ => ⟨a, b, c, d, e, rfl⟩
theorem len6 {α : Type} : ∀ {l : List α}, l.length = 6 → ∃ a b c d e f, l = [a, b, c, d, e, f]
  | [a, b, c, d, e, f], _ => ⟨a, b, c, d, e, f, rfl⟩
theorem cellsInt : Try.prog.cellsOf 3 = 1 := by kernel_rfl
theorem cellsBool : Try.prog.cellsOf 4 = 1 := by kernel_rfl
theorem cellsString : Try.prog.cellsOf 9 = 1 := by kernel_rfl
theorem cellsValue : Try.prog.cellsOf 33 = 5 := by kernel_rfl
theorem cellsValues : Try.prog.cellsOf 27 = 1 := by kernel_rfl
theorem open_value : ∀ (n : Nat) (cs : List Value), Rd enc w n 33 cs →
    ∃ X : VT, cs = [.int .i64 X.a.k, .int .i64 X.a.n, .int .i64 X.a.sc, .string X.a.s, .slice X.a.A X.l.length X.a.cap] ∧ VT.In w.heap.size w X := by
  intro n
  induction n using Nat.strongRecOn with
  | ind n ih =>
    intro cs h
    obtain ⟨m, rfl, hl, hf⟩ := rd_struct Try.underlying33 h
    rw [cellsValue] at hl
    obtain ⟨c0, c1, c2, c3, c4, rfl⟩ := len5 hl
    have h0 : Rd enc w m 3 (([c0, c1, c2, c3, c4].drop 0).take (Try.prog.cellsOf 3)) := hf 0 _ rfl
    have h1 : Rd enc w m 3 (([c0, c1, c2, c3, c4].drop 1).take (Try.prog.cellsOf 3)) := hf 1 _ rfl
    have h2 : Rd enc w m 3 (([c0, c1, c2, c3, c4].drop 2).take (Try.prog.cellsOf 3)) := hf 2 _ rfl
    have h3 : Rd enc w m 9 (([c0, c1, c2, c3, c4].drop 3).take (Try.prog.cellsOf 9)) := hf 3 _ rfl
    have h4 : Rd enc w m 27 (([c0, c1, c2, c3, c4].drop 4).take (Try.prog.cellsOf 27)) := hf 4 _ rfl
    simp only [cellsInt, cellsString, cellsValues, List.drop_zero, List.drop_succ_cons, List.take_succ_cons, List.take_zero] at h0 h1 h2 h3 h4
    obtain ⟨k, e0, hk⟩ := rd_int Try.underlying3 h0
    obtain ⟨nn, e1, hn⟩ := rd_int Try.underlying3 h1
    obtain ⟨sc, e2, hsc⟩ := rd_int Try.underlying3 h2
    obtain ⟨s, e3, hs⟩ := rd_string Try.underlying9 h3
    obtain ⟨A, len, cap, m2, rfl, e4, hlc, hcm, hel⟩ := rd_slice Try.underlying27 cellsValue (by omega) h4
    simp only [List.cons.injEq, and_true] at e0 e1 e2 e3 e4
    subst e0 e1 e2 e3 e4
    have hx : ∀ i, i < len → ∃ X : VT, (∃ ad : Addr, A = some ad ∧ ad.block < w.heap.size ∧ X.At w (ad.add (i * 5))) ∧ VT.In w.heap.size w X := fun i hi => by
      obtain ⟨ad, cs', hA, hb, hl', hc, hr⟩ := hel i hi
      obtain ⟨X, hX, hin⟩ := ih m2 (by omega) _ hr
      subst hX
      have k0 := hc 0 (by omega)
      have k1 := hc 1 (by omega)
      have k2 := hc 2 (by omega)
      have k3 := hc 3 (by omega)
      have k4 := hc 4 (by omega)
      exact ⟨X, ⟨ad, hA, hb, k0, k1, k2, k3, k4⟩, hin⟩
    obtain ⟨l, hll, hlp⟩ := list_choose hx
    refine ⟨.node ⟨k, nn, sc, s, A, cap⟩ l, by simp [VT.a, VT.l, hll], .mk k nn sc s A cap l hk hn hsc hs ⟨by omega, hcm, fun i x hx => (hlp i x hx).1⟩ fun x hx => ?_⟩
    obtain ⟨i, hi⟩ := List.getElem?_of_mem hx
    exact (hlp i x hi).2
/-- A slice of values. -/
theorem open_values {n : Nat} {cs : List Value} (h : Rd enc w n 27 cs) : ∃ (A : Option Addr) (cap : Nat) (l : List VT), cs = [.slice A l.length cap] ∧ VT.Rows w.heap.size w A cap l := by
  obtain ⟨A, len, cap, m2, rfl, e4, hlc, hcm, hel⟩ := rd_slice Try.underlying27 cellsValue (by omega) h
  have hx : ∀ i, i < len → ∃ X : VT, (∃ ad : Addr, A = some ad ∧ ad.block < w.heap.size ∧ X.At w (ad.add (i * 5))) ∧ VT.In w.heap.size w X := fun i hi => by
    obtain ⟨ad, cs', hA, hb, hl', hc, hr⟩ := hel i hi
    obtain ⟨X, hX, hin⟩ := open_value _ _ hr
    subst hX
    have k0 := hc 0 (by omega)
    have k1 := hc 1 (by omega)
    have k2 := hc 2 (by omega)
    have k3 := hc 3 (by omega)
    have k4 := hc 4 (by omega)
    exact ⟨X, ⟨ad, hA, hb, k0, k1, k2, k3, k4⟩, hin⟩
  obtain ⟨l, hll, hlp⟩ := list_choose hx
  refine ⟨A, cap, l, by rw [e4, hll], ⟨by omega, hcm, fun i x hx => (hlp i x hx).1⟩, fun x hx => ?_⟩
  obtain ⟨i, hi⟩ := List.getElem?_of_mem hx
  exact (hlp i x hi).2
end
end Go.Proofs.Ytcdaipkkddgbeaa
