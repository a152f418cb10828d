/-
  From what an argument reads as to what lies in memory: tables.
-/
import Derived.Test.YtcpbbagppkcilaaDoorOpen
namespace Go.Proofs.YtcpbbagppkcilaaDoor
open Go.RowKit Go.ChangeShapes Go.WideShapes
section
variable {H : Type} {enc : TypeId × Value → H} {w : World}
theorem cellsTypes : Tryd.prog.cellsOf 41 = 1 := by kernel_rfl
theorem cellsRows : Tryd.prog.cellsOf 42 = 1 := by kernel_rfl
theorem cellsSource : Tryd.prog.cellsOf 44 = 3 := by kernel_rfl
/-- A slice of types. -/
theorem open_types {n : Nat} {cs : List Value} (h : Rd enc w n 41 cs) : ∃ (A : Option Addr) (cap : Nat) (l : List FT), cs = [.slice A l.length cap] ∧ FT.TRow w.heap.size w A cap l := by
  obtain ⟨A, len, cap, m2, rfl, e4, hlc, hcm, hel⟩ := rd_slice Tryd.underlying41 cellsType (by omega) h
  have hx : ∀ i, i < len → ∃ X : FT, (∃ ad : Addr, A = some ad ∧ ad.block < w.heap.size ∧ X.TAt w (ad.add (i * 3))) ∧ FT.In w.heap.size w X := fun i hi => by
    obtain ⟨ad, cs', hA, hb, hl', hc, hr⟩ := hel i hi
    obtain ⟨k, sc, A', cap', l', hX, hin⟩ := open_type _ _ hr 0 ByteArray.empty false ⟨by omega, by omega⟩ (Nat.zero_le _)
    subst hX
    have k0 := hc 0 (by omega)
    have k1 := hc 1 (by omega)
    have k2 := hc 2 (by omega)
    exact ⟨.node ⟨0, ByteArray.empty, false, k, sc, A', cap'⟩ l', ⟨ad, hA, hb, k0, k1, k2⟩, hin⟩
  obtain ⟨l, hll, hlp⟩ := list_choose hx
  refine ⟨A, cap, l, by rw [e4, hll], by omega, hcm, fun x hx => ?_, fun i x hx => (hlp i x hx).1⟩
  obtain ⟨i, hi⟩ := List.getElem?_of_mem hx
  exact (hlp i x hi).2
/-- A slice of rows. -/
theorem open_rows {n : Nat} {cs : List Value} (h : Rd enc w n 42 cs) : ∃ (A : Option Addr) (cap : Nat) (l : List VT), cs = [.slice A l.length cap] ∧ VT.RRow w.heap.size w A cap l := by
  obtain ⟨A, len, cap, m2, rfl, e4, hlc, hcm, hel⟩ := rd_slice Tryd.underlying42 cellsValues (by omega) h
  have hx : ∀ i, i < len → ∃ X : VT, (∃ ad : Addr, A = some ad ∧ ad.block < w.heap.size ∧ w.cell? (ad.add i) = some (.slice X.a.A X.l.length X.a.cap)) ∧ VT.Rows w.heap.size w X.a.A X.a.cap X.l := fun i hi => by
    obtain ⟨ad, cs', hA, hb, hl', hc, hr⟩ := hel i hi
    obtain ⟨A', cap', l', hX, hin⟩ := open_values hr
    subst hX
    have k0 := hc 0 (by omega)
    rw [Nat.mul_one] at k0
    exact ⟨.node ⟨0, 0, 0, ByteArray.empty, A', cap'⟩ l', ⟨ad, hA, hb, k0⟩, hin⟩
  obtain ⟨l, hll, hlp⟩ := list_choose hx
  refine ⟨A, cap, l, by rw [e4, hll], by omega, hcm, fun x hx => ?_, fun i x hx => (hlp i x hx).1⟩
  obtain ⟨i, hi⟩ := List.getElem?_of_mem hx
  exact (hlp i x hi).2
theorem open_source {n : Nat} {cs : List Value} (h : Rd enc w n 44 cs) : ∃ X : ST, cs = [.string X.nm, .slice X.TA X.ts.length X.tcap, .slice X.RA X.rs.length X.rcap] ∧ ST.In w.heap.size w X := by
  obtain ⟨m, rfl, hl, hf⟩ := rd_struct Tryd.underlying44 h
  rw [cellsSource] at hl
  obtain ⟨c0, c1, c2, rfl⟩ := len3 hl
  have h0 : Rd enc w m 9 (([c0, c1, c2].drop 0).take (Tryd.prog.cellsOf 9)) := hf 0 _ rfl
  have h1 : Rd enc w m 41 (([c0, c1, c2].drop 1).take (Tryd.prog.cellsOf 41)) := hf 1 _ rfl
  have h2 : Rd enc w m 42 (([c0, c1, c2].drop 2).take (Tryd.prog.cellsOf 42)) := hf 2 _ rfl
  simp only [cellsString, cellsTypes, cellsRows, List.drop_zero, List.drop_succ_cons, List.take_succ_cons, List.take_zero] at h0 h1 h2
  obtain ⟨nm, e0, hnm⟩ := rd_string Tryd.underlying9 h0
  obtain ⟨TA, tcap, ts, e1, hts⟩ := open_types h1
  obtain ⟨RA, rcap, rs, e2, hrs⟩ := open_rows h2
  simp only [List.cons.injEq, and_true] at e0 e1 e2
  subst e0 e1 e2
  exact ⟨⟨nm, TA, tcap, ts, RA, rcap, rs⟩, rfl, hnm, hts, hrs⟩
/-- A slice of tables. -/
theorem open_sources {n : Nat} {cs : List Value} (h : Rd enc w n 40 cs) : ∃ (A : Option Addr) (cap : Nat) (l : List ST), cs = [.slice A l.length cap] ∧ ST.Row w.heap.size w A cap l ∧ ∀ x, x ∈ l → ST.In w.heap.size w x := by
  obtain ⟨A, len, cap, m2, rfl, e4, hlc, hcm, hel⟩ := rd_slice Tryd.underlying40 cellsSource (by omega) h
  have hx : ∀ i, i < len → ∃ X : ST, (∃ ad : Addr, A = some ad ∧ ad.block < w.heap.size ∧ X.At w (ad.add (i * 3))) ∧ ST.In w.heap.size w X := fun i hi => by
    obtain ⟨ad, cs', hA, hb, hl', hc, hr⟩ := hel i hi
    obtain ⟨X, hX, hin⟩ := open_source hr
    subst hX
    have k0 := hc 0 (by omega)
    have k1 := hc 1 (by omega)
    have k2 := hc 2 (by omega)
    exact ⟨X, ⟨ad, hA, hb, k0, k1, k2⟩, hin⟩
  obtain ⟨l, hll, hlp⟩ := list_choose hx
  refine ⟨A, cap, l, by rw [e4, hll], ⟨by omega, hcm, fun i x hx => (hlp i x hx).1⟩, fun x hx => ?_⟩
  obtain ⟨i, hi⟩ := List.getElem?_of_mem hx
  exact (hlp i x hi).2
end
end Go.Proofs.YtcpbbagppkcilaaDoor
