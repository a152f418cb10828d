/-
  Lists of types, rows of values, tables.
-/
import Derived.Test.YtoeamomklmoncaaBox2
namespace Go.Proofs.Ytoeamomklmoncaa
open Go.RowKit
/-- The three cells of a type lie at q. -/
def FT.TAt (w : World) (q : Addr) (x : FT) : Prop :=
  w.cell? q = some (.int .i64 x.a.k) ∧ w.cell? ⟨q.block, q.off + 1, none⟩ = some (.int .i64 x.a.sc) ∧ w.cell? ⟨q.block, q.off + 2, none⟩ = some (.slice x.a.A x.l.length x.a.cap)
/-- A slice of types. -/
def FT.TRow (B : Nat) (w : World) (A : Option Addr) (cap : Nat) (l : List FT) : Prop :=
  l.length ≤ cap ∧ cap ≤ maxLen ∧ (∀ x, x ∈ l → FT.In B w x) ∧ ∀ (i : Nat) (x : FT), l[i]? = some x → ∃ ad : Addr, A = some ad ∧ ad.block < B ∧ x.TAt w (ad.add (i * 3))
theorem FT.TAt.keep {B : Nat} {w w' : World} {q : Addr} {x : FT} (h : x.TAt w q) (hs : Same B w w') (hq : q.block < B) : x.TAt w' q := by
  obtain ⟨h0, h1, h2⟩ := h
  exact ⟨(hs.cell hq).trans h0, (hs.cell (p := ⟨q.block, q.off + 1, none⟩) hq).trans h1, (hs.cell (p := ⟨q.block, q.off + 2, none⟩) hq).trans h2⟩
theorem FT.TRow.keep {B : Nat} {w w' : World} {A : Option Addr} {cap : Nat} {l : List FT} (h : FT.TRow B w A cap l) (hs : Same B w w') : FT.TRow B w' A cap l := by
  refine ⟨h.1, h.2.1, fun x hx => (h.2.2.1 x hx).keep hs, fun i x hx => ?_⟩
  obtain ⟨ad, e, hb, hat⟩ := h.2.2.2 i x hx
  exact ⟨ad, e, hb, hat.keep hs (by rw [block_add]; exact hb)⟩
theorem FT.TRow.get {B : Nat} {w : World} {A : Option Addr} {cap : Nat} {l : List FT} (h : FT.TRow B w A cap l) {i : Nat} (hi : i < l.length) :
    ∃ (x : FT) (ad : Addr), l[i]? = some x ∧ A = some ad ∧ ad.block < B ∧ x.TAt w (ad.add (i * 3)) := by
  obtain ⟨ad, e, hb, hat⟩ := h.2.2.2 i l[i] (List.getElem?_eq_getElem hi)
  exact ⟨l[i], ad, List.getElem?_eq_getElem hi, e, hb, hat⟩
/-- A slice of rows: of a row only its slice is looked at. -/
def VT.RRow (B : Nat) (w : World) (A : Option Addr) (cap : Nat) (l : List VT) : Prop :=
  l.length ≤ cap ∧ cap ≤ maxLen ∧ (∀ x, x ∈ l → VT.Rows B w x.a.A x.a.cap x.l) ∧ ∀ (i : Nat) (x : VT), l[i]? = some x → ∃ ad : Addr, A = some ad ∧ ad.block < B ∧ w.cell? (ad.add i) = some (.slice x.a.A x.l.length x.a.cap)
theorem VT.RRow.keep {B : Nat} {w w' : World} {A : Option Addr} {cap : Nat} {l : List VT} (h : VT.RRow B w A cap l) (hs : Same B w w') : VT.RRow B w' A cap l := by
  refine ⟨h.1, h.2.1, fun x hx => (h.2.2.1 x hx).keep hs, fun i x hx => ?_⟩
  obtain ⟨ad, e, hb, hat⟩ := h.2.2.2 i x hx
  exact ⟨ad, e, hb, (hs.cell (by rw [block_add]; exact hb)).trans hat⟩
theorem VT.RRow.get {B : Nat} {w : World} {A : Option Addr} {cap : Nat} {l : List VT} (h : VT.RRow B w A cap l) {i : Nat} (hi : i < l.length) :
    ∃ (x : VT) (ad : Addr), l[i]? = some x ∧ A = some ad ∧ ad.block < B ∧ w.cell? (ad.add i) = some (.slice x.a.A x.l.length x.a.cap) := by
  obtain ⟨ad, e, hb, hat⟩ := h.2.2.2 i l[i] (List.getElem?_eq_getElem hi)
  exact ⟨l[i], ad, List.getElem?_eq_getElem hi, e, hb, hat⟩
/-- A table. -/
structure ST where
  nm : ByteArray
  TA : Option Addr
  tcap : Nat
  ts : List FT
  RA : Option Addr
  rcap : Nat
  rs : List VT
structure ST.In (B : Nat) (w : World) (s : ST) : Prop where
  nm : s.nm.size ≤ maxLen
  ts : FT.TRow B w s.TA s.tcap s.ts
  rs : VT.RRow B w s.RA s.rcap s.rs
def ST.At (w : World) (q : Addr) (x : ST) : Prop :=
  w.cell? q = some (.string x.nm) ∧ w.cell? ⟨q.block, q.off + 1, none⟩ = some (.slice x.TA x.ts.length x.tcap) ∧ w.cell? ⟨q.block, q.off + 2, none⟩ = some (.slice x.RA x.rs.length x.rcap)
def ST.Row (B : Nat) (w : World) (A : Option Addr) (cap : Nat) (l : List ST) : Prop :=
  l.length ≤ cap ∧ cap ≤ maxLen ∧ ∀ (i : Nat) (x : ST), l[i]? = some x → ∃ ad : Addr, A = some ad ∧ ad.block < B ∧ x.At w (ad.add (i * 3))
theorem ST.In.keep {B : Nat} {w w' : World} {s : ST} (h : ST.In B w s) (hs : Same B w w') : ST.In B w' s := ⟨h.nm, h.ts.keep hs, h.rs.keep hs⟩
theorem ST.At.keep {B : Nat} {w w' : World} {q : Addr} {x : ST} (h : x.At w q) (hs : Same B w w') (hq : q.block < B) : x.At w' q := by
  obtain ⟨h0, h1, h2⟩ := h
  exact ⟨(hs.cell hq).trans h0, (hs.cell (p := ⟨q.block, q.off + 1, none⟩) hq).trans h1, (hs.cell (p := ⟨q.block, q.off + 2, none⟩) hq).trans h2⟩
theorem ST.Row.keep {B : Nat} {w w' : World} {A : Option Addr} {cap : Nat} {l : List ST} (h : ST.Row B w A cap l) (hs : Same B w w') : ST.Row B w' A cap l := by
  refine ⟨h.1, h.2.1, fun i x hx => ?_⟩
  obtain ⟨ad, e, hb, hat⟩ := h.2.2 i x hx
  exact ⟨ad, e, hb, hat.keep hs (by rw [block_add]; exact hb)⟩
theorem ST.Row.get {B : Nat} {w : World} {A : Option Addr} {cap : Nat} {l : List ST} (h : ST.Row B w A cap l) {i : Nat} (hi : i < l.length) :
    ∃ (x : ST) (ad : Addr), l[i]? = some x ∧ A = some ad ∧ ad.block < B ∧ x.At w (ad.add (i * 3)) := by
  obtain ⟨ad, e, hb, hat⟩ := h.2.2 i l[i] (List.getElem?_eq_getElem hi)
  exact ⟨l[i], ad, List.getElem?_eq_getElem hi, e, hb, hat⟩
end Go.Proofs.Ytoeamomklmoncaa
