/-
  Plain data: a Go value (api.Value) and a Go type (api.Type, with its api.Field) as trees, and what it means that they lie in memory.
  Small facts on cells of new blocks.
  What lies in memory, taken apart.
  Plain data: expressions and relations as trees, and what it means that they lie in memory.
  Plain data: whole expressions and relations as trees (their types, values, rows and sets too), and what it means that they lie in memory.
  Lists of types, rows of values, tables.
  An append to a row that the call owns: the row stays in its block, or lies in a new one. Types and values in memory of which it is known in which blocks they lie.
  An append of any row to a row that the call owns.
  Rows of structs that grow: an append of a whole row; rows that a call owns, as lists of trees.
  Operations on structs of which only the list of cells is known: a load, the store into a new variable, a slice of one struct.
  Structs loaded at a step of a drawing region, as lists of cells. The reference's sameValue.
-/
import Derived.WalkKit
import Derived.Laws.Rows
import Derived.Laws.AppendOwn
import Derived.ArgAppend
import Derived.Below
import Derived.Deep.WholeRow
import Derived.Deep.MidRow
import Derived.Test.YthijagpnpcpcbaaGreatProg
import Derived.Lib.Hide
import Derived.Lib.QuietBelow
import Derived.Deep.QuietTactic
import Derived.BigQuiet
import Derived.Deep.DeepCutAuto
namespace Go.Proofs.YthijagpnpcpcbaaGreat
open Go.RowKit

def I64 (n : Int) : Prop := -9223372036854775808 ≤ n ∧ n ≤ 9223372036854775807

theorem block_add (a : Addr) (n : Nat) : (a.add n).block = a.block := by unfold Addr.add; split <;> rfl

/-- The blocks below B are in w' as they were in w. -/
def Same (B : Nat) (w w' : World) : Prop := ∀ k, k < B → w'.heap[k]? = w.heap[k]?
theorem Same.refl (B : Nat) (w : World) : Same B w w := fun _ _ => rfl
theorem Same.trans {B : Nat} {a b c : World} (h : Same B a b) (h' : Same B b c) : Same B a c := fun k hk => (h' k hk).trans (h k hk)
theorem Same.mono {B B' : Nat} {a b : World} (h : Same B a b) (hB : B' ≤ B) : Same B' a b := fun k hk => h k (by omega)
theorem Same.cell {B : Nat} {w w' : World} (h : Same B w w') {p : Addr} (hp : p.block < B) : w'.cell? p = w.cell? p := World.cell?_of_block (w := w) (h p.block hp)
theorem Same.of_below {B : Nat} {w w' : World} (h : Below B w w') : Same B w w' := fun k hk => h.block k hk
theorem Same.alloc {B : Nat} {a w : World} (h : Same B a w) (hB : B ≤ w.heap.size) (o : Obj) : Same B a (w.alloc o) :=
  h.trans fun k hk => Below.heap_alloc _ _ _ (by omega)
theorem Same.setCell {B : Nat} {a w : World} (h : Same B a w) {p : Addr} (hp : B ≤ p.block) (u : Value) : Same B a (w.setCell p u) :=
  h.trans fun k hk => Below.heap_setCell _ _ _ _ (by omega)

/-- w' is w with new blocks and with writes to block g alone. -/
structure Ch (g : Nat) (w w' : World) : Prop where
  os : w'.os = w.os
  tape : w'.tape = w.tape
  output : w'.output = w.output
  size : w.heap.size ≤ w'.heap.size
  block : ∀ k, k < w.heap.size → k ≠ g → w'.heap[k]? = w.heap[k]?
theorem Ch.refl (g : Nat) (w : World) : Ch g w w := ⟨rfl, rfl, rfl, Nat.le_refl _, fun _ _ _ => rfl⟩
theorem Ch.trans {g : Nat} {a b c : World} (h : Ch g a b) (h' : Ch g b c) : Ch g a c :=
  ⟨h'.os.trans h.os, h'.tape.trans h.tape, h'.output.trans h.output, Nat.le_trans h.size h'.size,
    fun k hk hg => (h'.block k (Nat.lt_of_lt_of_le hk h.size) hg).trans (h.block k hk hg)⟩
theorem Ch.of_below {g : Nat} {w w' : World} (h : Below w.heap.size w w') : Ch g w w' := ⟨h.os, h.tape, h.output, h.size, fun k hk _ => h.block k hk⟩
theorem Ch.alloc {g : Nat} {a w : World} (h : Ch g a w) (o : Obj) : Ch g a (w.alloc o) :=
  h.trans ⟨rfl, rfl, rfl, by simp, fun k hk _ => Below.heap_alloc _ _ _ hk⟩
theorem Ch.setCell {g : Nat} {a w : World} (h : Ch g a w) (o : Nat) (u : Value) : Ch g a (w.setCell ⟨g, o, none⟩ u) :=
  h.trans ⟨rfl, rfl, rfl, by simp [World.setCell], fun k _ hg => Below.heap_setCell _ _ _ _ hg⟩
theorem Ch.drew {g : Nat} {a w : World} (h : Ch g a w) : Ch g a w.drew := ⟨h.os, h.tape, h.output, h.size, h.block⟩
theorem Ch.same {g B : Nat} {w w' : World} (h : Ch g w w') (hB : B ≤ w.heap.size) (hg : B ≤ g) : Same B w w' := fun k hk => h.block k (by omega) (by omega)
/-- What was written lies above all that was there. -/
theorem Ch.below {g : Nat} {w w' : World} (h : Ch g w w') (hg : w.heap.size ≤ g) : Below w.heap.size w w' := ⟨h.os, h.tape, h.output, h.size, fun k hk => h.block k hk (by omega)⟩
theorem Ch.cell {g : Nat} {w w' : World} (h : Ch g w w') {p : Addr} (hp : p.block < w.heap.size) (hg : p.block ≠ g) : w'.cell? p = w.cell? p := World.cell?_of_block (w := w) (h.block p.block hp hg)
/-- One number in a block of its own. -/
def One (w : World) (g : Nat) (c : Int) : Prop := ∃ t, w.heap[g]? = some (.cells #[.int .i64 c] t (0, 0))
theorem One.cell {w : World} {g : Nat} {c : Int} (h : One w g c) : w.cell? ⟨g, 0, none⟩ = some (.int .i64 c) := by
  obtain ⟨t, h⟩ := h
  simp [World.cell?, h]
theorem One.lt {w : World} {g : Nat} {c : Int} (h : One w g c) : g < w.heap.size := by
  obtain ⟨t, h⟩ := h
  rcases Nat.lt_or_ge g w.heap.size with hlt | hge
  · exact hlt
  · rw [Array.getElem?_eq_none hge] at h; cases h
theorem One.new (w : World) (t : TypeId) (c : Int) : One (w.alloc (.cells #[.int .i64 c] t)) w.heap.size c := ⟨t, heap_alloc_new w _⟩
theorem One.alloc {w : World} {g : Nat} {c : Int} (h : One w g c) (o : Obj) : One (w.alloc o) g c := by
  have hl := h.lt
  obtain ⟨t, h⟩ := h
  exact ⟨t, (Below.heap_alloc w o g hl).trans h⟩
theorem One.keep {w w' : World} {g : Nat} {c : Int} (h : One w g c) (he : w'.heap[g]? = w.heap[g]?) : One w' g c := by
  obtain ⟨t, h⟩ := h
  exact ⟨t, he.trans h⟩
theorem One.below {w w' : World} {g : Nat} {c : Int} (h : One w g c) (hb : Below w.heap.size w w') : One w' g c := h.keep (hb.block g h.lt)
theorem One.set {w : World} {g : Nat} {c : Int} (h : One w g c) (d : Int) : One (w.setCell ⟨g, 0, none⟩ (.int .i64 d)) g d := by
  obtain ⟨t, h⟩ := h
  refine ⟨t, ?_⟩
  simp [World.setCell, Array.getElem?_modify, h]

/-! ## Values -/
structure VP where
  k : Int
  n : Int
  sc : Int
  s : ByteArray
  A : Option Addr
  cap : Nat

inductive VT where
  | node (a : VP) (l : List VT)

def VT.a : VT → VP
  | .node a _ => a
def VT.l : VT → List VT
  | .node _ l => l

theorem VT.a_node (a : VP) (l : List VT) : (VT.node a l).a = a := rfl
theorem VT.l_node (a : VP) (l : List VT) : (VT.node a l).l = l := rfl

theorem VT.ind {P : VT → Prop} (h : ∀ a l, (∀ x, x ∈ l → P x) → P (.node a l)) : ∀ v, P v
  | .node a l => h a l fun x hx => by
      have : SizeOf.sizeOf x < SizeOf.sizeOf (VT.node a l) := by
        have := List.sizeOf_lt_of_mem hx
        simp only [VT.node.sizeOf_spec]
        omega
      exact VT.ind h x
termination_by v => SizeOf.sizeOf v

/-- The five cells of a value lie at q. -/
def VT.At (w : World) (q : Addr) (x : VT) : Prop :=
  w.cell? q = some (.int .i64 x.a.k) ∧ w.cell? ⟨q.block, q.off + 1, none⟩ = some (.int .i64 x.a.n) ∧ w.cell? ⟨q.block, q.off + 2, none⟩ = some (.int .i64 x.a.sc) ∧
  w.cell? ⟨q.block, q.off + 3, none⟩ = some (.string x.a.s) ∧ w.cell? ⟨q.block, q.off + 4, none⟩ = some (.slice x.a.A x.l.length x.a.cap)
def VT.Row (B : Nat) (w : World) (A : Option Addr) (cap : Nat) (l : List VT) : Prop :=
  l.length ≤ cap ∧ cap ≤ maxLen ∧ ∀ (i : Nat) (x : VT), l[i]? = some x → ∃ ad : Addr, A = some ad ∧ ad.block < B ∧ x.At w (ad.add (i * 5))
inductive VT.In (B : Nat) (w : World) : VT → Prop
  | mk (k n sc : Int) (s : ByteArray) (A : Option Addr) (cap : Nat) (l : List VT) (hk : I64 k) (hn : I64 n) (hsc : I64 sc) (hs : s.size ≤ maxLen)
      (hr : VT.Row B w A cap l) (hl : ∀ x, x ∈ l → VT.In B w x) : VT.In B w (.node ⟨k, n, sc, s, A, cap⟩ l)
/-- A slice of values. -/
def VT.Rows (B : Nat) (w : World) (A : Option Addr) (cap : Nat) (l : List VT) : Prop := VT.Row B w A cap l ∧ ∀ x, x ∈ l → VT.In B w x

theorem VT.At.keep {B : Nat} {w w' : World} {q : Addr} {x : VT} (h : x.At w q) (hs : Same B w w') (hq : q.block < B) : x.At w' q := by
  obtain ⟨h0, h1, h2, h3, h4⟩ := h
  exact ⟨(hs.cell hq).trans h0, (hs.cell (p := ⟨q.block, q.off + 1, none⟩) hq).trans h1, (hs.cell (p := ⟨q.block, q.off + 2, none⟩) hq).trans h2,
    (hs.cell (p := ⟨q.block, q.off + 3, none⟩) hq).trans h3, (hs.cell (p := ⟨q.block, q.off + 4, none⟩) hq).trans h4⟩
theorem VT.Row.keep {B : Nat} {w w' : World} {A : Option Addr} {cap : Nat} {l : List VT} (h : VT.Row B w A cap l) (hs : Same B w w') : VT.Row B w' A cap l := by
  refine ⟨h.1, h.2.1, fun i x hx => ?_⟩
  obtain ⟨ad, e, hb, hat⟩ := h.2.2 i x hx
  exact ⟨ad, e, hb, hat.keep hs (by rw [block_add]; exact hb)⟩
theorem VT.In.keep {B : Nat} {w w' : World} {v : VT} (h : VT.In B w v) (hs : Same B w w') : VT.In B w' v := by
  induction h with
  | mk k n sc s A cap l hk hn hsc hs' hr hl ih => exact .mk k n sc s A cap l hk hn hsc hs' (hr.keep hs) ih
theorem VT.Rows.keep {B : Nat} {w w' : World} {A : Option Addr} {cap : Nat} {l : List VT} (h : VT.Rows B w A cap l) (hs : Same B w w') : VT.Rows B w' A cap l :=
  ⟨h.1.keep hs, fun x hx => (h.2 x hx).keep hs⟩
theorem VT.Row.more {B B' : Nat} {w : World} {A : Option Addr} {cap : Nat} {l : List VT} (h : VT.Row B w A cap l) (hB : B ≤ B') : VT.Row B' w A cap l := by
  refine ⟨h.1, h.2.1, fun i x hx => ?_⟩
  obtain ⟨ad, e, hb, hat⟩ := h.2.2 i x hx
  exact ⟨ad, e, by omega, hat⟩
theorem VT.In.more {B B' : Nat} {w : World} {v : VT} (h : VT.In B w v) (hB : B ≤ B') : VT.In B' w v := by
  induction h with
  | mk k n sc s A cap l hk hn hsc hs' hr hl ih => exact .mk k n sc s A cap l hk hn hsc hs' (hr.more hB) ih

theorem VT.Row.get {B : Nat} {w : World} {A : Option Addr} {cap : Nat} {l : List VT} (h : VT.Row B w A cap l) {i : Nat} (hi : i < l.length) :
    ∃ (x : VT) (ad : Addr), l[i]? = some x ∧ A = some ad ∧ ad.block < B ∧ x.At w (ad.add (i * 5)) := by
  obtain ⟨ad, e, hb, hat⟩ := h.2.2 i l[i] (List.getElem?_eq_getElem hi)
  exact ⟨l[i], ad, List.getElem?_eq_getElem hi, e, hb, hat⟩
theorem mem_of_get? {α : Type} {l : List α} {i : Nat} {x : α} (h : l[i]? = some x) : x ∈ l := List.mem_of_getElem? h
theorem drop_of_get? {α : Type} {l : List α} {i : Nat} {x : α} (h : l[i]? = some x) : l.drop i = x :: l.drop (i + 1) := by
  obtain ⟨hi, rfl⟩ := List.getElem?_eq_some_iff.1 h
  exact List.drop_eq_getElem_cons hi

/-! ## Types -/
structure FP where
  id : Int
  nm : ByteArray
  nd : Bool
  k : Int
  sc : Int
  A : Option Addr
  cap : Nat

/-- A field with its type. A type alone is a field of which only the type is looked at. -/
inductive FT where
  | node (a : FP) (l : List FT)
def FT.a : FT → FP
  | .node a _ => a
def FT.l : FT → List FT
  | .node _ l => l

theorem FT.a_node (a : FP) (l : List FT) : (FT.node a l).a = a := rfl
theorem FT.l_node (a : FP) (l : List FT) : (FT.node a l).l = l := rfl

theorem FT.ind {P : FT → Prop} (h : ∀ a l, (∀ x, x ∈ l → P x) → P (.node a l)) : ∀ v, P v
  | .node a l => h a l fun x hx => by
      have : SizeOf.sizeOf x < SizeOf.sizeOf (FT.node a l) := by
        have := List.sizeOf_lt_of_mem hx
        simp only [FT.node.sizeOf_spec]
        omega
      exact FT.ind h x
termination_by v => SizeOf.sizeOf v

def FT.At (w : World) (q : Addr) (x : FT) : Prop :=
  w.cell? q = some (.int .i64 x.a.id) ∧ w.cell? ⟨q.block, q.off + 1, none⟩ = some (.string x.a.nm) ∧ w.cell? ⟨q.block, q.off + 2, none⟩ = some (.bool x.a.nd) ∧
  w.cell? ⟨q.block, q.off + 3, none⟩ = some (.int .i64 x.a.k) ∧ w.cell? ⟨q.block, q.off + 4, none⟩ = some (.int .i64 x.a.sc) ∧ w.cell? ⟨q.block, q.off + 5, none⟩ = some (.slice x.a.A x.l.length x.a.cap)
def FT.Row (B : Nat) (w : World) (A : Option Addr) (cap : Nat) (l : List FT) : Prop :=
  l.length ≤ cap ∧ cap ≤ maxLen ∧ ∀ (i : Nat) (x : FT), l[i]? = some x → ∃ ad : Addr, A = some ad ∧ ad.block < B ∧ x.At w (ad.add (i * 6))
inductive FT.In (B : Nat) (w : World) : FT → Prop
  | mk (id : Int) (nm : ByteArray) (nd : Bool) (k sc : Int) (A : Option Addr) (cap : Nat) (l : List FT) (hid : I64 id) (hnm : nm.size ≤ maxLen) (hk : I64 k) (hsc : I64 sc)
      (hr : FT.Row B w A cap l) (hl : ∀ x, x ∈ l → FT.In B w x) : FT.In B w (.node ⟨id, nm, nd, k, sc, A, cap⟩ l)
theorem FT.At.keep {B : Nat} {w w' : World} {q : Addr} {x : FT} (h : x.At w q) (hs : Same B w w') (hq : q.block < B) : x.At w' q := by
  obtain ⟨h0, h1, h2, h3, h4, h5⟩ := h
  exact ⟨(hs.cell hq).trans h0, (hs.cell (p := ⟨q.block, q.off + 1, none⟩) hq).trans h1, (hs.cell (p := ⟨q.block, q.off + 2, none⟩) hq).trans h2,
    (hs.cell (p := ⟨q.block, q.off + 3, none⟩) hq).trans h3, (hs.cell (p := ⟨q.block, q.off + 4, none⟩) hq).trans h4, (hs.cell (p := ⟨q.block, q.off + 5, none⟩) hq).trans h5⟩
theorem FT.Row.keep {B : Nat} {w w' : World} {A : Option Addr} {cap : Nat} {l : List FT} (h : FT.Row B w A cap l) (hs : Same B w w') : FT.Row B w' A cap l := by
  refine ⟨h.1, h.2.1, fun i x hx => ?_⟩
  obtain ⟨ad, e, hb, hat⟩ := h.2.2 i x hx
  exact ⟨ad, e, hb, hat.keep hs (by rw [block_add]; exact hb)⟩
theorem FT.In.keep {B : Nat} {w w' : World} {v : FT} (h : FT.In B w v) (hs : Same B w w') : FT.In B w' v := by
  induction h with
  | mk id nm nd k sc A cap l hid hnm hk hsc hr hl ih => exact .mk id nm nd k sc A cap l hid hnm hk hsc (hr.keep hs) ih
theorem FT.Row.more {B B' : Nat} {w : World} {A : Option Addr} {cap : Nat} {l : List FT} (h : FT.Row B w A cap l) (hB : B ≤ B') : FT.Row B' w A cap l := by
  refine ⟨h.1, h.2.1, fun i x hx => ?_⟩
  obtain ⟨ad, e, hb, hat⟩ := h.2.2 i x hx
  exact ⟨ad, e, by omega, hat⟩
theorem FT.In.more {B B' : Nat} {w : World} {v : FT} (h : FT.In B w v) (hB : B ≤ B') : FT.In B' w v := by
  induction h with
  | mk id nm nd k sc A cap l hid hnm hk hsc hr hl ih => exact .mk id nm nd k sc A cap l hid hnm hk hsc (hr.more hB) ih
theorem FT.Row.get {B : Nat} {w : World} {A : Option Addr} {cap : Nat} {l : List FT} (h : FT.Row B w A cap l) {i : Nat} (hi : i < l.length) :
    ∃ (x : FT) (ad : Addr), l[i]? = some x ∧ A = some ad ∧ ad.block < B ∧ x.At w (ad.add (i * 6)) := by
  obtain ⟨ad, e, hb, hat⟩ := h.2.2 i l[i] (List.getElem?_eq_getElem hi)
  exact ⟨l[i], ad, List.getElem?_eq_getElem hi, e, hb, hat⟩
end Go.Proofs.YthijagpnpcpcbaaGreat
namespace Go.Proofs.YthijagpnpcpcbaaGreat
open Go.RowKit
theorem cell_new (w : World) (cs : Array Value) (t : TypeId) (i : Nat) : (w.alloc (.cells cs t)).cell? ⟨w.heap.size, i, none⟩ = cs[i]? := by
  have h : (w.alloc (.cells cs t)).heap[w.heap.size]? = some (.cells cs t (0, 0)) := heap_alloc_new w _
  exact cell_of_row _ _ _ _ _ _ h
end Go.Proofs.YthijagpnpcpcbaaGreat
namespace Go.Proofs.YthijagpnpcpcbaaGreat
open Go.RowKit
theorem VT.In.parts {B : Nat} {w : World} {a : VP} {l : List VT} (h : VT.In B w (.node a l)) : I64 a.k ∧ I64 a.n ∧ I64 a.sc ∧ a.s.size ≤ maxLen ∧ VT.Row B w a.A a.cap l ∧ ∀ x, x ∈ l → VT.In B w x := by
  cases h
  exact ⟨by assumption, by assumption, by assumption, by assumption, by assumption, by assumption⟩
theorem FT.In.parts {B : Nat} {w : World} {a : FP} {l : List FT} (h : FT.In B w (.node a l)) : I64 a.id ∧ a.nm.size ≤ maxLen ∧ I64 a.k ∧ I64 a.sc ∧ FT.Row B w a.A a.cap l ∧ ∀ x, x ∈ l → FT.In B w x := by
  cases h
  exact ⟨by assumption, by assumption, by assumption, by assumption, by assumption, by assumption⟩
theorem bel1 (w : World) (o : Obj) : Below w.heap.size w (w.alloc o) := (Below.refl _ _).alloc (Nat.le_refl _) _
theorem bel2 (w : World) (o o2 : Obj) : Below w.heap.size w ((w.alloc o).alloc o2) := (bel1 w o).alloc (by simp) _
theorem bel3 (w : World) (o o2 o3 : Obj) : Below w.heap.size w (((w.alloc o).alloc o2).alloc o3) := (bel2 w o o2).alloc (by simp; omega) _
theorem cell_lt {w : World} {p : Addr} {v : Value} (h : w.cell? p = some v) : p.block < w.heap.size := by
  rcases Nat.lt_or_ge p.block w.heap.size with h' | h'
  · exact h'
  · simp [World.cell?, Array.getElem?_eq_none h'] at h
theorem cell_old {w : World} {p : Addr} {v : Value} (h : w.cell? p = some v) (o : Obj) : (w.alloc o).cell? p = some v := (World.cell?_alloc_lt w o p (cell_lt h)).trans h
end Go.Proofs.YthijagpnpcpcbaaGreat
namespace Go.Proofs.YthijagpnpcpcbaaGreat
open Go.RowKit
/-- A struct with slices of structs in it: its cells, and what its slices hold. -/
inductive DT where
  | node (c : List Value) (k : List (List DT))
def DT.c : DT → List Value
  | .node c _ => c
def DT.k : DT → List (List DT)
  | .node _ k => k
theorem DT.ind {P : DT → Prop} (h : ∀ c k, (∀ l, l ∈ k → ∀ x, x ∈ l → P x) → P (.node c k)) : ∀ d, P d
  | .node c k => h c k fun l hl x hx => by
      have : SizeOf.sizeOf x < SizeOf.sizeOf (DT.node c k) := by
        have h1 := List.sizeOf_lt_of_mem hx
        have h2 := List.sizeOf_lt_of_mem hl
        simp only [DT.node.sizeOf_spec]
        omega
      exact DT.ind h x
termination_by d => SizeOf.sizeOf d
decreasing_by assumption
/-- How many structs there are in it. -/
def DT.n : DT → Nat
  | .node c k => 1 + (k.attach.map fun l => (l.1.attach.map fun x => DT.n x.1).sum).sum
termination_by d => SizeOf.sizeOf d
decreasing_by
  have h1 := List.sizeOf_lt_of_mem x.2
  have h2 := List.sizeOf_lt_of_mem l.2
  simp only [DT.node.sizeOf_spec]
  omega
/-- How many there are in a list. -/
def nL (l : List DT) : Nat := (l.map DT.n).sum
theorem DT.n_node (c : List Value) (k : List (List DT)) : (DT.node c k).n = 1 + (k.map nL).sum := by
  rw [DT.n]
  congr 2
  have : ∀ l : List DT, (l.attach.map fun x => DT.n x.1).sum = nL l := fun l => by unfold nL; rw [List.attach_map_val (f := DT.n)]
  simp only [this]
  rw [List.attach_map_val (f := nL)]
theorem nL_cons (x : DT) (l : List DT) : nL (x :: l) = x.n + nL l := by simp [nL]
theorem nL_append (l m : List DT) : nL (l ++ m) = nL l + nL m := by simp [nL]
theorem DT.n_pos (d : DT) : 1 ≤ d.n := by
  obtain ⟨c, k⟩ := d
  rw [DT.n_node]
  omega
theorem len_nL (l : List DT) : l.length ≤ nL l := by
  induction l with
  | nil => exact Nat.le_refl _
  | cons x l ih => rw [nL_cons, List.length_cons]; have := x.n_pos; omega
theorem n_mem {x : DT} {l : List DT} (h : x ∈ l) : x.n ≤ nL l := by
  induction l with
  | nil => cases h
  | cons y l ih =>
    rw [nL_cons]
    rcases List.mem_cons.1 h with rfl | h
    · omega
    · have := ih h; omega
/-- The kinds of structs. -/
inductive Ty where
  | expr
  | rel
  | agg
  | win
  | key
def Ty.sz : Ty → Nat
  | .expr => 14
  | .rel => 14
  | .agg => 5
  | .win => 12
  | .key => 16
/-- Its slices: where they stand, and of what. -/
def Ty.sl : Ty → List (Nat × Ty)
  | .expr => [(12, .expr), (13, .rel)]
  | .rel => [(6, .rel), (7, .expr), (9, .agg), (10, .win), (11, .key)]
  | .agg => [(3, .expr), (4, .expr)]
  | .win => [(2, .expr), (3, .agg), (4, .expr), (5, .key), (6, .key)]
  | .key => [(12, .expr), (13, .rel)]
/-- The parts of an expression but for its slices of structs. -/
structure EP where
  k : Int
  op : Int
  up : Int
  pos : Int
  tk : Int
  tsc : Int
  TA : Option Addr
  tl : Nat
  tc : Nat
  vk : Int
  vn : Int
  vsc : Int
  s : ByteArray
  VA : Option Addr
  vl : Nat
  vc : Nat
def EP.Ok (a : EP) : Prop := I64 a.k ∧ I64 a.op ∧ I64 a.up ∧ I64 a.pos
/-- The parts of a relation but for its slices of structs. -/
structure RP where
  k : Int
  op : Int
  nm : ByteArray
  all : Bool
  TA : Option Addr
  tl : Nat
  tc : Nat
  RA : Option Addr
  rl : Nat
  rc : Nat
  SA : Option Addr
  sl : Nat
  sc : Nat
  off : Int
  cnt : Int
/-- What is known of its cells. -/
def Ty.ok : Ty → List Value → Prop
  | .expr, c => ∃ (a : EP) (v12 v13 : Value), c = [.int .i64 a.k, .int .i64 a.op, .int .i64 a.up, .int .i64 a.pos, .int .i64 a.tk, .int .i64 a.tsc, .slice a.TA a.tl a.tc, .int .i64 a.vk, .int .i64 a.vn, .int .i64 a.vsc, .string a.s, .slice a.VA a.vl a.vc, v12, v13] ∧ a.Ok
  | .rel, c => ∃ (a : RP) (v6 v7 v9 v10 v11 : Value), c = [.int .i64 a.k, .int .i64 a.op, .string a.nm, .bool a.all, .slice a.TA a.tl a.tc, .slice a.RA a.rl a.rc, v6, v7, .slice a.SA a.sl a.sc, v9, v10, v11, .int .i64 a.off, .int .i64 a.cnt] ∧ I64 a.k ∧ a.tl ≤ 1048576
  | .agg, c => ∃ (k at' : Int) (ds : Bool) (v3 v4 : Value), c = [.int .i64 k, .int .i64 at', .bool ds, v3, v4]
  | .win, c => ∃ (k n : Int) (v2 v3 v4 v5 v6 : Value) (u fk fn tk tn : Int), c = [.int .i64 k, .int .i64 n, v2, v3, v4, v5, v6, .int .i64 u, .int .i64 fk, .int .i64 fn, .int .i64 tk, .int .i64 tn]
  | .key, c => ∃ (a : EP) (v12 v13 : Value) (dn fi : Bool), c = [.int .i64 a.k, .int .i64 a.op, .int .i64 a.up, .int .i64 a.pos, .int .i64 a.tk, .int .i64 a.tsc, .slice a.TA a.tl a.tc, .int .i64 a.vk, .int .i64 a.vn, .int .i64 a.vsc, .string a.s, .slice a.VA a.vl a.vc, v12, v13, .bool dn, .bool fi] ∧ a.Ok
/-- The cells of a struct lie at q. -/
def DT.At (w : World) (q : Addr) (x : DT) : Prop := ∀ (j : Nat) (u : Value), x.c[j]? = some u → w.cell? (if j = 0 then q else ⟨q.block, q.off + j, none⟩) = some u
/-- A slice of structs, in blocks of S. -/
def DRow (S : Nat → Prop) (w : World) (sz : Nat) (A : Option Addr) (cap : Nat) (l : List DT) : Prop :=
  l.length ≤ cap ∧ cap ≤ maxLen ∧ ∀ (i : Nat) (x : DT), l[i]? = some x → ∃ ad : Addr, A = some ad ∧ S ad.block ∧ x.At w (ad.add (i * sz))
inductive DT.In (S : Nat → Prop) (w : World) : Ty → DT → Prop
  | mk (t : Ty) (c : List Value) (k : List (List DT)) (hl : c.length = t.sz) (h1 : ∀ u, u ∈ c → u.oneCell' = true) (hok : t.ok c) (hk : k.length = t.sl.length)
      (hr : ∀ (i o : Nat) (s : Ty) (m : List DT), t.sl[i]? = some (o, s) → k[i]? = some m → ∃ A cap, c[o]? = some (.slice A m.length cap) ∧ DRow S w s.sz A cap m)
      (hx : ∀ (i o : Nat) (s : Ty) (m : List DT), t.sl[i]? = some (o, s) → k[i]? = some m → ∀ x, x ∈ m → DT.In S w s x) : DT.In S w t (.node c k)
theorem DT.At.keep {S : Nat → Prop} {w w' : World} {q : Addr} {x : DT} (h : x.At w q) (hs : ∀ k, S k → w'.heap[k]? = w.heap[k]?) (hq : S q.block) : x.At w' q := fun j u hu => by
  have := h j u hu
  split at this
  · rw [if_pos (by assumption)]; exact (World.cell?_of_block (hs _ hq)).trans this
  · rw [if_neg (by assumption)]; exact (World.cell?_of_block (a := ⟨q.block, q.off + j, none⟩) (hs _ hq)).trans this
theorem DRow.keep {S S' : Nat → Prop} {w w' : World} {sz : Nat} {A : Option Addr} {cap : Nat} {l : List DT} (h : DRow S w sz A cap l) (hs : ∀ k, S k → w'.heap[k]? = w.heap[k]?) (hS : ∀ k, S k → S' k) : DRow S' w' sz A cap l := by
  refine ⟨h.1, h.2.1, fun i x hx => ?_⟩
  obtain ⟨ad, e, hb, hat⟩ := h.2.2 i x hx
  exact ⟨ad, e, hS _ hb, hat.keep hs (by rw [block_add]; exact hb)⟩
theorem DT.In.keep {S S' : Nat → Prop} {w w' : World} {t : Ty} {d : DT} (h : DT.In S w t d) (hs : ∀ k, S k → w'.heap[k]? = w.heap[k]?) (hS : ∀ k, S k → S' k) : DT.In S' w' t d := by
  induction h with
  | mk t c k hl h1 hok hk hr hx ih =>
    refine .mk t c k hl h1 hok hk (fun i o s m h2 h3 => ?_) ih
    obtain ⟨A, cap, e, hrow⟩ := hr i o s m h2 h3
    exact ⟨A, cap, e, hrow.keep hs hS⟩
theorem DRow.get {S : Nat → Prop} {w : World} {sz : Nat} {A : Option Addr} {cap : Nat} {l : List DT} (h : DRow S w sz A cap l) {i : Nat} (hi : i < l.length) :
    ∃ (x : DT) (ad : Addr), l[i]? = some x ∧ A = some ad ∧ S ad.block ∧ x.At w (ad.add (i * sz)) := by
  obtain ⟨ad, e, hb, hat⟩ := h.2.2 i l[i] (List.getElem?_eq_getElem hi)
  exact ⟨l[i], ad, List.getElem?_eq_getElem hi, e, hb, hat⟩
theorem DRow.nil (S : Nat → Prop) (w : World) (sz : Nat) : DRow S w sz none 0 [] := ⟨Nat.le_refl _, Nat.zero_le _, fun i x hx => by simp at hx⟩
theorem len2 {α : Type} : ∀ {l : List α}, l.length = 2 → ∃ a b, l = [a, b]
  | [a, b], _ => ⟨a, b, rfl⟩
theorem len5' {α : Type} : ∀ {l : List α}, l.length = 5 → ∃ a b c d e, l = [a, b, c, d, e]
  | [a, b, c, d, e], _ => ⟨a, b, c, d, e, rfl⟩
/-- An expression, taken apart. -/
structure ExprD (S : Nat → Prop) (w : World) (d : DT) (a : EP) (A : Option Addr) (cap : Nat) (az : List DT) (B : Option Addr) (bcap : Nat) (ss : List DT) : Prop where
  e : d = .node [.int .i64 a.k, .int .i64 a.op, .int .i64 a.up, .int .i64 a.pos, .int .i64 a.tk, .int .i64 a.tsc, .slice a.TA a.tl a.tc, .int .i64 a.vk, .int .i64 a.vn, .int .i64 a.vsc, .string a.s, .slice a.VA a.vl a.vc, .slice A az.length cap, .slice B ss.length bcap] [az, ss]
  ok : a.Ok
  ra : DRow S w 14 A cap az
  rs : DRow S w 14 B bcap ss
  ia : ∀ x, x ∈ az → DT.In S w .expr x
  is : ∀ x, x ∈ ss → DT.In S w .rel x
theorem DT.In.expr {S : Nat → Prop} {w : World} {d : DT} (h : DT.In S w .expr d) : ∃ a A cap az B bcap ss, ExprD S w d a A cap az B bcap ss := by
  cases h with
  | mk _ c ks hl h1 hok hk hr hx =>
    obtain ⟨az, ss, rfl⟩ := len2 hk
    obtain ⟨a, v12, v13, rfl, ha⟩ := hok
    obtain ⟨A, cap, eA, rA⟩ := hr 0 12 .expr az rfl rfl
    obtain ⟨B, bcap, eB, rB⟩ := hr 1 13 .rel ss rfl rfl
    simp at eA eB
    subst eA eB
    exact ⟨a, A, cap, az, B, bcap, ss, rfl, ha, rA, rB, hx 0 12 .expr az rfl rfl, hx 1 13 .rel ss rfl rfl⟩
/-- A relation, taken apart. -/
structure RelD (S : Nat → Prop) (w : World) (d : DT) (a : RP) (IA : Option Addr) (icap : Nat) (is : List DT) (EA : Option Addr) (ecap : Nat) (es : List DT) (GA : Option Addr) (gcap : Nat) (gs : List DT) (WA : Option Addr) (wcap : Nat) (ws : List DT) (KA : Option Addr) (kcap : Nat) (ks : List DT) : Prop where
  e : d = .node [.int .i64 a.k, .int .i64 a.op, .string a.nm, .bool a.all, .slice a.TA a.tl a.tc, .slice a.RA a.rl a.rc, .slice IA is.length icap, .slice EA es.length ecap, .slice a.SA a.sl a.sc, .slice GA gs.length gcap, .slice WA ws.length wcap, .slice KA ks.length kcap, .int .i64 a.off, .int .i64 a.cnt] [is, es, gs, ws, ks]
  hk : I64 a.k
  ht : a.tl ≤ 1048576
  ri : DRow S w 14 IA icap is
  re : DRow S w 14 EA ecap es
  rg : DRow S w 5 GA gcap gs
  rw' : DRow S w 12 WA wcap ws
  rk : DRow S w 16 KA kcap ks
  ii : ∀ x, x ∈ is → DT.In S w .rel x
  ie : ∀ x, x ∈ es → DT.In S w .expr x
  ig : ∀ x, x ∈ gs → DT.In S w .agg x
  iw : ∀ x, x ∈ ws → DT.In S w .win x
  ik : ∀ x, x ∈ ks → DT.In S w .key x
theorem DT.In.rel {S : Nat → Prop} {w : World} {d : DT} (h : DT.In S w .rel d) : ∃ a IA icap is EA ecap es GA gcap gs WA wcap ws KA kcap ks, RelD S w d a IA icap is EA ecap es GA gcap gs WA wcap ws KA kcap ks := by
  cases h with
  | mk _ c kk hl h1 hok hk hr hx =>
    obtain ⟨is, es, gs, ws, ks, rfl⟩ := len5' hk
    obtain ⟨a, v6, v7, v9, v10, v11, rfl, b0, b4⟩ := hok
    obtain ⟨IA, icap, e6, r6⟩ := hr 0 6 .rel is rfl rfl
    obtain ⟨EA, ecap, e7, r7⟩ := hr 1 7 .expr es rfl rfl
    obtain ⟨GA, gcap, e9, r9⟩ := hr 2 9 .agg gs rfl rfl
    obtain ⟨WA, wcap, e10, r10⟩ := hr 3 10 .win ws rfl rfl
    obtain ⟨KA, kcap, e11, r11⟩ := hr 4 11 .key ks rfl rfl
    simp at e6 e7 e9 e10 e11
    subst e6 e7 e9 e10 e11
    exact ⟨a, IA, icap, is, EA, ecap, es, GA, gcap, gs, WA, wcap, ws, KA, kcap, ks, rfl, b0, b4, r6, r7, r9, r10, r11,
      hx 0 6 .rel is rfl rfl, hx 1 7 .expr es rfl rfl, hx 2 9 .agg gs rfl rfl, hx 3 10 .win ws rfl rfl, hx 4 11 .key ks rfl rfl⟩
/-! ## What Reads comes to -/
def DT.kid (d : DT) (i : Nat) : List DT := d.k.getD i []
/-- The expression of a key. -/
def keyE (d : DT) : DT := .node (d.c.take 14) d.k
def aggE (d : DT) : List DT := d.kid 0 ++ d.kid 1
def winE (d : DT) : List DT := d.kid 0 ++ (d.kid 1).flatMap aggE ++ d.kid 2 ++ (d.kid 3 ++ d.kid 4).map keyE
/-- The expressions right in a relation. -/
def relE (d : DT) : List DT := d.kid 1 ++ (d.kid 2).flatMap aggE ++ (d.kid 3).flatMap winE ++ (d.kid 4).map keyE
end Go.Proofs.YthijagpnpcpcbaaGreat
namespace Go.Proofs.YthijagpnpcpcbaaGreat
open Go.RowKit
/-- The kinds of structs. -/
inductive Uy where
  | expr
  | rel
  | agg
  | win
  | key
  | field
  | type
  | value
  | row
  | set
  | num
def Uy.sz : Uy → Nat
  | .expr => 14
  | .rel => 14
  | .agg => 5
  | .win => 12
  | .key => 16
  | .field => 6
  | .type => 3
  | .value => 5
  | .row => 1
  | .set => 1
  | .num => 1
/-- Its slices: where they stand, and of what. -/
def Uy.sl : Uy → List (Nat × Uy)
  | .expr => [(6, .field), (11, .value), (12, .expr), (13, .rel)]
  | .rel => [(4, .type), (5, .row), (6, .rel), (7, .expr), (8, .set), (9, .agg), (10, .win), (11, .key)]
  | .agg => [(3, .expr), (4, .expr)]
  | .win => [(2, .expr), (3, .agg), (4, .expr), (5, .key), (6, .key)]
  | .key => [(6, .field), (11, .value), (12, .expr), (13, .rel)]
  | .field => [(5, .field)]
  | .type => [(2, .field)]
  | .value => [(4, .value)]
  | .row => [(0, .value)]
  | .set => [(0, .num)]
  | .num => []
/-- The numbers and texts of an expression. -/
structure EQ where
  k : Int
  op : Int
  up : Int
  pos : Int
  tk : Int
  tsc : Int
  vk : Int
  vn : Int
  vsc : Int
  s : ByteArray
def EQ.Ok (a : EQ) : Prop := I64 a.k ∧ I64 a.op ∧ I64 a.up ∧ I64 a.pos ∧ I64 a.tk ∧ I64 a.tsc ∧ I64 a.vk ∧ I64 a.vn ∧ I64 a.vsc ∧ a.s.size ≤ maxLen
/-- What is known of its cells. -/
def Uy.ok : Uy → List Value → Prop
  | .expr, c => ∃ (a : EQ) (v6 v11 v12 v13 : Value), c = [.int .i64 a.k, .int .i64 a.op, .int .i64 a.up, .int .i64 a.pos, .int .i64 a.tk, .int .i64 a.tsc, v6, .int .i64 a.vk, .int .i64 a.vn, .int .i64 a.vsc, .string a.s, v11, v12, v13] ∧ a.Ok
  | .key, c => ∃ (a : EQ) (v6 v11 v12 v13 : Value) (dn fi : Bool), c = [.int .i64 a.k, .int .i64 a.op, .int .i64 a.up, .int .i64 a.pos, .int .i64 a.tk, .int .i64 a.tsc, v6, .int .i64 a.vk, .int .i64 a.vn, .int .i64 a.vsc, .string a.s, v11, v12, v13, .bool dn, .bool fi] ∧ a.Ok
  | .rel, c => ∃ (k op : Int) (nm : ByteArray) (all : Bool) (off cnt : Int) (v4 v5 v6 v7 v8 v9 v10 v11 : Value), c = [.int .i64 k, .int .i64 op, .string nm, .bool all, v4, v5, v6, v7, v8, v9, v10, v11, .int .i64 off, .int .i64 cnt] ∧ I64 k ∧ I64 op ∧ nm.size ≤ maxLen ∧ I64 off ∧ I64 cnt
  | .agg, c => ∃ (k at' : Int) (ds : Bool) (v3 v4 : Value), c = [.int .i64 k, .int .i64 at', .bool ds, v3, v4] ∧ I64 k ∧ I64 at'
  | .win, c => ∃ (k n : Int) (v2 v3 v4 v5 v6 : Value) (u fk fn tk tn : Int), c = [.int .i64 k, .int .i64 n, v2, v3, v4, v5, v6, .int .i64 u, .int .i64 fk, .int .i64 fn, .int .i64 tk, .int .i64 tn] ∧ I64 k ∧ I64 n ∧ I64 u ∧ I64 fk ∧ I64 fn ∧ I64 tk ∧ I64 tn
  | .field, c => ∃ (id : Int) (nm : ByteArray) (nd : Bool) (k sc : Int) (v5 : Value), c = [.int .i64 id, .string nm, .bool nd, .int .i64 k, .int .i64 sc, v5] ∧ I64 id ∧ nm.size ≤ maxLen ∧ I64 k ∧ I64 sc
  | .type, c => ∃ (k sc : Int) (v2 : Value), c = [.int .i64 k, .int .i64 sc, v2] ∧ I64 k ∧ I64 sc
  | .value, c => ∃ (k n sc : Int) (s : ByteArray) (v4 : Value), c = [.int .i64 k, .int .i64 n, .int .i64 sc, .string s, v4] ∧ I64 k ∧ I64 n ∧ I64 sc ∧ s.size ≤ maxLen
  | .row, c => ∃ v0 : Value, c = [v0]
  | .set, c => ∃ v0 : Value, c = [v0]
  | .num, c => ∃ n : Int, c = [.int .i64 n] ∧ I64 n
/-- A tree lies in memory, in blocks of S. -/
inductive UIn (S : Nat → Prop) (w : World) : Uy → DT → Prop
  | mk (t : Uy) (c : List Value) (k : List (List DT)) (hl : c.length = t.sz) (h1 : ∀ u, u ∈ c → u.oneCell' = true) (hok : t.ok c) (hk : k.length = t.sl.length)
      (hr : ∀ (i o : Nat) (s : Uy) (m : List DT), t.sl[i]? = some (o, s) → k[i]? = some m → ∃ A cap, c[o]? = some (.slice A m.length cap) ∧ DRow S w s.sz A cap m)
      (hx : ∀ (i o : Nat) (s : Uy) (m : List DT), t.sl[i]? = some (o, s) → k[i]? = some m → ∀ x, x ∈ m → UIn S w s x) : UIn S w t (.node c k)
theorem UIn.keep {S S' : Nat → Prop} {w w' : World} {t : Uy} {d : DT} (h : UIn S w t d) (hs : ∀ k, S k → w'.heap[k]? = w.heap[k]?) (hS : ∀ k, S k → S' k) : UIn S' w' t d := by
  induction h with
  | mk t c k hl h1 hok hk hr hx ih =>
    refine .mk t c k hl h1 hok hk (fun i o s m h2 h3 => ?_) ih
    obtain ⟨A, cap, e, hrow⟩ := hr i o s m h2 h3
    exact ⟨A, cap, e, hrow.keep hs hS⟩
theorem UIn.len {S : Nat → Prop} {w : World} {t : Uy} {d : DT} (h : UIn S w t d) : d.c.length = t.sz := by cases h; assumption
theorem UIn.ones {S : Nat → Prop} {w : World} {t : Uy} {d : DT} (h : UIn S w t d) : ∀ u, u ∈ d.c → u.oneCell' = true := by cases h; assumption
/-- The same but for where its parts lie. -/
inductive USm : Uy → DT → DT → Prop
  | mk (t : Uy) (c c' : List Value) (k k' : List (List DT)) (hc : c.length = c'.length) (he : ∀ j, (∀ s, (j, s) ∉ t.sl) → c[j]? = c'[j]?) (hk : k.length = k'.length)
      (hl : ∀ (i : Nat) (m m' : List DT), k[i]? = some m → k'[i]? = some m' → m.length = m'.length)
      (hx : ∀ (i o : Nat) (s : Uy) (m m' : List DT), t.sl[i]? = some (o, s) → k[i]? = some m → k'[i]? = some m' → ∀ (q : Nat) x y, m[q]? = some x → m'[q]? = some y → USm s x y) : USm t (.node c k) (.node c' k')
theorem USm.symm {t : Uy} {x y : DT} (h : USm t x y) : USm t y x := by
  induction h with
  | mk t c c' k k' hc he hk hl hx ih =>
    exact .mk t c' c k' k hc.symm (fun j hj => (he j hj).symm) hk.symm (fun i m m' h h' => (hl i m' m h' h).symm) fun i o s m m' hs h h' q x y hx' hy' => ih i o s m' m hs h' h q y x hy' hx'
theorem USm.refl : ∀ (d : DT) (t : Uy), USm t d d := by
  refine DT.ind fun c k ih t => .mk t c c k k rfl (fun j _ => rfl) rfl (fun i m m' h h' => by rw [h] at h'; cases h'; rfl) fun i o s m m' _ h h' q x y hx hy => ?_
  rw [h] at h'
  cases h'
  rw [hx] at hy
  cases hy
  exact ih m (List.mem_of_getElem? h) x (List.mem_of_getElem? hx) s
theorem USm.trans {t : Uy} {x y z : DT} (h : USm t x y) : USm t y z → USm t x z := by
  induction h generalizing z with
  | mk t c c' k k' hc he hk hl hx ih =>
    intro h'
    cases h' with
    | mk _ _ c2 _ k2 hc2 he2 hk2 hl2 hx2 =>
      refine .mk t c c2 k k2 (hc.trans hc2) (fun j hj => (he j hj).trans (he2 j hj)) (hk.trans hk2) (fun i m m' h h' => ?_) fun i o s m m2 hs h h' q x z hxx hzz => ?_
      · have hi : i < k'.length := by rw [← hk]; exact (List.getElem?_eq_some_iff.1 h).1
        exact (hl i m _ h (List.getElem?_eq_getElem hi)).trans (hl2 i _ m' (List.getElem?_eq_getElem hi) h')
      · have hi : i < k'.length := by rw [← hk]; exact (List.getElem?_eq_some_iff.1 h).1
        have h1 := List.getElem?_eq_getElem hi
        have hq : q < k'[i].length := by rw [← hl i m _ h h1]; exact (List.getElem?_eq_some_iff.1 hxx).1
        exact ih i o s m _ hs h h1 q x _ hxx (List.getElem?_eq_getElem hq) (hx2 i o s _ m2 hs h1 h' q _ z (List.getElem?_eq_getElem hq) hzz)
/-- Lists that are the same, element for element. -/
def USL (t : Uy) (l m : List DT) : Prop := l.length = m.length ∧ ∀ (q : Nat) x y, l[q]? = some x → m[q]? = some y → USm t x y
theorem USL.refl (t : Uy) (l : List DT) : USL t l l := ⟨rfl, fun q x y hx hy => by rw [hx] at hy; cases hy; exact USm.refl x t⟩
theorem USL.symm {t : Uy} {l m : List DT} (h : USL t l m) : USL t m l := ⟨h.1.symm, fun q x y hx hy => (h.2 q y x hy hx).symm⟩
theorem USL.trans {t : Uy} {l m n : List DT} (h : USL t l m) (h' : USL t m n) : USL t l n := ⟨h.1.trans h'.1, fun q x z hx hz => by
  have hq : q < m.length := by rw [← h.1]; exact (List.getElem?_eq_some_iff.1 hx).1
  exact (h.2 q x _ hx (List.getElem?_eq_getElem hq)).trans (h'.2 q _ z (List.getElem?_eq_getElem hq) hz)⟩
theorem USL.nil (t : Uy) : USL t [] [] := USL.refl t []
/-- A node's slices, by what they hold. -/
theorem USm.of {t : Uy} {c c' : List Value} {k k' : List (List DT)} (hc : c.length = c'.length) (he : ∀ j, (∀ s, (j, s) ∉ t.sl) → c[j]? = c'[j]?) (hk : k.length = k'.length) (hk2 : k.length = t.sl.length)
    (h : ∀ (i o : Nat) (s : Uy) (m m' : List DT), t.sl[i]? = some (o, s) → k[i]? = some m → k'[i]? = some m' → USL s m m') : USm t (.node c k) (.node c' k') := by
  refine .mk t c c' k k' hc he hk (fun i m m' hm hm' => ?_) fun i o s m m' hs hm hm' q x y hx hy => (h i o s m m' hs hm hm').2 q x y hx hy
  have hi : i < t.sl.length := by rw [← hk2]; exact (List.getElem?_eq_some_iff.1 hm).1
  exact (h i _ _ m m' (List.getElem?_eq_getElem hi) hm hm').1
end Go.Proofs.YthijagpnpcpcbaaGreat
namespace Go.Proofs.YthijagpnpcpcbaaGreat
open Go.RowKit
/-- The three cells of a type lie at q. -/
def FT.TAt (w : World) (q : Addr) (x : FT) : Prop :=
  w.cell? q = some (.int .i64 x.a.k) ∧ w.cell? ⟨q.block, q.off + 1, none⟩ = some (.int .i64 x.a.sc) ∧ w.cell? ⟨q.block, q.off + 2, none⟩ = some (.slice x.a.A x.l.length x.a.cap)
/-- A slice of types. -/
def FT.TRow (B : Nat) (w : World) (A : Option Addr) (cap : Nat) (l : List FT) : Prop :=
  l.length ≤ cap ∧ cap ≤ maxLen ∧ (∀ x, x ∈ l → FT.In B w x) ∧ ∀ (i : Nat) (x : FT), l[i]? = some x → ∃ ad : Addr, A = some ad ∧ ad.block < B ∧ x.TAt w (ad.add (i * 3))
theorem FT.TAt.keep {B : Nat} {w w' : World} {q : Addr} {x : FT} (h : x.TAt w q) (hs : Same B w w') (hq : q.block < B) : x.TAt w' q := by
  obtain ⟨h0, h1, h2⟩ := h
  exact ⟨(hs.cell hq).trans h0, (hs.cell (p := ⟨q.block, q.off + 1, none⟩) hq).trans h1, (hs.cell (p := ⟨q.block, q.off + 2, none⟩) hq).trans h2⟩
theorem FT.TRow.keep {B : Nat} {w w' : World} {A : Option Addr} {cap : Nat} {l : List FT} (h : FT.TRow B w A cap l) (hs : Same B w w') : FT.TRow B w' A cap l := by
  refine ⟨h.1, h.2.1, fun x hx => (h.2.2.1 x hx).keep hs, fun i x hx => ?_⟩
  obtain ⟨ad, e, hb, hat⟩ := h.2.2.2 i x hx
  exact ⟨ad, e, hb, hat.keep hs (by rw [block_add]; exact hb)⟩
theorem FT.TRow.get {B : Nat} {w : World} {A : Option Addr} {cap : Nat} {l : List FT} (h : FT.TRow B w A cap l) {i : Nat} (hi : i < l.length) :
    ∃ (x : FT) (ad : Addr), l[i]? = some x ∧ A = some ad ∧ ad.block < B ∧ x.TAt w (ad.add (i * 3)) := by
  obtain ⟨ad, e, hb, hat⟩ := h.2.2.2 i l[i] (List.getElem?_eq_getElem hi)
  exact ⟨l[i], ad, List.getElem?_eq_getElem hi, e, hb, hat⟩
/-- A slice of rows: of a row only its slice is looked at. -/
def VT.RRow (B : Nat) (w : World) (A : Option Addr) (cap : Nat) (l : List VT) : Prop :=
  l.length ≤ cap ∧ cap ≤ maxLen ∧ (∀ x, x ∈ l → VT.Rows B w x.a.A x.a.cap x.l) ∧ ∀ (i : Nat) (x : VT), l[i]? = some x → ∃ ad : Addr, A = some ad ∧ ad.block < B ∧ w.cell? (ad.add i) = some (.slice x.a.A x.l.length x.a.cap)
theorem VT.RRow.keep {B : Nat} {w w' : World} {A : Option Addr} {cap : Nat} {l : List VT} (h : VT.RRow B w A cap l) (hs : Same B w w') : VT.RRow B w' A cap l := by
  refine ⟨h.1, h.2.1, fun x hx => (h.2.2.1 x hx).keep hs, fun i x hx => ?_⟩
  obtain ⟨ad, e, hb, hat⟩ := h.2.2.2 i x hx
  exact ⟨ad, e, hb, (hs.cell (by rw [block_add]; exact hb)).trans hat⟩
theorem VT.RRow.get {B : Nat} {w : World} {A : Option Addr} {cap : Nat} {l : List VT} (h : VT.RRow B w A cap l) {i : Nat} (hi : i < l.length) :
    ∃ (x : VT) (ad : Addr), l[i]? = some x ∧ A = some ad ∧ ad.block < B ∧ w.cell? (ad.add i) = some (.slice x.a.A x.l.length x.a.cap) := by
  obtain ⟨ad, e, hb, hat⟩ := h.2.2.2 i l[i] (List.getElem?_eq_getElem hi)
  exact ⟨l[i], ad, List.getElem?_eq_getElem hi, e, hb, hat⟩
/-- A table. -/
structure ST where
  nm : ByteArray
  TA : Option Addr
  tcap : Nat
  ts : List FT
  RA : Option Addr
  rcap : Nat
  rs : List VT
structure ST.In (B : Nat) (w : World) (s : ST) : Prop where
  nm : s.nm.size ≤ maxLen
  ts : FT.TRow B w s.TA s.tcap s.ts
  rs : VT.RRow B w s.RA s.rcap s.rs
def ST.At (w : World) (q : Addr) (x : ST) : Prop :=
  w.cell? q = some (.string x.nm) ∧ w.cell? ⟨q.block, q.off + 1, none⟩ = some (.slice x.TA x.ts.length x.tcap) ∧ w.cell? ⟨q.block, q.off + 2, none⟩ = some (.slice x.RA x.rs.length x.rcap)
def ST.Row (B : Nat) (w : World) (A : Option Addr) (cap : Nat) (l : List ST) : Prop :=
  l.length ≤ cap ∧ cap ≤ maxLen ∧ ∀ (i : Nat) (x : ST), l[i]? = some x → ∃ ad : Addr, A = some ad ∧ ad.block < B ∧ x.At w (ad.add (i * 3))
theorem ST.In.keep {B : Nat} {w w' : World} {s : ST} (h : ST.In B w s) (hs : Same B w w') : ST.In B w' s := ⟨h.nm, h.ts.keep hs, h.rs.keep hs⟩
theorem ST.At.keep {B : Nat} {w w' : World} {q : Addr} {x : ST} (h : x.At w q) (hs : Same B w w') (hq : q.block < B) : x.At w' q := by
  obtain ⟨h0, h1, h2⟩ := h
  exact ⟨(hs.cell hq).trans h0, (hs.cell (p := ⟨q.block, q.off + 1, none⟩) hq).trans h1, (hs.cell (p := ⟨q.block, q.off + 2, none⟩) hq).trans h2⟩
theorem ST.Row.keep {B : Nat} {w w' : World} {A : Option Addr} {cap : Nat} {l : List ST} (h : ST.Row B w A cap l) (hs : Same B w w') : ST.Row B w' A cap l := by
  refine ⟨h.1, h.2.1, fun i x hx => ?_⟩
  obtain ⟨ad, e, hb, hat⟩ := h.2.2 i x hx
  exact ⟨ad, e, hb, hat.keep hs (by rw [block_add]; exact hb)⟩
theorem ST.Row.get {B : Nat} {w : World} {A : Option Addr} {cap : Nat} {l : List ST} (h : ST.Row B w A cap l) {i : Nat} (hi : i < l.length) :
    ∃ (x : ST) (ad : Addr), l[i]? = some x ∧ A = some ad ∧ ad.block < B ∧ x.At w (ad.add (i * 3)) := by
  obtain ⟨ad, e, hb, hat⟩ := h.2.2 i l[i] (List.getElem?_eq_getElem hi)
  exact ⟨l[i], ad, List.getElem?_eq_getElem hi, e, hb, hat⟩
end Go.Proofs.YthijagpnpcpcbaaGreat
namespace Go.Proofs.YthijagpnpcpcbaaGreat
open Go.RowKit
/-- Where a row lies behind an append. -/
def Moved (w : World) (v v' : Value) : Prop := v'.ownBlock = v.ownBlock ∨ ∀ k, v'.ownBlock = some k → w.heap.size ≤ k
theorem wpList_append_own2 {P : Program} (w : World) {ops : Array Oper} {rest : List Oper} {o : Oper} {a : Act} {Q : Exit → Act → World → Prop} (hgd : o.guard = none) (s x : Operand) (t : TypeId)
    (ho : o.op = .call { callee := .builtin .append, args := #[s, x], argTypes := #[t, t] })
    (base : Nat) (e : TypeId) (i : TypeInfo) (z : Value) (size bytes : Nat) (ht : P.underlying t = some (.slice e)) (hi : P.info? e = some i) (hz : i.zero = some z)
    (hsize : i.size = size) (hby : i.bytes = bytes) (hzs : z.cells.size = size) (hsz : 0 < size)
    (v : Value) (n : Nat) (xs : List Value) (hs : a.eval s = v) (hown : w.ownsRow base e size v n xs)
    (ad : Addr) (m c : Nat) (news : List Value) (hx : a.eval x = .slice (some ad) m c) (hm : 0 < m) (hl : news.length = m * size) (hnews : ∀ j u, news[j]? = some u → w.cell? (ad.add j) = some u) (h1 : ∀ u ∈ news, u.oneCell' = true)
    (h63 : n + m ≤ maxLen) (hbytes : (n + m) * bytes ≤ 140737488355328) (hbase : base ≤ w.heap.size)
    (h : ∀ v' w', w'.ownsRow base e size v' (n + m) (xs ++ news) → w.grownBy w' v.ownBlock → Moved w v v' → wpList P ops Q rest (a.put o.dst v') w') : wpList P ops Q (o :: rest) a w := by
  have grows : ∀ (ao : Option Addr) (cap : Nat), v = .slice ao n cap → (ao = none → n = 0 ∧ cap = 0) → (∀ b, ao = some b → ∀ j u, xs[j]? = some u → w.cell? (b.add j) = some u) → cap < n + m → wpList P ops Q (o :: rest) a w := by
    intro ao cap hv hnone holds hfull
    refine wpList_append_grows w hgd s x t ho e i z size bytes ht hi hz hsize hby hzs hsz ao n cap xs (hs.trans hv) hnone hown.1 holds ad m c news hx hl hnews h1 hfull h63 hbytes fun v' w' ho' hg' => ?_
    refine h v' w' ⟨ho'.1, ?_⟩ ⟨hg'.os, hg'.tape, hg'.output, hg'.size, fun k hk _ => hg'.block k hk (by simp)⟩ (.inr fun k hk => (ho'.lt k hk).1)
    rcases ho'.2 with hn | ⟨g, cap', cur, e1, e2, e3⟩
    · exact .inl hn
    · exact .inr ⟨g, cap', cur, e1, by omega, e3⟩
  rcases hown.2 with ⟨hv, hn⟩ | ⟨g, cap, cur, hv, hbg, hg, hnc, hcm, hcs, htake⟩
  · subst hn
    exact grows none 0 hv (fun _ => ⟨rfl, rfl⟩) (fun b hb => by cases hb) (by omega)
  · by_cases hroom : n + m ≤ cap
    · subst hsize
      have hlen : (xs ++ news).length = (n + m) * i.size := by rw [List.length_append, hown.1, hl, Nat.add_mul]
      have hfit : n * i.size + news.length ≤ cur.size := by rw [hl, hcs, ← Nat.add_mul]; exact Nat.mul_le_mul_right _ hroom
      have hr := run_append_room (P := P) w t o.type e i ht hi g n cap cur hg ad m c news hl hnews h1 hroom hfit
      have hres := h (.slice (some ⟨g, 0, none⟩) (n + m) cap) (w.setRow g (cur.toList.take (n * i.size) ++ news ++ cur.toList.drop (n * i.size + news.length)).toArray)
        ⟨hlen, .inr ⟨g, cap, _, rfl, hbg, setRow_heap w g cur _ e _ hg, hroom, hcm, by
          simp only [List.size_toArray, List.length_append, List.length_take, List.length_drop, Array.length_toList]
          omega, by rw [htake, ← hlen]; exact List.take_left⟩⟩
        ⟨rfl, rfl, rfl, by simp, fun k _ hk => setRow_other w g k _ (fun e => hk (by rw [hv, e]; rfl))⟩ (.inl (by rw [hv]; rfl))
      refine wpList_plain hgd fun K hK => ?_
      unfold Oper.wp
      rw [hv] at hs
      simp [execOp, ho, resolve, invoke, builtin, hs, hx, hr, Result.andThen]
      rw [List.append_assoc] at hres
      exact hK _ _ hres
    · exact grows (some ⟨g, 0, none⟩) cap hv (fun h => by cases h) (fun b hb j u hu => by cases hb; exact hown.cells (g := g) (by rw [hv]; rfl) j u hu) (by omega)
/-! ## In which blocks they lie -/
def VT.RowS (S : Nat → Prop) (w : World) (A : Option Addr) (cap : Nat) (l : List VT) : Prop :=
  l.length ≤ cap ∧ cap ≤ maxLen ∧ ∀ (i : Nat) (x : VT), l[i]? = some x → ∃ ad : Addr, A = some ad ∧ S ad.block ∧ x.At w (ad.add (i * 5))
inductive VT.InS (S : Nat → Prop) (w : World) : VT → Prop
  | mk (k n sc : Int) (s : ByteArray) (A : Option Addr) (cap : Nat) (l : List VT) (hk : I64 k) (hn : I64 n) (hsc : I64 sc) (hs : s.size ≤ maxLen)
      (hr : VT.RowS S w A cap l) (hl : ∀ x, x ∈ l → VT.InS S w x) : VT.InS S w (.node ⟨k, n, sc, s, A, cap⟩ l)
theorem VT.At.keepS {S : Nat → Prop} {w w' : World} {q : Addr} {x : VT} (h : x.At w q) (hs : ∀ k, S k → w'.heap[k]? = w.heap[k]?) (hq : S q.block) : x.At w' q := by
  obtain ⟨h0, h1, h2, h3, h4⟩ := h
  have e := hs _ hq
  exact ⟨(World.cell?_of_block e).trans h0, (World.cell?_of_block (a := ⟨q.block, q.off + 1, none⟩) e).trans h1, (World.cell?_of_block (a := ⟨q.block, q.off + 2, none⟩) e).trans h2,
    (World.cell?_of_block (a := ⟨q.block, q.off + 3, none⟩) e).trans h3, (World.cell?_of_block (a := ⟨q.block, q.off + 4, none⟩) e).trans h4⟩
theorem VT.InS.keep {S S' : Nat → Prop} {w w' : World} {v : VT} (h : VT.InS S w v) (hs : ∀ k, S k → w'.heap[k]? = w.heap[k]?) (hS : ∀ k, S k → S' k) : VT.InS S' w' v := by
  induction h with
  | mk k n sc s A cap l hk hn hsc hs' hr hl ih =>
    refine .mk k n sc s A cap l hk hn hsc hs' ⟨hr.1, hr.2.1, fun i x hx => ?_⟩ ih
    obtain ⟨ad, e, hb, hat⟩ := hr.2.2 i x hx
    exact ⟨ad, e, hS _ hb, hat.keepS hs (by rw [block_add]; exact hb)⟩
def FT.RowS (S : Nat → Prop) (w : World) (A : Option Addr) (cap : Nat) (l : List FT) : Prop :=
  l.length ≤ cap ∧ cap ≤ maxLen ∧ ∀ (i : Nat) (x : FT), l[i]? = some x → ∃ ad : Addr, A = some ad ∧ S ad.block ∧ x.At w (ad.add (i * 6))
inductive FT.InS (S : Nat → Prop) (w : World) : FT → Prop
  | mk (id : Int) (nm : ByteArray) (nd : Bool) (k sc : Int) (A : Option Addr) (cap : Nat) (l : List FT) (hid : I64 id) (hnm : nm.size ≤ maxLen) (hk : I64 k) (hsc : I64 sc)
      (hr : FT.RowS S w A cap l) (hl : ∀ x, x ∈ l → FT.InS S w x) : FT.InS S w (.node ⟨id, nm, nd, k, sc, A, cap⟩ l)
theorem FT.At.keepS {S : Nat → Prop} {w w' : World} {q : Addr} {x : FT} (h : x.At w q) (hs : ∀ k, S k → w'.heap[k]? = w.heap[k]?) (hq : S q.block) : x.At w' q := by
  obtain ⟨h0, h1, h2, h3, h4, h5⟩ := h
  have e := hs _ hq
  exact ⟨(World.cell?_of_block e).trans h0, (World.cell?_of_block (a := ⟨q.block, q.off + 1, none⟩) e).trans h1, (World.cell?_of_block (a := ⟨q.block, q.off + 2, none⟩) e).trans h2,
    (World.cell?_of_block (a := ⟨q.block, q.off + 3, none⟩) e).trans h3, (World.cell?_of_block (a := ⟨q.block, q.off + 4, none⟩) e).trans h4, (World.cell?_of_block (a := ⟨q.block, q.off + 5, none⟩) e).trans h5⟩
theorem FT.InS.keep {S S' : Nat → Prop} {w w' : World} {v : FT} (h : FT.InS S w v) (hs : ∀ k, S k → w'.heap[k]? = w.heap[k]?) (hS : ∀ k, S k → S' k) : FT.InS S' w' v := by
  induction h with
  | mk id nm nd k sc A cap l hid hnm hk hsc hr hl ih =>
    refine .mk id nm nd k sc A cap l hid hnm hk hsc ⟨hr.1, hr.2.1, fun i x hx => ?_⟩ ih
    obtain ⟨ad, e, hb, hat⟩ := hr.2.2 i x hx
    exact ⟨ad, e, hS _ hb, hat.keepS hs (by rw [block_add]; exact hb)⟩
/-- New blocks, and not the row's own. -/
def Fresh (B : Nat) (w : World) (v : Value) (k : Nat) : Prop := B ≤ k ∧ k < w.heap.size ∧ some k ≠ v.ownBlock
/-- New blocks. -/
def New (B : Nat) (w : World) (k : Nat) : Prop := B ≤ k ∧ k < w.heap.size
theorem own_below {w w' : World} {B e size n : Nat} {v : Value} {xs : List Value} (h : w.ownsRow B e size v n xs) (hb : Below w.heap.size w w') : w'.ownsRow B e size v n xs := by
  refine ⟨h.1, ?_⟩
  rcases h.2 with hn | ⟨g, cap, cur, e1, e2, e3, rest⟩
  · exact .inl hn
  · exact .inr ⟨g, cap, cur, e1, e2, (hb.block g (Array.getElem?_eq_some_iff.1 e3).1).trans e3, rest⟩
end Go.Proofs.YthijagpnpcpcbaaGreat
namespace Go.Proofs.YthijagpnpcpcbaaGreat
open Go.RowKit
theorem run_append_zero {P : Program} (w : World) {base : Nat} {t ty e : TypeId} {i : TypeInfo} {size : Nat} (ht : P.underlying t = some (.slice e)) (hi : P.info? e = some i) {v : Value} {n : Nat} {xs : List Value} (hown : w.ownsRow base e size v n xs) (A : Option Addr) (c : Nat) :
    (Builtin.append_ #[t, t] ty #[v, .slice A 0 c]).run P w = .ok v w := by
  rcases hown.2 with ⟨rfl, rfl⟩ | ⟨g, cap, cur, rfl, _, _, hnc, _⟩ <;> cases A <;> simp [Builtin.append_, run_underlying ht, sizeOf, typeInfo, Builtin.lenOf, Builtin.firstCells, storeCells, loadCells, loadCellsFrom, *]
/-- Where the cells of a source lie. -/
def SrcAt (w : World) (A : Option Addr) (news : List Value) : Prop := news = [] ∨ ∃ ad, A = some ad ∧ ∀ j u, news[j]? = some u → w.cell? (ad.add j) = some u
theorem wpList_append_row {P : Program} (w : World) {ops : Array Oper} {rest : List Oper} {o : Oper} {a : Act} {Q : Exit → Act → World → Prop} (hgd : o.guard = none) (s x : Operand) (t : TypeId)
    (ho : o.op = .call { callee := .builtin .append, args := #[s, x], argTypes := #[t, t] })
    (base : Nat) (e : TypeId) (i : TypeInfo) (z : Value) (size bytes : Nat) (ht : P.underlying t = some (.slice e)) (hi : P.info? e = some i) (hz : i.zero = some z)
    (hsize : i.size = size) (hby : i.bytes = bytes) (hzs : z.cells.size = size) (hsz : 0 < size)
    (v : Value) (n : Nat) (xs : List Value) (hs : a.eval s = v) (hown : w.ownsRow base e size v n xs)
    (A : Option Addr) (m c : Nat) (news : List Value) (hx : a.eval x = .slice A m c) (hl : news.length = m * size) (hnews : SrcAt w A news) (h1 : ∀ u ∈ news, u.oneCell' = true)
    (h63 : n + m ≤ maxLen) (hbytes : (n + m) * bytes ≤ 140737488355328) (hbase : base ≤ w.heap.size)
    (h : ∀ v' w', w'.ownsRow base e size v' (n + m) (xs ++ news) → w.grownBy w' v.ownBlock → Moved w v v' → wpList P ops Q rest (a.put o.dst v') w') : wpList P ops Q (o :: rest) a w := by
  by_cases hm : m = 0
  · subst hm
    have hn0 : news = [] := List.length_eq_zero_iff.1 (by rw [hl]; omega)
    subst hn0
    have hres := h v w (by simpa using hown) ⟨rfl, rfl, rfl, Nat.le_refl _, fun _ _ _ => rfl⟩ (.inl rfl)
    refine wpList_plain hgd fun K hK => ?_
    have hr := run_append_zero (P := P) (ty := o.type) w ht hi hown A c
    unfold Oper.wp
    simp [execOp, ho, resolve, invoke, builtin, hs, hx, hr, Result.andThen]
    exact hK _ _ hres
  · rcases hnews with rfl | ⟨ad, rfl, hc⟩
    · have : 0 < m * size := Nat.mul_pos (by omega) hsz
      simp at hl
      omega
    · exact wpList_append_own2 w hgd s x t ho base e i z size bytes ht hi hz hsize hby hzs hsz v n xs hs hown ad m c news hx (by omega) hl hc h1 h63 hbytes hbase h
end Go.Proofs.YthijagpnpcpcbaaGreat
namespace Go.Proofs.YthijagpnpcpcbaaGreat
open Go.RowKit
theorem add_add (a : Addr) (m n : Nat) : (a.add m).add n = a.add (m + n) := by
  unfold Addr.add
  by_cases hn : n = 0
  · subst hn; simp
  · by_cases hm : m = 0
    · subst hm; simp [hn]
    · simp [hm, hn, Nat.add_assoc]
theorem flatD_at (c : Nat) : ∀ (l : List DT) (_ : ∀ x, x ∈ l → x.c.length = c) (i : Nat) (x : DT) (k : Nat), l[i]? = some x → k < c → (l.flatMap DT.c)[i * c + k]? = x.c[k]?
  | [], _, i, x, k, h, _ => by simp at h
  | y :: l, hf, 0, x, k, h, hk => by
    simp at h
    subst h
    rw [List.flatMap_cons, Nat.zero_mul, Nat.zero_add, List.getElem?_append_left (by rw [hf y (by simp)]; exact hk)]
  | y :: l, hf, i + 1, x, k, h, hk => by
    rw [List.flatMap_cons, List.getElem?_append_right (by rw [hf y (by simp), Nat.add_mul]; omega), hf y (by simp), show (i + 1) * c + k - c = i * c + k by rw [Nat.add_mul]; omega]
    exact flatD_at c l (fun x hx => hf x (by simp [hx])) i x k (by simpa using h) hk
theorem flatD_len {c : Nat} : ∀ {l : List DT}, (∀ x, x ∈ l → x.c.length = c) → (l.flatMap DT.c).length = l.length * c
  | [], _ => by simp
  | y :: l, hf => by
    rw [List.flatMap_cons, List.length_append, hf y (by simp), flatD_len fun x hx => hf x (by simp [hx]), List.length_cons, Nat.add_mul]
    omega
theorem DT.In.len {S : Nat → Prop} {w : World} {t : Ty} {d : DT} (h : DT.In S w t d) : d.c.length = t.sz := by
  cases h with
  | mk _ c k hl => exact hl
theorem DT.In.ones {S : Nat → Prop} {w : World} {t : Ty} {d : DT} (h : DT.In S w t d) : ∀ u, u ∈ d.c → u.oneCell' = true := by
  cases h with
  | mk _ c k hl h1 => exact h1
/-- The cells of a slice of structs, one behind the other. -/
theorem DRow.src {S : Nat → Prop} {w : World} {sz : Nat} {A : Option Addr} {cap : Nat} {l : List DT} (h : DRow S w sz A cap l) (hsz : 0 < sz) (hf : ∀ x, x ∈ l → x.c.length = sz) : SrcAt w A (l.flatMap DT.c) := by
  cases l with
  | nil => exact .inl rfl
  | cons y l =>
    obtain ⟨ad, rfl, _, _⟩ := h.2.2 0 y rfl
    refine .inr ⟨ad, rfl, fun j u hu => ?_⟩
    have hj : j < (y :: l).length * sz := by rw [← flatD_len hf]; exact (List.getElem?_eq_some_iff.1 hu).1
    have hi : j / sz < (y :: l).length := Nat.div_lt_of_lt_mul (by rw [Nat.mul_comm]; exact hj)
    have hk : j % sz < sz := Nat.mod_lt _ hsz
    have e : j / sz * sz + j % sz = j := by rw [Nat.mul_comm]; exact Nat.div_add_mod j sz
    obtain ⟨ad', e1, _, hat⟩ := h.2.2 (j / sz) _ (List.getElem?_eq_getElem hi)
    cases e1
    rw [← e, flatD_at sz _ hf _ _ _ (List.getElem?_eq_getElem hi) hk] at hu
    have := hat (j % sz) u hu
    have e2 : (if j % sz = 0 then ad.add (j / sz * sz) else (⟨(ad.add (j / sz * sz)).block, (ad.add (j / sz * sz)).off + j % sz, none⟩ : Addr)) = (ad.add (j / sz * sz)).add (j % sz) := rfl
    rw [e2, add_add, e] at this
    exact this
/-- A row of structs that a call owns, as a list. -/
theorem own_structs {w : World} {base e sz : Nat} {v : Value} {n : Nat} {l : List DT} (h : w.ownsRow base e sz v n (l.flatMap DT.c)) (hn : l.length = n) (hf : ∀ x, x ∈ l → x.c.length = sz) :
    ∃ (A : Option Addr) (cap : Nat), v = .slice A n cap ∧ DRow (fun q => v.ownBlock = some q ∧ base ≤ q ∧ q < w.heap.size) w sz A cap l ∧ (A = none → n = 0 ∧ cap = 0) := by
  rcases h.2 with ⟨rfl, rfl⟩ | ⟨g, cap, cur, rfl, hb, hg, h1, h2, h3, h4⟩
  · refine ⟨none, 0, rfl, ⟨by omega, Nat.zero_le _, fun i x hx => ?_⟩, fun _ => ⟨rfl, rfl⟩⟩
    have := (List.getElem?_eq_some_iff.1 hx).1
    omega
  · refine ⟨some ⟨g, 0, none⟩, cap, rfl, ⟨by omega, h2, fun i x hx => ⟨⟨g, 0, none⟩, rfl, ⟨rfl, hb, (Array.getElem?_eq_some_iff.1 hg).1⟩, fun j u hu => ?_⟩⟩, fun h => by cases h⟩
    have hj : j < sz := by rw [← hf x (List.mem_of_getElem? hx)]; exact (List.getElem?_eq_some_iff.1 hu).1
    have := h.cells (g := g) rfl (i * sz + j) u (by rw [flatD_at sz l hf i x j hx hj]; exact hu)
    rw [← add_add] at this
    exact this
end Go.Proofs.YthijagpnpcpcbaaGreat
namespace Go.Proofs.YthijagpnpcpcbaaGreat
open Go.RowKit
section
variable {P : Program}
theorem run_loadAt_st (w : World) (t : TypeId) (d : TypeDesc) (ad : Addr) (cs : List Value) (hc : ∀ j u, cs[j]? = some u → w.cell? (ad.add j) = some u) (hu : P.underlying t = some d) (hd : d.isRow = true) (hi : (P.info? t).map (·.size) = some cs.length) :
    (Instr.loadAt t (.pointer (some ad))).run P w = .ok (.agg cs.toArray) w := by
  have hl := run_loadCells_list (P := P) w ad cs hc
  cases hq : P.info? t with
  | none => simp [hq] at hi
  | some i =>
    have hs : i.size = cs.length := by simpa [hq] using hi
    have hagg : (isAgg t).run P w = .ok true w := by
      unfold isAgg
      rw [Sem.run_bind, run_underlying hu w]
      cases d <;> simp_all [TypeDesc.isRow]
    simp only [Instr.loadAt, Instr.sureAddr, Sem.run_bind, Sem.run_pure, Result.andThen_ok]
    simp [loadVar, Sem.run_bind, hagg, sizeOf, typeInfo, hq, hs, hl]
/-- A struct is loaded. -/
theorem wpList_load_st {ops : Array Oper} {rest : List Oper} {o : Oper} {a : Act} {w : World} {Q : Exit → Act → World → Prop} (hgd : o.guard = none) (t : TypeId) (x : Operand) (ho : o.op = .load t x) (d : TypeDesc)
    (hu : P.underlying t = some d) (hd : d.isRow = true) (ad : Addr) (cs : List Value) (hi : (P.info? t).map (·.size) = some cs.length) (hx : a.eval x = .pointer (some ad)) (hc : ∀ j u, cs[j]? = some u → w.cell? (ad.add j) = some u)
    (h : wpList P ops Q rest (a.put o.dst (.agg cs.toArray)) w) : wpList P ops Q (o :: rest) a w :=
  wpList_plain hgd fun _ hK => by
    unfold Oper.wp execOp
    simp only [ho, hx, Sem.run_bind, run_loadAt_st w t d ad cs hc hu hd hi, Result.andThen_ok]
    exact hK _ _ h
/-- A struct is stored into the variable that was made last. -/
theorem wpList_store_st {ops : Array Oper} {rest : List Oper} {o : Oper} {a : Act} {w : World} {Q : Exit → Act → World → Prop} (hgd : o.guard = none) (t : TypeId) (x y : Operand) (ho : o.op = .store t x y)
    (c cs : Array Value) (hi : (P.info? t).map (·.size) = some cs.size) (hz : c.size = cs.size) (h1 : cs.all (·.oneCell') = true) (hx : a.eval x = .pointer (some ⟨w.heap.size, 0, none⟩)) (hy : a.eval y = .agg cs)
    (h : wpList P ops Q rest (a.put o.dst undef) (w.alloc (.cells cs t))) : wpList P ops Q (o :: rest) a (w.alloc (.cells c t)) :=
  wpList_plain hgd fun _ hK => by
    unfold Oper.wp execOp
    simp only [ho, hx, hy, Sem.run_bind, run_storeAt_new w t c cs hi hz h1, Result.andThen_ok]
    exact hK _ _ h
theorem fold_set (cs : List Value) : ∀ (k : Nat) (z : Array Value), z.size = k + cs.length → (cs.zipIdx k).foldl (fun z (c, j) => z.setIfInBounds j c) z = (z.toList.take k ++ cs).toArray := by
  induction cs with
  | nil =>
    intro k z hz
    have hz' : z.toList.length = k := by simpa using hz
    simp only [List.zipIdx_nil, List.foldl_nil, List.append_nil]
    rw [← hz', List.take_length]
  | cons c cs ih =>
    intro k z hz
    simp only [List.zipIdx_cons, List.foldl_cons]
    rw [ih (k + 1) _ (by simp at hz ⊢; omega)]
    congr 1
    have hk : k < z.toList.length := by simp at hz ⊢; omega
    rw [Array.toList_setIfInBounds, List.take_add_one, List.take_set_of_le (Nat.le_refl _), List.getElem?_set_self hk]
    simp
/-- A slice of one struct is made. -/
theorem wpList_one_st {ops : Array Oper} {rest : List Oper} {o : Oper} {a : Act} {w : World} {Q : Exit → Act → World → Prop} (hgd : o.guard = none) (t e : TypeId) (x : Operand) (ho : o.op = .buildSlice t 1 #[(0, x)])
    (i : TypeInfo) (ht : P.underlying t = some (.slice e)) (hi : P.info? e = some i) (z : Value) (hz : i.zero = some z) (cs : Array Value) (hs : i.size = cs.size) (hzs : z.cells.size = cs.size) (h0 : 0 < cs.size) (hb : cs.size ≤ 16777216) (hx : a.eval x = .agg cs)
    (h : wpList P ops Q rest (a.put o.dst (.slice (some ⟨w.heap.size, 0, none⟩) 1 1)) (w.alloc (.cells cs e))) : wpList P ops Q (o :: rest) a w :=
  wpList_plain hgd fun _ hK => by
    have hne : ¬ cs.size = 0 := by omega
    have hnb : ¬ (2 ^ 24 < cs.size) := by omega
    have hf : (cs.toList.zipIdx 0).foldl (fun z (c, j) => z.setIfInBounds j c) ((Array.range cs.size).map (z.cells[· % z.cells.size]!)) = cs := by
      rw [fold_set cs.toList 0 _ (by simp)]
      simp
    have hf2 : cs.zipIdx.foldl (fun cs' (c, j) => cs'.setIfInBounds (0 + j) c) ((Array.range cs.size).map (z.cells[· % z.cells.size]!)) = cs := by
      rw [← Array.foldl_toList, Array.toList_zipIdx]
      simpa using hf
    have hcells : (Value.agg cs).cells = cs := rfl
    have hr : (Instr.buildSlice t 1 #[(0, .agg cs)]).run P w = .ok (.slice (some ⟨w.heap.size, 0, none⟩) 1 1) (w.alloc (.cells cs e)) := by
      simp [Instr.buildSlice, Sem.run_bind, run_underlying ht, sizeOf, typeInfo, hi, hs, hne, hnb, zeroValue, hz, Instr.fill, hcells, newRow, Result.andThen]
      simp at hf2
      rw [hf2]
    unfold Oper.wp execOp
    simp only [ho, Sem.run_bind]
    simp [hx, hr, Result.andThen]
    exact hK _ _ h
end
/-- The cells of a new block. -/
theorem new_cellsT (w : World) (cs : List Value) (t : TypeId) : ∀ j u, cs[j]? = some u → (w.alloc (.cells cs.toArray t)).cell? ((⟨w.heap.size, 0, none⟩ : Addr).add j) = some u := fun j u hu => by
  have hadd : (⟨w.heap.size, 0, none⟩ : Addr).add j = ⟨w.heap.size, j, none⟩ := by unfold Addr.add; split <;> simp_all
  rw [hadd, cell_of_row _ _ j _ t (0, 0) (heap_alloc_new w _)]
  simpa using hu
theorem all_one {cs : List Value} (h : ∀ u, u ∈ cs → u.oneCell' = true) : cs.toArray.all (·.oneCell') = true := by
  rw [Array.all_eq_true_iff_forall_mem]
  intro u hu
  exact h u (by simpa using hu)
end Go.Proofs.YthijagpnpcpcbaaGreat
namespace Go.Proofs.YthijagpnpcpcbaaGreat
open Go.RowKit Go.Sort
theorem wpQuiet_load_st {P : Program} {C : World → Prop} {ops : Array Oper} {rest : List Oper} {o : Oper} {a : Act} {Q : Act → Prop} (hgd : o.guard = none) (t : TypeId) (x : Operand) (ho : o.op = .load t x) (d : TypeDesc)
    (hu : P.underlying t = some d) (hd : d.isRow = true) (ad : Addr) (cs : List Value) (hi : (P.info? t).map (·.size) = some cs.length) (hx : a.eval x = .pointer (some ad)) (hc : ∀ w, C w → ∀ j u, cs[j]? = some u → w.cell? (ad.add j) = some u)
    (h : wpQuiet P ops C Q rest (a.put o.dst (.agg cs.toArray))) : wpQuiet P ops C Q (o :: rest) a := by
  refine wpQuiet_step fun K hK => ?_
  rw [if_pos (by simp [Region.wanted, hgd])]
  refine ⟨.agg cs.toArray, fun w hw => ?_, hK _ h⟩
  unfold Oper.quietAt execOp
  simp only [ho, hx, Sem.run_bind, run_loadAt_st w t d ad cs (hc w hw) hu hd hi, Result.andThen_ok]
  exact ⟨rfl, rfl⟩
/-- Blocks that there are. -/
def Lv (w : World) (k : Nat) : Prop := k < w.heap.size
theorem UIn.blw {w w' : World} {t : Uy} {d : DT} (h : UIn (Lv w) w t d) (hb : Below w.heap.size w w') : UIn (Lv w') w' t d := h.keep (fun k hk => hb.block k hk) fun _k hk => Nat.lt_of_lt_of_le hk hb.size
theorem DRow.below {w w' : World} {sz : Nat} {A : Option Addr} {cap : Nat} {l : List DT} (h : DRow (Lv w) w sz A cap l) (hb : Below w.heap.size w w') : DRow (Lv w') w' sz A cap l := h.keep (fun k hk => hb.block k hk) fun _k hk => Nat.lt_of_lt_of_le hk hb.size
theorem ulen1 {α : Type} : ∀ {l : List α}, l.length = 1 → ∃ a, l = [a]
  | [a], _ => ⟨a, rfl⟩
theorem ulen4 {α : Type} : ∀ {l : List α}, l.length = 4 → ∃ a b c d, l = [a, b, c, d]
  | [a, b, c, d], _ => ⟨a, b, c, d, rfl⟩
theorem DRow.len_le {S : Nat → Prop} {w : World} {sz : Nat} {A : Option Addr} {cap : Nat} {l : List DT} (h : DRow S w sz A cap l) : l.length ≤ 9223372036854775807 := by
  have h1 := h.1
  have h2 := h.2.1
  unfold maxLen at h2
  omega
theorem at_add {w : World} {q : Addr} {x : DT} (h : x.At w q) : ∀ (j : Nat) (u : Value), x.c[j]? = some u → w.cell? (q.add j) = some u := fun j u hu => by
  have := h j u hu
  unfold Addr.add
  exact this
/-- A value, taken apart. -/
theorem UIn.val {S : Nat → Prop} {w : World} {d : DT} (h : UIn S w .value d) : ∃ (k n sc : Int) (s : ByteArray) (A : Option Addr) (cap : Nat) (l : List DT), d = .node [.int .i64 k, .int .i64 n, .int .i64 sc, .string s, .slice A l.length cap] [l] ∧ (I64 k ∧ I64 n ∧ I64 sc ∧ s.size ≤ maxLen) ∧ DRow S w 5 A cap l ∧ ∀ x, x ∈ l → UIn S w .value x := by
  cases h with
  | mk _ c kk hl h1 hok hk hr hx =>
    obtain ⟨l, rfl⟩ := ulen1 hk
    obtain ⟨k, n, sc, s, v4, rfl, ok⟩ := hok
    obtain ⟨A, cap, e, r⟩ := hr 0 4 .value l rfl rfl
    simp at e
    subst e
    exact ⟨k, n, sc, s, A, cap, l, rfl, ok, r, hx 0 4 .value l rfl rfl⟩
theorem USm.val {k k2 n n2 sc sc2 : Int} {s s2 : ByteArray} {v v2 : Value} {l m : List DT} (h : USm .value (.node [.int .i64 k, .int .i64 n, .int .i64 sc, .string s, v] [l]) (.node [.int .i64 k2, .int .i64 n2, .int .i64 sc2, .string s2, v2] [m])) : k = k2 ∧ n = n2 ∧ sc = sc2 ∧ s = s2 ∧ USL .value l m := by
  cases h with
  | mk _ _ _ _ _ hc he hk hl hx =>
    have h0 := he 0 (by intro s hs; simp [Uy.sl] at hs)
    have h1 := he 1 (by intro s hs; simp [Uy.sl] at hs)
    have h2 := he 2 (by intro s hs; simp [Uy.sl] at hs)
    have h3 := he 3 (by intro s hs; simp [Uy.sl] at hs)
    simp at h0 h1 h2 h3
    exact ⟨h0, h1, h2, h3, hl 0 l m rfl rfl, hx 0 4 .value l m rfl rfl rfl⟩
theorem uSizeValue : (Tryz.prog.info? 27).map (·.size) = some 5 := by kernel_rfl
set_option maxRecDepth 100000 in
set_option maxHeartbeats 4000000 in
theorem rsameValue_sm : ∀ (x y : DT) (w : World), USm .value x y → UIn (Lv w) w .value x → UIn (Lv w) w .value y →
    Calls Tryz.prog 24 #[.agg x.c.toArray, .agg y.c.toArray] w fun e w' => e = .returned (.bool true) ∧ Below w.heap.size w w' := by
  refine DT.ind fun c kk ih y w hs hx hy => ?_
  obtain ⟨k, n, sc, s, A, cap, l, e, ok, rl, il⟩ := hx.val
  cases e
  obtain ⟨k2, n2, sc2, s2, A2, cap2, m, rfl, ok2, rm, im⟩ := hy.val
  obtain ⟨rfl, rfl, rfl, rfl, hlm⟩ := hs.val
  obtain ⟨len, hlen⟩ : ∃ q, l.length = q := ⟨_, rfl⟩
  have hlen2 : m.length = len := by rw [← hlm.1]; exact hlen
  have hll := rl.len_le
  have hih := Lib.hid (ih l (by simp))
  show Calls _ _ #[.agg #[.int .i64 k, .int .i64 n, .int .i64 sc, .string s, .slice A l.length cap], .agg #[.int .i64 k, .int .i64 n, .int .i64 sc, .string s, .slice A2 m.length cap2]] _ _
  rw [hlen] at hll ⊢
  rw [hlen2]
  obtain ⟨W0, hW0⟩ : ∃ W0, (w.alloc (.cells #[.int .i64 k, .int .i64 n, .int .i64 sc, .string s, .slice A len cap] 27)).alloc (.cells #[.int .i64 k, .int .i64 n, .int .i64 sc, .string s, .slice A2 len cap2] 27) = W0 := ⟨_, rfl⟩
  have hbw : Below w.heap.size w W0 := by rw [← hW0]; exact bel2 _ _ _
  have hz0 : W0.heap.size = w.heap.size + 2 := by rw [← hW0]; simp
  have p0 : W0.cell? ⟨w.heap.size, 0, none⟩ = some (.int .i64 k) := by rw [← hW0]; simp
  have p1 : W0.cell? ⟨w.heap.size, 1, none⟩ = some (.int .i64 n) := by rw [← hW0]; simp
  have p2 : W0.cell? ⟨w.heap.size, 2, none⟩ = some (.int .i64 sc) := by rw [← hW0]; simp
  have p3 : W0.cell? ⟨w.heap.size, 3, none⟩ = some (.string s) := by rw [← hW0]; simp
  have p4 : W0.cell? ⟨w.heap.size, 4, none⟩ = some (.slice A len cap) := by rw [← hW0]; simp
  have q0 : W0.cell? ⟨w.heap.size + 1, 0, none⟩ = some (.int .i64 k) := by rw [← hW0]; simp
  have q1 : W0.cell? ⟨w.heap.size + 1, 1, none⟩ = some (.int .i64 n) := by rw [← hW0]; simp
  have q2 : W0.cell? ⟨w.heap.size + 1, 2, none⟩ = some (.int .i64 sc) := by rw [← hW0]; simp
  have q3 : W0.cell? ⟨w.heap.size + 1, 3, none⟩ = some (.string s) := by rw [← hW0]; simp
  have q4 : W0.cell? ⟨w.heap.size + 1, 4, none⟩ = some (.slice A2 len cap2) := by rw [← hW0]; simp
  have hk4 : Hid (∀ W, Below W0.heap.size W0 W → W.cell? ⟨w.heap.size, 4, none⟩ = some (.slice A len cap) ∧ W.cell? ⟨w.heap.size + 1, 4, none⟩ = some (.slice A2 len cap2)) := fun W h =>
    ⟨(h.cell (p := ⟨w.heap.size, 4, none⟩) (by show w.heap.size < _; omega)).trans p4, (h.cell (p := ⟨w.heap.size + 1, 4, none⟩) (by show w.heap.size + 1 < _; omega)).trans q4⟩
  have HW0 := Lib.hid hW0
  have Hbw := Lib.hid hbw
  have Hz0 := Lib.hid hz0
  have Rl := Lib.hid rl
  have Rm := Lib.hid rm
  have Il := Lib.hid il
  have Im := Lib.hid im
  have Hlm := Lib.hid hlm
  have Hlen := Lib.hid hlen
  have Hlen2 := Lib.hid hlen2
  clear hW0 hbw hz0 rl rm il im hlm hlen hlen2 ih hx hy hs ok ok2
  go_enter Tryz.func24, Tryz.ntmps24
  go_upto_region 1 with (fail)
  rw [HW0.out]
  go_wp2
  clear p0 p1 p2 p3 p4 q0 q1 q2 q3 q4
  go_loopw [44] (fun i wr => ∃ j : Nat, j ≤ len ∧ i = .int .i64 j ∧ Below W0.heap.size W0 wr) (fun i _ => len - (intOf i).toNat)
  case atStart => exact ⟨0, Nat.zero_le _, rfl, Below.refl _ _⟩
  case round =>
    obtain ⟨j, hj, rfl, hbr⟩ := hrel
    have Hbr := Lib.hid hbr
    have hzr : Below w.heap.size w wr := Hbw.out.trans (hbr.mono (by have := Hz0.out; omega))
    clear hbr
    by_cases hlt : j < len
    · obtain ⟨x, ad, hx, rfl, hb, hat⟩ := (Rl.out.below hzr).get (show j < l.length by rw [Hlen.out]; exact hlt)
      obtain ⟨y, ad2, hy, rfl, hb2, hat2⟩ := (Rm.out.below hzr).get (show j < m.length by rw [Hlen2.out]; exact hlt)
      have hxi := (Il.out x (mem_of_get? hx)).blw hzr
      have hyi := (Im.out y (mem_of_get? hy)).blw hzr
      have hsz1 : Hid ((Tryz.prog.info? 27).map (·.size) = some x.c.length) := by show _ = _; rw [hxi.len]; exact uSizeValue
      have hsz2 : Hid ((Tryz.prog.info? 27).map (·.size) = some y.c.length) := by show _ = _; rw [hyi.len]; exact uSizeValue
      have hcm : Hid (∀ d os, Calls Tryz.prog 24 #[.agg x.c.toArray, .agg y.c.toArray] (grow (redrawn wr d) os) fun e w'' => e = .returned (.bool true) ∧ ∃ p : Regrown, w'' = grow (redrawn wr p.d) p.os) := fun d os =>
        Calls.regrown_of (hih.out x (mem_of_get? hx) y _ (Hlm.out.2 j x y hx hy) (hxi.blw (below_regrown wr d os)) (hyi.blw (below_regrown wr d os)))
      have l1 : Hid (∀ W, (∃ p : Regrown, W = grow (redrawn wr p.d) p.os) → ∀ i u, x.c[i]? = some u → W.cell? ((ad.add (j * 5)).add i) = some u) := fun W ⟨p, e⟩ i u hu => by rw [e]; exact cell_regrown (at_add hat i u hu) _ _
      have l2 : Hid (∀ W, (∃ p : Regrown, W = grow (redrawn wr p.d) p.os) → ∀ i u, y.c[i]? = some u → W.cell? ((ad2.add (j * 5)).add i) = some u) := fun W ⟨p, e⟩ i u hu => by rw [e]; exact cell_regrown (at_add hat2 i u hu) _ _
      obtain ⟨c1, c2⟩ := hk4.out wr Hbr.out
      have k1 := cell_regrown c1
      have k2 := cell_regrown c2
      clear hx hy hat hat2 hxi hyi c1 c2
      go_upto_region 6 with (fail)
      refine wp_region_quiet_below (by kernel_rfl) (by kernel_rfl) ?_
      repeat (first
        | (refine wpQuiet_load_st rfl 27 _ rfl _ Tryz.underlying27 rfl (ad.add (j * 5)) x.c hsz1.out rfl l1.out ?_)
        | (refine wpQuiet_load_st rfl 27 _ rfl _ Tryz.underlying27 rfl (ad2.add (j * 5)) y.c hsz2.out rfl l2.out ?_)
        | quiet_step (with_reducible first | exact hcm.out _ _))
      refine wpQuiet_nil ?_
      intro _ hw'
      obtain ⟨⟨dq, osq⟩, hw''⟩ := hw'
      subst hw''
      have hb3 := below_regrown wr dq osq
      have hw1 : Sort.grow (redrawn wr (Regrown.mk dq osq).d) (Regrown.mk dq osq).os = Sort.grow (redrawn wr dq) osq := rfl
      rw [hw1]
      clear hw1 k1 k2 hcm l1 l2
      generalize Sort.grow (redrawn wr dq) osq = W2 at hb3 ⊢
      go_wp2
      go_roundw
      case rel => exact ⟨j + 1, by omega, by go_num, Hbr.out.trans (hb3.mono Hbr.out.size)⟩
      case measure => simp [intOf]; omega
    · obtain rfl : j = len := by omega
      go_wp2
      go_ret
      exact ⟨rfl, hzr⟩
end Go.Proofs.YthijagpnpcpcbaaGreat

