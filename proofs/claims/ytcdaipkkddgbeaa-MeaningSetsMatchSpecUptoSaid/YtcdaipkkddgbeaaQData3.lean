/-
  Plain data: a Go value (api.Value) and a Go type (api.Type, with its api.Field) as trees, and what it means that they lie in memory.
  Small facts on cells of new blocks.
  What lies in memory, taken apart.
  Lists of types, rows of values, tables.
-/
import Derived.WalkKit
import Derived.Laws.Rows
namespace Go.Proofs.Ytcdaipkkddgbeaa
open Go.RowKit

def I64 (n : Int) : Prop := -9223372036854775808 ≤ n ∧ n ≤ 9223372036854775807

theorem block_add (a : Addr) (n : Nat) : (a.add n).block = a.block := by unfold Addr.add; split <;> rfl

/-- The blocks below B are in w' as they were in w. -/
def Same (B : Nat) (w w' : World) : Prop := ∀ k, k < B → w'.heap[k]? = w.heap[k]?
theorem Same.refl (B : Nat) (w : World) : Same B w w := fun _ _ => rfl
theorem Same.trans {B : Nat} {a b c : World} (h : Same B a b) (h' : Same B b c) : Same B a c := fun k hk => (h' k hk).trans (h k hk)
theorem Same.mono {B B' : Nat} {a b : World} (h : Same B a b) (hB : B' ≤ B) : Same B' a b := fun k hk => h k (by omega)
theorem Same.cell {B : Nat} {w w' : World} (h : Same B w w') {p : Addr} (hp : p.block < B) : w'.cell? p = w.cell? p := World.cell?_of_block (w := w) (h p.block hp)
theorem Same.frozen {B : Nat} {w w' : World} (h : Same B w w') {p : Addr} (hp : p.block < B) : w'.frozen? p = w.frozen? p := World.frozen?_of_block (w := w) (h p.block hp)
theorem Same.of_below {B : Nat} {w w' : World} (h : Below B w w') : Same B w w' := fun k hk => h.block k hk
theorem Same.alloc {B : Nat} {a w : World} (h : Same B a w) (hB : B ≤ w.heap.size) (o : Obj) : Same B a (w.alloc o) :=
  h.trans fun k hk => Below.heap_alloc _ _ _ (by omega)
theorem Same.setCell {B : Nat} {a w : World} (h : Same B a w) {p : Addr} (hp : B ≤ p.block) (u : Value) : Same B a (w.setCell p u) :=
  h.trans fun k hk => Below.heap_setCell _ _ _ _ (by omega)

/-- w' is w with new blocks and with writes to block g alone. -/
structure Ch (g : Nat) (w w' : World) : Prop where
  os : w'.os = w.os
  tape : w'.tape = w.tape
  output : w'.output = w.output
  size : w.heap.size ≤ w'.heap.size
  block : ∀ k, k < w.heap.size → k ≠ g → w'.heap[k]? = w.heap[k]?
theorem Ch.refl (g : Nat) (w : World) : Ch g w w := ⟨rfl, rfl, rfl, Nat.le_refl _, fun _ _ _ => rfl⟩
theorem Ch.trans {g : Nat} {a b c : World} (h : Ch g a b) (h' : Ch g b c) : Ch g a c :=
  ⟨h'.os.trans h.os, h'.tape.trans h.tape, h'.output.trans h.output, Nat.le_trans h.size h'.size,
    fun k hk hg => (h'.block k (Nat.lt_of_lt_of_le hk h.size) hg).trans (h.block k hk hg)⟩
theorem Ch.of_below {g : Nat} {w w' : World} (h : Below w.heap.size w w') : Ch g w w' := ⟨h.os, h.tape, h.output, h.size, fun k hk _ => h.block k hk⟩
theorem Ch.alloc {g : Nat} {a w : World} (h : Ch g a w) (o : Obj) : Ch g a (w.alloc o) :=
  h.trans ⟨rfl, rfl, rfl, by simp, fun k hk _ => Below.heap_alloc _ _ _ hk⟩
theorem Ch.setCell {g : Nat} {a w : World} (h : Ch g a w) (o : Nat) (u : Value) : Ch g a (w.setCell ⟨g, o, none⟩ u) :=
  h.trans ⟨rfl, rfl, rfl, by simp [World.setCell], fun k _ hg => Below.heap_setCell _ _ _ _ hg⟩
theorem Ch.drew {g : Nat} {a w : World} (h : Ch g a w) : Ch g a w.drew := ⟨h.os, h.tape, h.output, h.size, h.block⟩
theorem Ch.same {g B : Nat} {w w' : World} (h : Ch g w w') (hB : B ≤ w.heap.size) (hg : B ≤ g) : Same B w w' := fun k hk => h.block k (by omega) (by omega)
/-- What was written lies above all that was there. -/
theorem Ch.below {g : Nat} {w w' : World} (h : Ch g w w') (hg : w.heap.size ≤ g) : Below w.heap.size w w' := ⟨h.os, h.tape, h.output, h.size, fun k hk => h.block k hk (by omega)⟩
theorem Ch.cell {g : Nat} {w w' : World} (h : Ch g w w') {p : Addr} (hp : p.block < w.heap.size) (hg : p.block ≠ g) : w'.cell? p = w.cell? p := World.cell?_of_block (w := w) (h.block p.block hp hg)
theorem Ch.frozen {g : Nat} {w w' : World} (h : Ch g w w') {p : Addr} (hp : p.block < w.heap.size) (hg : p.block ≠ g) : w'.frozen? p = w.frozen? p := World.frozen?_of_block (w := w) (h.block p.block hp hg)
/-- A call that was made in a world with more blocks, and left the first ones alone. -/
theorem Ch.then_below {g : Nat} {a w w' : World} (h : Ch g a w) (h' : Below w.heap.size w w') : Ch g a w' := h.trans (Ch.of_below h')

/-- One number in a block of its own. -/
def One (w : World) (g : Nat) (c : Int) : Prop := ∃ t, w.heap[g]? = some (.cells #[.int .i64 c] t (0, 0))
theorem One.cell {w : World} {g : Nat} {c : Int} (h : One w g c) : w.cell? ⟨g, 0, none⟩ = some (.int .i64 c) := by
  obtain ⟨t, h⟩ := h
  simp [World.cell?, h]
theorem One.frozen {w : World} {g : Nat} {c : Int} (h : One w g c) : w.frozen? ⟨g, 0, none⟩ = false := by
  obtain ⟨t, h⟩ := h
  simp [World.frozen?, h]
theorem One.lt {w : World} {g : Nat} {c : Int} (h : One w g c) : g < w.heap.size := by
  obtain ⟨t, h⟩ := h
  rcases Nat.lt_or_ge g w.heap.size with hlt | hge
  · exact hlt
  · rw [Array.getElem?_eq_none hge] at h; cases h
theorem One.new (w : World) (t : TypeId) (c : Int) : One (w.alloc (.cells #[.int .i64 c] t)) w.heap.size c := ⟨t, heap_alloc_new w _⟩
theorem One.alloc {w : World} {g : Nat} {c : Int} (h : One w g c) (o : Obj) : One (w.alloc o) g c := by
  have hl := h.lt
  obtain ⟨t, h⟩ := h
  exact ⟨t, (Below.heap_alloc w o g hl).trans h⟩
theorem One.keep {w w' : World} {g : Nat} {c : Int} (h : One w g c) (he : w'.heap[g]? = w.heap[g]?) : One w' g c := by
  obtain ⟨t, h⟩ := h
  exact ⟨t, he.trans h⟩
theorem One.below {w w' : World} {g : Nat} {c : Int} (h : One w g c) (hb : Below w.heap.size w w') : One w' g c := h.keep (hb.block g h.lt)
theorem One.set {w : World} {g : Nat} {c : Int} (h : One w g c) (d : Int) : One (w.setCell ⟨g, 0, none⟩ (.int .i64 d)) g d := by
  obtain ⟨t, h⟩ := h
  refine ⟨t, ?_⟩
  simp [World.setCell, Array.getElem?_modify, h]

/-! ## Values -/
structure VP where
  k : Int
  n : Int
  sc : Int
  s : ByteArray
  A : Option Addr
  cap : Nat

inductive VT where
  | node (a : VP) (l : List VT)

def VT.a : VT → VP
  | .node a _ => a
def VT.l : VT → List VT
  | .node _ l => l

theorem VT.a_node (a : VP) (l : List VT) : (VT.node a l).a = a := rfl
theorem VT.l_node (a : VP) (l : List VT) : (VT.node a l).l = l := rfl

theorem VT.ind {P : VT → Prop} (h : ∀ a l, (∀ x, x ∈ l → P x) → P (.node a l)) : ∀ v, P v
  | .node a l => h a l fun x hx => by
      have : SizeOf.sizeOf x < SizeOf.sizeOf (VT.node a l) := by
        have := List.sizeOf_lt_of_mem hx
        simp only [VT.node.sizeOf_spec]
        omega
      exact VT.ind h x
termination_by v => SizeOf.sizeOf v

/-- The five cells of a value lie at q. -/
def VT.At (w : World) (q : Addr) (x : VT) : Prop :=
  w.cell? q = some (.int .i64 x.a.k) ∧ w.cell? ⟨q.block, q.off + 1, none⟩ = some (.int .i64 x.a.n) ∧ w.cell? ⟨q.block, q.off + 2, none⟩ = some (.int .i64 x.a.sc) ∧
  w.cell? ⟨q.block, q.off + 3, none⟩ = some (.string x.a.s) ∧ w.cell? ⟨q.block, q.off + 4, none⟩ = some (.slice x.a.A x.l.length x.a.cap)
def VT.Row (B : Nat) (w : World) (A : Option Addr) (cap : Nat) (l : List VT) : Prop :=
  l.length ≤ cap ∧ cap ≤ maxLen ∧ ∀ (i : Nat) (x : VT), l[i]? = some x → ∃ ad : Addr, A = some ad ∧ ad.block < B ∧ x.At w (ad.add (i * 5))
inductive VT.In (B : Nat) (w : World) : VT → Prop
  | mk (k n sc : Int) (s : ByteArray) (A : Option Addr) (cap : Nat) (l : List VT) (hk : I64 k) (hn : I64 n) (hsc : I64 sc) (hs : s.size ≤ maxLen)
      (hr : VT.Row B w A cap l) (hl : ∀ x, x ∈ l → VT.In B w x) : VT.In B w (.node ⟨k, n, sc, s, A, cap⟩ l)
/-- A slice of values. -/
def VT.Rows (B : Nat) (w : World) (A : Option Addr) (cap : Nat) (l : List VT) : Prop := VT.Row B w A cap l ∧ ∀ x, x ∈ l → VT.In B w x

theorem VT.At.keep {B : Nat} {w w' : World} {q : Addr} {x : VT} (h : x.At w q) (hs : Same B w w') (hq : q.block < B) : x.At w' q := by
  obtain ⟨h0, h1, h2, h3, h4⟩ := h
  exact ⟨(hs.cell hq).trans h0, (hs.cell (p := ⟨q.block, q.off + 1, none⟩) hq).trans h1, (hs.cell (p := ⟨q.block, q.off + 2, none⟩) hq).trans h2,
    (hs.cell (p := ⟨q.block, q.off + 3, none⟩) hq).trans h3, (hs.cell (p := ⟨q.block, q.off + 4, none⟩) hq).trans h4⟩
theorem VT.Row.keep {B : Nat} {w w' : World} {A : Option Addr} {cap : Nat} {l : List VT} (h : VT.Row B w A cap l) (hs : Same B w w') : VT.Row B w' A cap l := by
  refine ⟨h.1, h.2.1, fun i x hx => ?_⟩
  obtain ⟨ad, e, hb, hat⟩ := h.2.2 i x hx
  exact ⟨ad, e, hb, hat.keep hs (by rw [block_add]; exact hb)⟩
theorem VT.In.keep {B : Nat} {w w' : World} {v : VT} (h : VT.In B w v) (hs : Same B w w') : VT.In B w' v := by
  induction h with
  | mk k n sc s A cap l hk hn hsc hs' hr hl ih => exact .mk k n sc s A cap l hk hn hsc hs' (hr.keep hs) ih
theorem VT.Rows.keep {B : Nat} {w w' : World} {A : Option Addr} {cap : Nat} {l : List VT} (h : VT.Rows B w A cap l) (hs : Same B w w') : VT.Rows B w' A cap l :=
  ⟨h.1.keep hs, fun x hx => (h.2 x hx).keep hs⟩
theorem VT.Row.more {B B' : Nat} {w : World} {A : Option Addr} {cap : Nat} {l : List VT} (h : VT.Row B w A cap l) (hB : B ≤ B') : VT.Row B' w A cap l := by
  refine ⟨h.1, h.2.1, fun i x hx => ?_⟩
  obtain ⟨ad, e, hb, hat⟩ := h.2.2 i x hx
  exact ⟨ad, e, by omega, hat⟩
theorem VT.In.more {B B' : Nat} {w : World} {v : VT} (h : VT.In B w v) (hB : B ≤ B') : VT.In B' w v := by
  induction h with
  | mk k n sc s A cap l hk hn hsc hs' hr hl ih => exact .mk k n sc s A cap l hk hn hsc hs' (hr.more hB) ih

theorem VT.Row.get {B : Nat} {w : World} {A : Option Addr} {cap : Nat} {l : List VT} (h : VT.Row B w A cap l) {i : Nat} (hi : i < l.length) :
    ∃ (x : VT) (ad : Addr), l[i]? = some x ∧ A = some ad ∧ ad.block < B ∧ x.At w (ad.add (i * 5)) := by
  obtain ⟨ad, e, hb, hat⟩ := h.2.2 i l[i] (List.getElem?_eq_getElem hi)
  exact ⟨l[i], ad, List.getElem?_eq_getElem hi, e, hb, hat⟩
theorem mem_of_get? {α : Type} {l : List α} {i : Nat} {x : α} (h : l[i]? = some x) : x ∈ l := List.mem_of_getElem? h
theorem drop_of_get? {α : Type} {l : List α} {i : Nat} {x : α} (h : l[i]? = some x) : l.drop i = x :: l.drop (i + 1) := by
  obtain ⟨hi, rfl⟩ := List.getElem?_eq_some_iff.1 h
  exact List.drop_eq_getElem_cons hi

/-! ## Types -/
structure FP where
  id : Int
  nm : ByteArray
  nd : Bool
  k : Int
  sc : Int
  A : Option Addr
  cap : Nat

/-- A field with its type. A type alone is a field of which only the type is looked at. -/
inductive FT where
  | node (a : FP) (l : List FT)
def FT.a : FT → FP
  | .node a _ => a
def FT.l : FT → List FT
  | .node _ l => l

theorem FT.a_node (a : FP) (l : List FT) : (FT.node a l).a = a := rfl
theorem FT.l_node (a : FP) (l : List FT) : (FT.node a l).l = l := rfl

theorem FT.ind {P : FT → Prop} (h : ∀ a l, (∀ x, x ∈ l → P x) → P (.node a l)) : ∀ v, P v
  | .node a l => h a l fun x hx => by
      have : SizeOf.sizeOf x < SizeOf.sizeOf (FT.node a l) := by
        have := List.sizeOf_lt_of_mem hx
        simp only [FT.node.sizeOf_spec]
        omega
      exact FT.ind h x
termination_by v => SizeOf.sizeOf v

def FT.At (w : World) (q : Addr) (x : FT) : Prop :=
  w.cell? q = some (.int .i64 x.a.id) ∧ w.cell? ⟨q.block, q.off + 1, none⟩ = some (.string x.a.nm) ∧ w.cell? ⟨q.block, q.off + 2, none⟩ = some (.bool x.a.nd) ∧
  w.cell? ⟨q.block, q.off + 3, none⟩ = some (.int .i64 x.a.k) ∧ w.cell? ⟨q.block, q.off + 4, none⟩ = some (.int .i64 x.a.sc) ∧ w.cell? ⟨q.block, q.off + 5, none⟩ = some (.slice x.a.A x.l.length x.a.cap)
def FT.Row (B : Nat) (w : World) (A : Option Addr) (cap : Nat) (l : List FT) : Prop :=
  l.length ≤ cap ∧ cap ≤ maxLen ∧ ∀ (i : Nat) (x : FT), l[i]? = some x → ∃ ad : Addr, A = some ad ∧ ad.block < B ∧ x.At w (ad.add (i * 6))
inductive FT.In (B : Nat) (w : World) : FT → Prop
  | mk (id : Int) (nm : ByteArray) (nd : Bool) (k sc : Int) (A : Option Addr) (cap : Nat) (l : List FT) (hid : I64 id) (hnm : nm.size ≤ maxLen) (hk : I64 k) (hsc : I64 sc)
      (hr : FT.Row B w A cap l) (hl : ∀ x, x ∈ l → FT.In B w x) : FT.In B w (.node ⟨id, nm, nd, k, sc, A, cap⟩ l)
theorem FT.At.keep {B : Nat} {w w' : World} {q : Addr} {x : FT} (h : x.At w q) (hs : Same B w w') (hq : q.block < B) : x.At w' q := by
  obtain ⟨h0, h1, h2, h3, h4, h5⟩ := h
  exact ⟨(hs.cell hq).trans h0, (hs.cell (p := ⟨q.block, q.off + 1, none⟩) hq).trans h1, (hs.cell (p := ⟨q.block, q.off + 2, none⟩) hq).trans h2,
    (hs.cell (p := ⟨q.block, q.off + 3, none⟩) hq).trans h3, (hs.cell (p := ⟨q.block, q.off + 4, none⟩) hq).trans h4, (hs.cell (p := ⟨q.block, q.off + 5, none⟩) hq).trans h5⟩
theorem FT.Row.keep {B : Nat} {w w' : World} {A : Option Addr} {cap : Nat} {l : List FT} (h : FT.Row B w A cap l) (hs : Same B w w') : FT.Row B w' A cap l := by
  refine ⟨h.1, h.2.1, fun i x hx => ?_⟩
  obtain ⟨ad, e, hb, hat⟩ := h.2.2 i x hx
  exact ⟨ad, e, hb, hat.keep hs (by rw [block_add]; exact hb)⟩
theorem FT.In.keep {B : Nat} {w w' : World} {v : FT} (h : FT.In B w v) (hs : Same B w w') : FT.In B w' v := by
  induction h with
  | mk id nm nd k sc A cap l hid hnm hk hsc hr hl ih => exact .mk id nm nd k sc A cap l hid hnm hk hsc (hr.keep hs) ih
theorem FT.Row.more {B B' : Nat} {w : World} {A : Option Addr} {cap : Nat} {l : List FT} (h : FT.Row B w A cap l) (hB : B ≤ B') : FT.Row B' w A cap l := by
  refine ⟨h.1, h.2.1, fun i x hx => ?_⟩
  obtain ⟨ad, e, hb, hat⟩ := h.2.2 i x hx
  exact ⟨ad, e, by omega, hat⟩
theorem FT.In.more {B B' : Nat} {w : World} {v : FT} (h : FT.In B w v) (hB : B ≤ B') : FT.In B' w v := by
  induction h with
  | mk id nm nd k sc A cap l hid hnm hk hsc hr hl ih => exact .mk id nm nd k sc A cap l hid hnm hk hsc (hr.more hB) ih
theorem FT.Row.get {B : Nat} {w : World} {A : Option Addr} {cap : Nat} {l : List FT} (h : FT.Row B w A cap l) {i : Nat} (hi : i < l.length) :
    ∃ (x : FT) (ad : Addr), l[i]? = some x ∧ A = some ad ∧ ad.block < B ∧ x.At w (ad.add (i * 6)) := by
  obtain ⟨ad, e, hb, hat⟩ := h.2.2 i l[i] (List.getElem?_eq_getElem hi)
  exact ⟨l[i], ad, List.getElem?_eq_getElem hi, e, hb, hat⟩
end Go.Proofs.Ytcdaipkkddgbeaa
namespace Go.Proofs.Ytcdaipkkddgbeaa
open Go.RowKit
theorem cell_new (w : World) (cs : Array Value) (t : TypeId) (i : Nat) : (w.alloc (.cells cs t)).cell? ⟨w.heap.size, i, none⟩ = cs[i]? := by
  have h : (w.alloc (.cells cs t)).heap[w.heap.size]? = some (.cells cs t (0, 0)) := heap_alloc_new w _
  exact cell_of_row _ _ _ _ _ _ h
theorem size_setCell (w : World) (a : Addr) (v : Value) : (w.setCell a v).heap.size = w.heap.size := by simp [World.setCell]
theorem cell_new_set (w : World) (a : Addr) (v : Value) (cs : Array Value) (t : TypeId) (i : Nat) : ((w.setCell a v).alloc (.cells cs t)).cell? ⟨w.heap.size, i, none⟩ = cs[i]? := by
  have := cell_new (w.setCell a v) cs t i
  rwa [size_setCell] at this
end Go.Proofs.Ytcdaipkkddgbeaa
namespace Go.Proofs.Ytcdaipkkddgbeaa
open Go.RowKit
theorem VT.In.parts {B : Nat} {w : World} {a : VP} {l : List VT} (h : VT.In B w (.node a l)) : I64 a.k ∧ I64 a.n ∧ I64 a.sc ∧ a.s.size ≤ maxLen ∧ VT.Row B w a.A a.cap l ∧ ∀ x, x ∈ l → VT.In B w x := by
  cases h
  exact ⟨by assumption, by assumption, by assumption, by assumption, by assumption, by assumption⟩
theorem FT.In.parts {B : Nat} {w : World} {a : FP} {l : List FT} (h : FT.In B w (.node a l)) : I64 a.id ∧ a.nm.size ≤ maxLen ∧ I64 a.k ∧ I64 a.sc ∧ FT.Row B w a.A a.cap l ∧ ∀ x, x ∈ l → FT.In B w x := by
  cases h
  exact ⟨by assumption, by assumption, by assumption, by assumption, by assumption, by assumption⟩
theorem bel1 (w : World) (o : Obj) : Below w.heap.size w (w.alloc o) := (Below.refl _ _).alloc (Nat.le_refl _) _
theorem bel2 (w : World) (o o2 : Obj) : Below w.heap.size w ((w.alloc o).alloc o2) := (bel1 w o).alloc (by simp) _
theorem bel3 (w : World) (o o2 o3 : Obj) : Below w.heap.size w (((w.alloc o).alloc o2).alloc o3) := (bel2 w o o2).alloc (by simp; omega) _
theorem cell_lt {w : World} {p : Addr} {v : Value} (h : w.cell? p = some v) : p.block < w.heap.size := by
  rcases Nat.lt_or_ge p.block w.heap.size with h' | h'
  · exact h'
  · simp [World.cell?, Array.getElem?_eq_none h'] at h
theorem cell_old {w : World} {p : Addr} {v : Value} (h : w.cell? p = some v) (o : Obj) : (w.alloc o).cell? p = some v := (World.cell?_alloc_lt w o p (cell_lt h)).trans h
end Go.Proofs.Ytcdaipkkddgbeaa
namespace Go.Proofs.Ytcdaipkkddgbeaa
open Go.RowKit
/-- The three cells of a type lie at q. -/
def FT.TAt (w : World) (q : Addr) (x : FT) : Prop :=
  w.cell? q = some (.int .i64 x.a.k) ∧ w.cell? ⟨q.block, q.off + 1, none⟩ = some (.int .i64 x.a.sc) ∧ w.cell? ⟨q.block, q.off + 2, none⟩ = some (.slice x.a.A x.l.length x.a.cap)
/-- A slice of types. -/
def FT.TRow (B : Nat) (w : World) (A : Option Addr) (cap : Nat) (l : List FT) : Prop :=
  l.length ≤ cap ∧ cap ≤ maxLen ∧ (∀ x, x ∈ l → FT.In B w x) ∧ ∀ (i : Nat) (x : FT), l[i]? = some x → ∃ ad : Addr, A = some ad ∧ ad.block < B ∧ x.TAt w (ad.add (i * 3))
theorem FT.TAt.keep {B : Nat} {w w' : World} {q : Addr} {x : FT} (h : x.TAt w q) (hs : Same B w w') (hq : q.block < B) : x.TAt w' q := by
  obtain ⟨h0, h1, h2⟩ := h
  exact ⟨(hs.cell hq).trans h0, (hs.cell (p := ⟨q.block, q.off + 1, none⟩) hq).trans h1, (hs.cell (p := ⟨q.block, q.off + 2, none⟩) hq).trans h2⟩
theorem FT.TRow.keep {B : Nat} {w w' : World} {A : Option Addr} {cap : Nat} {l : List FT} (h : FT.TRow B w A cap l) (hs : Same B w w') : FT.TRow B w' A cap l := by
  refine ⟨h.1, h.2.1, fun x hx => (h.2.2.1 x hx).keep hs, fun i x hx => ?_⟩
  obtain ⟨ad, e, hb, hat⟩ := h.2.2.2 i x hx
  exact ⟨ad, e, hb, hat.keep hs (by rw [block_add]; exact hb)⟩
theorem FT.TRow.get {B : Nat} {w : World} {A : Option Addr} {cap : Nat} {l : List FT} (h : FT.TRow B w A cap l) {i : Nat} (hi : i < l.length) :
    ∃ (x : FT) (ad : Addr), l[i]? = some x ∧ A = some ad ∧ ad.block < B ∧ x.TAt w (ad.add (i * 3)) := by
  obtain ⟨ad, e, hb, hat⟩ := h.2.2.2 i l[i] (List.getElem?_eq_getElem hi)
  exact ⟨l[i], ad, List.getElem?_eq_getElem hi, e, hb, hat⟩
/-- A slice of rows: of a row only its slice is looked at. -/
def VT.RRow (B : Nat) (w : World) (A : Option Addr) (cap : Nat) (l : List VT) : Prop :=
  l.length ≤ cap ∧ cap ≤ maxLen ∧ (∀ x, x ∈ l → VT.Rows B w x.a.A x.a.cap x.l) ∧ ∀ (i : Nat) (x : VT), l[i]? = some x → ∃ ad : Addr, A = some ad ∧ ad.block < B ∧ w.cell? (ad.add i) = some (.slice x.a.A x.l.length x.a.cap)
theorem VT.RRow.keep {B : Nat} {w w' : World} {A : Option Addr} {cap : Nat} {l : List VT} (h : VT.RRow B w A cap l) (hs : Same B w w') : VT.RRow B w' A cap l := by
  refine ⟨h.1, h.2.1, fun x hx => (h.2.2.1 x hx).keep hs, fun i x hx => ?_⟩
  obtain ⟨ad, e, hb, hat⟩ := h.2.2.2 i x hx
  exact ⟨ad, e, hb, (hs.cell (by rw [block_add]; exact hb)).trans hat⟩
theorem VT.RRow.get {B : Nat} {w : World} {A : Option Addr} {cap : Nat} {l : List VT} (h : VT.RRow B w A cap l) {i : Nat} (hi : i < l.length) :
    ∃ (x : VT) (ad : Addr), l[i]? = some x ∧ A = some ad ∧ ad.block < B ∧ w.cell? (ad.add i) = some (.slice x.a.A x.l.length x.a.cap) := by
  obtain ⟨ad, e, hb, hat⟩ := h.2.2.2 i l[i] (List.getElem?_eq_getElem hi)
  exact ⟨l[i], ad, List.getElem?_eq_getElem hi, e, hb, hat⟩
/-- A table. -/
structure ST where
  nm : ByteArray
  TA : Option Addr
  tcap : Nat
  ts : List FT
  RA : Option Addr
  rcap : Nat
  rs : List VT
structure ST.In (B : Nat) (w : World) (s : ST) : Prop where
  nm : s.nm.size ≤ maxLen
  ts : FT.TRow B w s.TA s.tcap s.ts
  rs : VT.RRow B w s.RA s.rcap s.rs
def ST.At (w : World) (q : Addr) (x : ST) : Prop :=
  w.cell? q = some (.string x.nm) ∧ w.cell? ⟨q.block, q.off + 1, none⟩ = some (.slice x.TA x.ts.length x.tcap) ∧ w.cell? ⟨q.block, q.off + 2, none⟩ = some (.slice x.RA x.rs.length x.rcap)
def ST.Row (B : Nat) (w : World) (A : Option Addr) (cap : Nat) (l : List ST) : Prop :=
  l.length ≤ cap ∧ cap ≤ maxLen ∧ ∀ (i : Nat) (x : ST), l[i]? = some x → ∃ ad : Addr, A = some ad ∧ ad.block < B ∧ x.At w (ad.add (i * 3))
theorem ST.In.keep {B : Nat} {w w' : World} {s : ST} (h : ST.In B w s) (hs : Same B w w') : ST.In B w' s := ⟨h.nm, h.ts.keep hs, h.rs.keep hs⟩
theorem ST.At.keep {B : Nat} {w w' : World} {q : Addr} {x : ST} (h : x.At w q) (hs : Same B w w') (hq : q.block < B) : x.At w' q := by
  obtain ⟨h0, h1, h2⟩ := h
  exact ⟨(hs.cell hq).trans h0, (hs.cell (p := ⟨q.block, q.off + 1, none⟩) hq).trans h1, (hs.cell (p := ⟨q.block, q.off + 2, none⟩) hq).trans h2⟩
theorem ST.Row.keep {B : Nat} {w w' : World} {A : Option Addr} {cap : Nat} {l : List ST} (h : ST.Row B w A cap l) (hs : Same B w w') : ST.Row B w' A cap l := by
  refine ⟨h.1, h.2.1, fun i x hx => ?_⟩
  obtain ⟨ad, e, hb, hat⟩ := h.2.2 i x hx
  exact ⟨ad, e, hb, hat.keep hs (by rw [block_add]; exact hb)⟩
theorem ST.Row.get {B : Nat} {w : World} {A : Option Addr} {cap : Nat} {l : List ST} (h : ST.Row B w A cap l) {i : Nat} (hi : i < l.length) :
    ∃ (x : ST) (ad : Addr), l[i]? = some x ∧ A = some ad ∧ ad.block < B ∧ x.At w (ad.add (i * 3)) := by
  obtain ⟨ad, e, hb, hat⟩ := h.2.2 i l[i] (List.getElem?_eq_getElem hi)
  exact ⟨l[i], ad, List.getElem?_eq_getElem hi, e, hb, hat⟩
end Go.Proofs.Ytcdaipkkddgbeaa
