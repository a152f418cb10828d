/-
  Lists that grow: what stays as it is. Rows of cells, of structs. (Out of WideA, NewA, BatD, whose texts have these too: import one or the other.)
  Steps through a region that draws its order and has guards: the guard first, by computing.
  Plain functions: what the checks of types and values come to. No program stands here.
  The reference of package value: numbers within bounds.
  Values and types that are the same but for where they lie. No program stands here.
  Package value: Copy. Copies in new memory.
  Package value: Copy, the walk.
-/
import Derived.Test.YthijagpnpcpcbaaGreatQGtB
import Derived.Test.YthijagpnpcpcbaaGreatProg
import Derived.Lib.Hide
import Derived.Deep.Heap
import Derived.OwnWalk
import Derived.WalkKit
import Derived.StillTailTactics
import Derived.Lib.ValidU
import Derived.WalkLawsBesides
import Derived.WalkSpells
import Derived.Outline
import Derived.Deep.QuietTactic
import Derived.BigQuiet
namespace Go.Proofs.YthijagpnpcpcbaaGreat
open Go.RowKit
/-- A slice of things that take one cell each. -/
def CRow {α : Type} (f : α → Value) (B : Nat) (w : World) (A : Option Addr) (cap : Nat) (l : List α) : Prop :=
  l.length ≤ cap ∧ cap ≤ maxLen ∧ ∀ (i : Nat) (x : α), l[i]? = some x → ∃ ad : Addr, A = some ad ∧ ad.block < B ∧ w.cell? (ad.add i) = some (f x)
theorem CRow.keep {α : Type} {f : α → Value} {B : Nat} {w w' : World} {A : Option Addr} {cap : Nat} {l : List α} (h : CRow f B w A cap l) (hs : Same B w w') : CRow f B w' A cap l := by
  refine ⟨h.1, h.2.1, fun i x hx => ?_⟩
  obtain ⟨ad, e, hb, hat⟩ := h.2.2 i x hx
  exact ⟨ad, e, hb, (hs.cell (by rw [block_add]; exact hb)).trans hat⟩
theorem CRow.more {α : Type} {f : α → Value} {B B' : Nat} {w : World} {A : Option Addr} {cap : Nat} {l : List α} (h : CRow f B w A cap l) (hB : B ≤ B') : CRow f B' w A cap l := by
  refine ⟨h.1, h.2.1, fun i x hx => ?_⟩
  obtain ⟨ad, e, hb, hat⟩ := h.2.2 i x hx
  exact ⟨ad, e, by omega, hat⟩
theorem CRow.get {α : Type} {f : α → Value} {B : Nat} {w : World} {A : Option Addr} {cap : Nat} {l : List α} (h : CRow f B w A cap l) {i : Nat} (hi : i < l.length) :
    ∃ (x : α) (ad : Addr), l[i]? = some x ∧ A = some ad ∧ ad.block < B ∧ w.cell? (ad.add i) = some (f x) := by
  obtain ⟨ad, e, hb, hat⟩ := h.2.2 i l[i] (List.getElem?_eq_getElem hi)
  exact ⟨l[i], ad, List.getElem?_eq_getElem hi, e, hb, hat⟩
/-- The blocks from b on are kept. -/
def Keeps (b : Nat) (w w' : World) : Prop := (∀ q, b ≤ q → q < w.heap.size → w'.heap[q]? = w.heap[q]?) ∧ w.heap.size ≤ w'.heap.size
theorem Keeps.refl (b : Nat) (w : World) : Keeps b w w := ⟨fun _ _ _ => rfl, Nat.le_refl _⟩
theorem CRow.nil {α : Type} (f : α → Value) (B : Nat) (w : World) : CRow f B w none 0 ([] : List α) := ⟨Nat.le_refl _, Nat.zero_le _, fun i x hx => by simp at hx⟩
theorem VT.Rows.nil (B : Nat) (w : World) : VT.Rows B w none 0 [] := ⟨⟨Nat.le_refl _, Nat.zero_le _, fun i x hx => by simp at hx⟩, fun x hx => by cases hx⟩
theorem CRow.src {α : Type} {f : α → Value} {B : Nat} {w : World} {A : Option Addr} {cap : Nat} {l : List α} (h : CRow f B w A cap l) : SrcAt w A (l.map f) := by
  cases l with
  | nil => exact .inl rfl
  | cons y r =>
    obtain ⟨ad, e, _, _⟩ := h.2.2 0 y rfl
    refine .inr ⟨ad, e, fun j u hu => ?_⟩
    rw [List.getElem?_map] at hu
    cases hj : (y :: r)[j]? with
    | none => rw [hj] at hu; cases hu
    | some x =>
      rw [hj] at hu
      cases hu
      obtain ⟨ad2, e2, _, hat⟩ := h.2.2 j x hj
      rw [e] at e2
      cases e2
      exact hat
/-- What changed: the blocks of ex, the row's own block; and where the row lies now. -/
structure PFr (ex : Nat → Prop) (w : World) (v : Value) (w' : World) (v' : Value) : Prop where
  os : w'.os = w.os
  tape : w'.tape = w.tape
  output : w'.output = w.output
  size : w.heap.size ≤ w'.heap.size
  block : ∀ k, k < w.heap.size → ¬ ex k → some k ≠ v.ownBlock → w'.heap[k]? = w.heap[k]?
  moved : v'.ownBlock = v.ownBlock ∨ ∀ k, v'.ownBlock = some k → w.heap.size ≤ k
theorem PFr.refl (ex : Nat → Prop) (w : World) (v : Value) : PFr ex w v w v := ⟨rfl, rfl, rfl, Nat.le_refl _, fun _ _ _ _ => rfl, .inl rfl⟩
theorem PFr.below {ex : Nat → Prop} {w w' : World} {v : Value} (h : Below w.heap.size w w') : PFr ex w v w' v := ⟨h.os, h.tape, h.output, h.size, fun k hk _ _ => h.block k hk, .inl rfl⟩
theorem PFr.trans {ex : Nat → Prop} {a b c : World} {va vb vc : Value} (h : PFr ex a va b vb) (h' : PFr ex b vb c vc) : PFr ex a va c vc where
  os := h'.os.trans h.os
  tape := h'.tape.trans h.tape
  output := h'.output.trans h.output
  size := Nat.le_trans h.size h'.size
  block := fun k hk h1 h2 => by
    have hb := h.size
    refine (h'.block k (by omega) h1 fun e => ?_).trans (h.block k hk h1 h2)
    rcases h.moved with hm | hm
    · exact h2 (e.trans hm)
    · have := hm k e.symm; omega
  moved := by
    have hb := h.size
    rcases h'.moved with hm | hm
    · rcases h.moved with hm2 | hm2
      · exact .inl (hm.trans hm2)
      · exact .inr fun k hk => hm2 k (hm ▸ hk)
    · exact .inr fun k hk => by have := hm k hk; omega
theorem PFr.grown {ex : Nat → Prop} {w w' : World} {v v' : Value} (hg : w.grownBy w' v.ownBlock) (hm : Moved w v v') : PFr ex w v w' v' :=
  ⟨hg.os, hg.tape, hg.output, hg.size, fun k hk _ hv => hg.block k hk hv, hm⟩
theorem PFr.set {ex : Nat → Prop} (w : World) (v u : Value) (g i : Nat) (hg : ex g) : PFr ex w v (w.setCell ⟨g, i, none⟩ u) v :=
  ⟨rfl, rfl, rfl, by simp [World.setCell], fun k _ hx _ => Deep.blk_setCell_other _ _ _ _ (fun e => hx (by rw [show k = g from e]; exact hg)), .inl rfl⟩
theorem PFr.more {ex ex' : Nat → Prop} {w w' : World} {v v' : Value} (h : PFr ex w v w' v') (he : ∀ k, ex k → ex' k) : PFr ex' w v w' v' :=
  ⟨h.os, h.tape, h.output, h.size, fun k hk h1 h2 => h.block k hk (fun e => h1 (he k e)) h2, h.moved⟩
/-- From nothing on: what lay there lies there. -/
theorem PFr.toBelow {ex : Nat → Prop} {B : Nat} {w w' : World} {v : Value} (h : PFr ex w (.slice none 0 0) w' v) (hB : B ≤ w.heap.size) (he : ∀ k, ex k → B ≤ k) : Below B w w' :=
  ⟨h.os, h.tape, h.output, h.size, fun k hk => h.block k (by omega) (fun e => by have := he k e; omega) (fun e => by cases e)⟩
/-- A property that holds in every world that keeps the blocks up to here, but for those of X and for that in which v lies. -/
def Md (X : Nat → Prop) (v : Value) (w : World) (P : World → Prop) : Prop := ∀ w'', w.heap.size ≤ w''.heap.size → (∀ q, q < w.heap.size → ¬ X q → some q ≠ v.ownBlock → w''.heap[q]? = w.heap[q]?) → P w''
theorem Md.step {X : Nat → Prop} {v v' : Value} {w w' : World} {P : World → Prop} (h : Md X v w P) (hp : PFr X w v w' v') : Md X v' w' P := fun w'' hz hk => by
  refine h w'' (Nat.le_trans hp.size hz) fun q hq hx hv => ?_
  have h1 := hp.size
  refine (hk q (by omega) hx fun e => ?_).trans (hp.block q hq hx hv)
  rcases hp.moved with hm | hm
  · exact hv (e.trans hm)
  · have := hm q e.symm; omega
theorem Md.at {X : Nat → Prop} {v : Value} {w : World} {P : World → Prop} (h : Md X v w P) : P w := h w (Nat.le_refl _) fun _ _ _ _ => rfl
/-! ## Rows of structs -/
def GRow {α : Type} (c : α → List Value) (k B : Nat) (w : World) (A : Option Addr) (cap : Nat) (l : List α) : Prop :=
  l.length ≤ cap ∧ cap ≤ maxLen ∧ ∀ i x, l[i]? = some x → ∃ ad : Addr, A = some ad ∧ ad.block < B ∧ ∀ j u, (c x)[j]? = some u → w.cell? ((ad.add (i * k)).add j) = some u
theorem GRow.nil {α : Type} (c : α → List Value) (k B : Nat) (w : World) : GRow c k B w none 0 [] := ⟨Nat.le_refl _, Nat.zero_le _, fun i x hx => by simp at hx⟩
theorem GRow.keep {α : Type} {c : α → List Value} {k B : Nat} {w w' : World} {A : Option Addr} {cap : Nat} {l : List α} (h : GRow c k B w A cap l) (hs : Same B w w') : GRow c k B w' A cap l :=
  ⟨h.1, h.2.1, fun i x hx => by
    obtain ⟨ad, e, hb, hat⟩ := h.2.2 i x hx
    exact ⟨ad, e, hb, fun j u hu => (hs.cell (by rw [block_add, block_add]; exact hb)).trans (hat j u hu)⟩⟩
theorem GRow.more {α : Type} {c : α → List Value} {k B B' : Nat} {w : World} {A : Option Addr} {cap : Nat} {l : List α} (h : GRow c k B w A cap l) (hB : B ≤ B') : GRow c k B' w A cap l :=
  ⟨h.1, h.2.1, fun i x hx => by
    obtain ⟨ad, e, hb, hat⟩ := h.2.2 i x hx
    exact ⟨ad, e, by omega, hat⟩⟩
theorem GRow.get {α : Type} {c : α → List Value} {k B : Nat} {w : World} {A : Option Addr} {cap : Nat} {l : List α} (h : GRow c k B w A cap l) {i : Nat} (hi : i < l.length) :
    ∃ x ad, l[i]? = some x ∧ A = some ad ∧ ad.block < B ∧ ∀ j u, (c x)[j]? = some u → w.cell? ((ad.add (i * k)).add j) = some u := by
  obtain ⟨ad, e, hb, hat⟩ := h.2.2 i l[i] (List.getElem?_eq_getElem hi)
  exact ⟨l[i], ad, List.getElem?_eq_getElem hi, e, hb, hat⟩
end Go.Proofs.YthijagpnpcpcbaaGreat
namespace Go.Proofs.YthijagpnpcpcbaaGreat
open Go.RowKit
section
variable {P : Program} {ops : Array Oper} {w : World} {Q : Act → Prop} {rest : List Oper} {o : Oper} {a : Act}
theorem st_want (hw : Region.wanted o (yielded ops a.tmps) = true) (h : ∀ K : Act → Prop, (∀ a, wpStill P ops w Q rest a → K a) → o.still P a w K) : wpStill P ops w Q (o :: rest) a :=
  wpStill_step fun K hK => by rw [if_pos hw]; exact h K hK
end
end Go.Proofs.YthijagpnpcpcbaaGreat
namespace Go.Proofs.YthijagpnpcpcbaaGreat
open Go.RowKit

def withinB (n a b : Int) : Bool := decide (a ≤ n) && decide (n ≤ b)
def leafB (k : Int) : Bool := k != 6 && k != 7

/-- A byte of a name, at place i. -/
def nmB (i : Nat) (c : UInt8) : Bool := (decide (97 ≤ c.toNat) && decide (c.toNat ≤ 122)) || (decide (i ≠ 0) && ((c.toNat == 95) || (decide (48 ≤ c.toNat) && decide (c.toNat ≤ 57))))
def nameB (s : ByteArray) : Bool := decide (1 ≤ s.size) && decide (s.size ≤ 24) && decide (∀ i (h : i < s.size), nmB i s[i] = true)
/-- A byte of a text. -/
def chB (c : UInt8) : Bool := decide (32 ≤ c.toNat) && (c.toNat != 127)
def charsB (s : ByteArray) : Bool := Lib.validD s.data.toList && decide (s.size ≤ 256) && decide (∀ i (h : i < s.size), chB s[i] = true)

/-- What is wrong with one level of a type. -/
def scaleB (k sc : Int) : Bool := if k = 3 then withinB sc 0 12 else sc == 0
def nmAt (l : List FT) (i : Nat) : ByteArray := match l[i]? with
  | some x => x.a.nm
  | none => ByteArray.empty
def namesB (l : List FT) : Bool := (List.range l.length).all fun i => nameB (nmAt l i)
/-- Two fields have one name. -/
def twiceB (l : List FT) : Bool := (List.range l.length).any fun i => (List.range i).any fun k => (nmAt l k).toList == (nmAt l i).toList
def shapeS (k sc : Int) (l : List FT) : Int :=
  if withinB k 1 7 = false then 3
  else if scaleB k sc = false then 1
  else if k = 6 then (if l.length ≠ 1 ∨ (nmAt l 0).toList ≠ [] then 1 else 0)
  else if k ≠ 7 then (if l.length = 0 then 0 else 1)
  else if l.length = 0 then 1
  else if namesB l = false then 4
  else if twiceB l = true then 5
  else 0

mutual
/-- The check of a type at a level, so many leaves having been met: the fault, and the leaves met behind it. -/
def ckT (lv c : Int) : FT → Int × Int
  | .node a l =>
    if lv > 4 then (7, c)
    else if leafB a.k = true ∧ c = 40 then (7, c)
    else if shapeS a.k a.sc l ≠ 0 then (shapeS a.k a.sc l, if leafB a.k = true then c + 1 else c)
    else ckTs (lv + 1) (if leafB a.k = true then c + 1 else c) l
def ckTs (lv c : Int) : List FT → Int × Int
  | [] => (0, c)
  | x :: r => if (ckT lv c x).1 ≠ 0 then ckT lv c x else ckTs lv (ckT lv c x).2 r
end

def aloneS (k n sc : Int) (s : ByteArray) (len : Nat) : Bool :=
  if k = 0 then (s.toList.isEmpty && (len == 0) && (n == 0) && (sc == 0))
  else if k = 1 then (s.toList.isEmpty && (len == 0) && withinB n 0 1 && (sc == 0))
  else if k = 2 then (s.toList.isEmpty && (len == 0) && withinB n (-999999999999999999) 999999999999999999 && (sc == 0))
  else if k = 3 then (s.toList.isEmpty && (len == 0) && withinB n (-999999999999999999) 999999999999999999 && withinB sc 0 12)
  else if k = 4 then ((len == 0) && (n == 0) && (sc == 0) && charsB s)
  else if k = 5 then (s.toList.isEmpty && (len == 0) && withinB n (-62135596800) 253402300799 && (sc == 0))
  else if k = 6 then (s.toList.isEmpty && (n == 0) && (sc == 0) && decide (len ≤ 64))
  else if k = 7 then (s.toList.isEmpty && (n == 0) && (sc == 0) && decide (0 < len))
  else false

mutual
/-- Is a value sound, at a level, so many cells having been counted? And the cells counted behind it. -/
def sdV (lv c : Int) : VT → Bool × Int
  | .node a l =>
    if lv > 4 ∨ (if a.k = 0 then c else c + 1) > 256 ∨ aloneS a.k a.n a.sc a.s l.length = false then (false, if a.k = 0 then c else c + 1)
    else sdVs (lv + 1) (if a.k = 0 then c else c + 1) l
def sdVs (lv c : Int) : List VT → Bool × Int
  | [] => (true, c)
  | x :: r => if (sdV lv c x).1 = true then sdVs lv (sdV lv c x).2 r else sdV lv c x
end

mutual
/-- Is a sound value of a right type? -/
def ofV : FT → VT → Bool
  | .node f fl, .node a l =>
    if a.k = 0 then true
    else if a.k ≠ f.k then false
    else if a.sc ≠ f.sc then false
    else if f.k = 7 then ofR fl l
    else match fl with
      | x :: _ => ofL x l
      | [] => true
termination_by _ v => (SizeOf.sizeOf v, 0)
/-- All are of one type. -/
def ofL : FT → List VT → Bool
  | _, [] => true
  | t, x :: r => ofV t x && ofL t r
termination_by _ l => (SizeOf.sizeOf l, 0)
/-- Each is of the type of its field, and there are as many. -/
def ofR : List FT → List VT → Bool
  | [], [] => true
  | t :: q, x :: r => ofV t x && ofR q r
  | _, _ => false
termination_by _ l => (SizeOf.sizeOf l, 0)
end
end Go.Proofs.YthijagpnpcpcbaaGreat
namespace Go.Proofs.YthijagpnpcpcbaaGreat
open Go.RowKit
theorem rwithin_any (n a b : Int) (w : World) :
    Calls Tryz.prog 116 #[.int .i64 n, .int .i64 a, .int .i64 b] w fun e w' => e = .returned (.bool (withinB n a b)) ∧ w = w' := by
  by_cases h1 : a ≤ n <;> by_cases h2 : n ≤ b
  all_goals
    go_enter Tryz.func116, Tryz.ntmps116
    go_wp2
    go_ret
    exact ⟨by simp [withinB, h1, h2], rfl⟩
end Go.Proofs.YthijagpnpcpcbaaGreat
namespace Go.Proofs.YthijagpnpcpcbaaGreat
open Go.RowKit
inductive VT.Sm : VT → VT → Prop
  | mk (a b : VP) (l m : List VT) (hk : a.k = b.k) (hn : a.n = b.n) (hsc : a.sc = b.sc) (hs : a.s = b.s) (hl : l.length = m.length) (hx : ∀ (i : Nat) x y, l[i]? = some x → m[i]? = some y → VT.Sm x y) : VT.Sm (.node a l) (.node b m)
theorem VT.Sm.inv {a b : VP} {l m : List VT} (h : VT.Sm (.node a l) (.node b m)) : a.k = b.k ∧ a.n = b.n ∧ a.sc = b.sc ∧ a.s = b.s ∧ l.length = m.length ∧ ∀ (i : Nat) x y, l[i]? = some x → m[i]? = some y → VT.Sm x y := by
  cases h
  exact ⟨by assumption, by assumption, by assumption, by assumption, by assumption, by assumption⟩
/-- Lists of such values. -/
def SmL (l m : List VT) : Prop := l.length = m.length ∧ ∀ (i : Nat) x y, l[i]? = some x → m[i]? = some y → VT.Sm x y
theorem SmL.tail {x y : VT} {l m : List VT} (h : SmL (x :: l) (y :: m)) : VT.Sm x y ∧ SmL l m :=
  ⟨h.2 0 x y rfl rfl, by have := h.1; simpa using this, fun i a b ha hb => h.2 (i + 1) a b (by simpa using ha) (by simpa using hb)⟩
theorem VT.Sm.refl : ∀ v : VT, VT.Sm v v := by
  refine VT.ind fun a l ih => .mk a a l l rfl rfl rfl rfl rfl fun i x y hx hy => ?_
  rw [hx] at hy
  cases hy
  exact ih x (mem_of_get? hx)
theorem VT.Sm.symm : ∀ {v u : VT}, VT.Sm v u → VT.Sm u v := by
  intro v
  induction v using VT.ind with
  | h a l ih =>
    intro u h
    obtain ⟨b, m⟩ := u
    obtain ⟨h1, h2, h3, h4, h5, h6⟩ := h.inv
    exact .mk b a m l h1.symm h2.symm h3.symm h4.symm h5.symm fun i x y hx hy => ih y (mem_of_get? hy) (h6 i y x hy hx)
theorem VT.Sm.trans : ∀ {v u t : VT}, VT.Sm v u → VT.Sm u t → VT.Sm v t := by
  intro v
  induction v using VT.ind with
  | h a l ih =>
    intro u t h h'
    obtain ⟨b, m⟩ := u
    obtain ⟨c, n⟩ := t
    obtain ⟨h1, h2, h3, h4, h5, h6⟩ := h.inv
    obtain ⟨k1, k2, k3, k4, k5, k6⟩ := h'.inv
    refine .mk a c l n (h1.trans k1) (h2.trans k2) (h3.trans k3) (h4.trans k4) (h5.trans k5) fun i x y hx hy => ?_
    have hi : i < m.length := by rw [k5]; exact (List.getElem?_eq_some_iff.1 hy).1
    exact ih x (mem_of_get? hx) (h6 i x m[i] hx (List.getElem?_eq_getElem hi)) (k6 i m[i] y (List.getElem?_eq_getElem hi) hy)
/-! ## Types -/
inductive FT.Sm : FT → FT → Prop
  | mk (a b : FP) (l m : List FT) (hk : a.k = b.k) (hsc : a.sc = b.sc) (hl : l.length = m.length) (hf : ∀ (i : Nat) x y, l[i]? = some x → m[i]? = some y → x.a.id = y.a.id ∧ x.a.nm = y.a.nm ∧ x.a.nd = y.a.nd)
      (hx : ∀ (i : Nat) x y, l[i]? = some x → m[i]? = some y → FT.Sm x y) : FT.Sm (.node a l) (.node b m)
theorem FT.Sm.inv {a b : FP} {l m : List FT} (h : FT.Sm (.node a l) (.node b m)) : a.k = b.k ∧ a.sc = b.sc ∧ l.length = m.length ∧ (∀ (i : Nat) x y, l[i]? = some x → m[i]? = some y → x.a.id = y.a.id ∧ x.a.nm = y.a.nm ∧ x.a.nd = y.a.nd) ∧ ∀ (i : Nat) x y, l[i]? = some x → m[i]? = some y → FT.Sm x y := by
  cases h
  exact ⟨by assumption, by assumption, by assumption, by assumption, by assumption⟩
/-- Lists of such fields. -/
def SmF (l m : List FT) : Prop := l.length = m.length ∧ (∀ (i : Nat) x y, l[i]? = some x → m[i]? = some y → x.a.id = y.a.id ∧ x.a.nm = y.a.nm ∧ x.a.nd = y.a.nd) ∧ ∀ (i : Nat) x y, l[i]? = some x → m[i]? = some y → FT.Sm x y
theorem SmF.tail {x y : FT} {l m : List FT} (h : SmF (x :: l) (y :: m)) : (x.a.id = y.a.id ∧ x.a.nm = y.a.nm ∧ x.a.nd = y.a.nd) ∧ FT.Sm x y ∧ SmF l m :=
  ⟨h.2.1 0 x y rfl rfl, h.2.2 0 x y rfl rfl, by have := h.1; simpa using this, fun i a b ha hb => h.2.1 (i + 1) a b (by simpa using ha) (by simpa using hb), fun i a b ha hb => h.2.2 (i + 1) a b (by simpa using ha) (by simpa using hb)⟩
theorem SmF.at {l m : List FT} (h : SmF l m) (i : Nat) : (l[i]? = none ∧ m[i]? = none) ∨ ∃ x y, l[i]? = some x ∧ m[i]? = some y ∧ (x.a.id = y.a.id ∧ x.a.nm = y.a.nm ∧ x.a.nd = y.a.nd) ∧ FT.Sm x y := by
  by_cases hi : i < l.length
  · have hm : i < m.length := by rw [← h.1]; exact hi
    have e1 := List.getElem?_eq_getElem hi
    have e2 := List.getElem?_eq_getElem hm
    exact .inr ⟨l[i], m[i], e1, e2, h.2.1 i _ _ e1 e2, h.2.2 i _ _ e1 e2⟩
  · exact .inl ⟨List.getElem?_eq_none (by omega), List.getElem?_eq_none (by have := h.1; omega)⟩
end Go.Proofs.YthijagpnpcpcbaaGreat
namespace Go.Proofs.YthijagpnpcpcbaaGreat
open Go.RowKit
/-- No list in it is long. -/
inductive VT.Sml : VT → Prop
  | mk (a : VP) (l : List VT) (hl : l.length ≤ 1048576) (hx : ∀ x, x ∈ l → VT.Sml x) : VT.Sml (.node a l)
theorem VT.Sml.inv {a : VP} {l : List VT} (h : VT.Sml (.node a l)) : l.length ≤ 1048576 ∧ ∀ x, x ∈ l → VT.Sml x := by
  cases h
  exact ⟨by assumption, by assumption⟩
def vCells (x : VT) : List Value := [.int .i64 x.a.k, .int .i64 x.a.n, .int .i64 x.a.sc, .string x.a.s, .slice x.a.A x.l.length x.a.cap]
end Go.Proofs.YthijagpnpcpcbaaGreat
namespace Go.Proofs.YthijagpnpcpcbaaGreat
open Go.RowKit
/-- What the loop has at its head: j values copied. -/
def CpRel (l : List VT) (B0 : Nat) (W0 : World) (len : Nat) (sv i : Value) (wr : World) : Prop :=
  ∃ (j : Nat) (u : List VT), j ≤ len ∧ i = .int .i64 j ∧ u.length = j ∧ wr.ownsRow B0 27 5 sv j (u.flatMap vCells) ∧ Below B0 W0 wr ∧
    (∀ (q : Nat) x y, l[q]? = some x → u[q]? = some y → VT.Sm x y) ∧ ∀ y, y ∈ u → VT.InS (Fresh B0 wr sv) wr y
theorem CpRel.step {l : List VT} {B0 : Nat} {W0 wr w2 w3 : World} {len j : Nat} {sv sv' : Value} {u : List VT} {x y : VT} (hB0 : W0.heap.size = B0) (hx : l[j]? = some x) (hj : j < len) (hu : u.length = j)
    (hown : wr.ownsRow B0 27 5 sv j (u.flatMap vCells)) (hb : Below B0 W0 wr) (hsm : ∀ (q : Nat) x y, l[q]? = some x → u[q]? = some y → VT.Sm x y) (hin : ∀ y, y ∈ u → VT.InS (Fresh B0 wr sv) wr y)
    (hb2 : Below wr.heap.size wr w2) (hlo : Nat) (hlo1 : wr.heap.size ≤ hlo) (hy : VT.InS (New hlo w2) w2 y) (hxy : VT.Sm x y) (o : Obj)
    (hown' : w3.ownsRow B0 27 5 sv' (j + 1) (u.flatMap vCells ++ vCells y)) (hg : (w2.alloc o).grownBy w3 sv.ownBlock) (hm : Moved (w2.alloc o) sv sv') :
    CpRel l B0 W0 len sv' (.int .i64 ((j : Int) + 1)) w3 := by
  have hz0 : B0 ≤ wr.heap.size := by rw [← hB0]; exact hb.size
  have hz2 := hb2.size
  have hz3 : w2.heap.size + 1 ≤ w3.heap.size := by have := hg.size; simpa using this
  have hol := hown.lt
  have hkeep : ∀ k, k < w2.heap.size → some k ≠ sv.ownBlock → w3.heap[k]? = w2.heap[k]? := fun k hk hne =>
    (hg.block k (by simp; omega) hne).trans (Below.heap_alloc w2 o k hk)
  have hnew : ∀ k, B0 ≤ k → k < w2.heap.size → some k ≠ sv.ownBlock → Fresh B0 w3 sv' k := fun k h1 h2 hne => by
    refine ⟨h1, by omega, ?_⟩
    rcases hm with hm | hm
    · rw [hm]; exact hne
    · intro e
      have := hm k e.symm
      simp at this
      omega
  refine ⟨j + 1, u ++ [y], by omega, by simp, by simp [hu], by rw [List.flatMap_append]; simpa using hown', ?_, ?_, ?_⟩
  · refine ⟨hg.os.trans (hb2.os.trans hb.os), hg.tape.trans (hb2.tape.trans hb.tape), hg.output.trans (hb2.output.trans hb.output), by have := hb.size; omega, fun k hk => ?_⟩
    rw [hkeep k (by omega) (fun e => by have := (hol k e.symm).1; omega), hb2.block k (by omega), hb.block k hk]
  · intro q a b ha hb'
    by_cases hq : q < u.length
    · rw [List.getElem?_append_left hq] at hb'
      exact hsm q a b ha hb'
    · rw [List.getElem?_append_right (by omega)] at hb'
      have : q = j := by
        have := (List.getElem?_eq_some_iff.1 hb').1
        simp at this
        omega
      subst this
      rw [hu] at hb'
      simp at hb'
      subst hb'
      rw [hx] at ha
      cases ha
      exact hxy
  · intro z hz
    rcases List.mem_append.1 hz with hz | hz
    · refine (hin z hz).keep (fun k hk => ?_) (fun k hk => hnew k hk.1 (by have := hk.2.1; omega) hk.2.2)
      rw [hkeep k (by have := hk.2.1; omega) hk.2.2, hb2.block k hk.2.1]
    · simp at hz
      subst hz
      have hne : ∀ k, New hlo w2 k → some k ≠ sv.ownBlock := fun k hk e => by have := (hol k e.symm).2; have := hk.1; omega
      exact hy.keep (fun k hk => hkeep k hk.2 (hne k hk)) (fun k hk => hnew k (by have := hk.1; omega) hk.2 (hne k hk))
theorem new_cells (w : World) (cs : Array Value) (t : TypeId) (j : Nat) (u : Value) (h : cs.toList[j]? = some u) : (w.alloc (.cells cs t)).cell? ((⟨w.heap.size, 0, none⟩ : Addr).add j) = some u := by
  have hadd : (⟨w.heap.size, 0, none⟩ : Addr).add j = ⟨w.heap.size, j, none⟩ := by unfold Addr.add; split <;> simp_all
  rw [hadd, cell_new, ← Array.getElem?_toList]
  exact h
end Go.Proofs.YthijagpnpcpcbaaGreat

