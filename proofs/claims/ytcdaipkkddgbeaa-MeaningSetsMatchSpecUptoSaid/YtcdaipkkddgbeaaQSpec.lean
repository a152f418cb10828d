/-
  Plain functions: what the checks of types and values come to. No program stands here.
-/
import Derived.Test.YtcdaipkkddgbeaaQData3
import Derived.Lib.ValidU
namespace Go.Proofs.Ytcdaipkkddgbeaa
open Go.RowKit

def withinB (n a b : Int) : Bool := decide (a ≤ n) && decide (n ≤ b)
def leafB (k : Int) : Bool := k != 6 && k != 7

/-- A byte of a name, at place i. -/
def nmB (i : Nat) (c : UInt8) : Bool := (decide (97 ≤ c.toNat) && decide (c.toNat ≤ 122)) || (decide (i ≠ 0) && ((c.toNat == 95) || (decide (48 ≤ c.toNat) && decide (c.toNat ≤ 57))))
def nameB (s : ByteArray) : Bool := decide (1 ≤ s.size) && decide (s.size ≤ 24) && decide (∀ i (h : i < s.size), nmB i s[i] = true)
/-- A byte of a text. -/
def chB (c : UInt8) : Bool := decide (32 ≤ c.toNat) && (c.toNat != 127)
def charsB (s : ByteArray) : Bool := Lib.validD s.data.toList && decide (s.size ≤ 256) && decide (∀ i (h : i < s.size), chB s[i] = true)

/-- What is wrong with one level of a type. -/
def scaleB (k sc : Int) : Bool := if k = 3 then withinB sc 0 12 else sc == 0
def nmAt (l : List FT) (i : Nat) : ByteArray := match l[i]? with
  | some x => x.a.nm
  | none => ByteArray.empty
def namesB (l : List FT) : Bool := (List.range l.length).all fun i => nameB (nmAt l i)
/-- Two fields have one name. -/
def twiceB (l : List FT) : Bool := (List.range l.length).any fun i => (List.range i).any fun k => (nmAt l k).toList == (nmAt l i).toList
theorem nmAt_of {l : List FT} {i : Nat} {x : FT} (h : l[i]? = some x) : nmAt l i = x.a.nm := by unfold nmAt; rw [h]
theorem namesB_true {l : List FT} (h : ∀ i, i < l.length → nameB (nmAt l i) = true) : namesB l = true := by
  unfold namesB
  rw [List.all_eq_true]
  exact fun i hi => h i (List.mem_range.1 hi)
theorem namesB_false {l : List FT} {i : Nat} (hi : i < l.length) (h : nameB (nmAt l i) = false) : namesB l = false := by
  rw [Bool.eq_false_iff]
  intro hn
  unfold namesB at hn
  rw [List.all_eq_true] at hn
  rw [hn i (List.mem_range.2 hi)] at h
  cases h
theorem twiceB_true {l : List FT} {i k : Nat} (hi : i < l.length) (hk : k < i) (h : ((nmAt l k).toList == (nmAt l i).toList) = true) : twiceB l = true := by
  unfold twiceB
  rw [List.any_eq_true]
  refine ⟨i, List.mem_range.2 hi, ?_⟩
  rw [List.any_eq_true]
  exact ⟨k, List.mem_range.2 hk, h⟩
theorem twiceB_false {l : List FT} (h : ∀ i k, i < l.length → k < i → ((nmAt l k).toList == (nmAt l i).toList) = false) : twiceB l = false := by
  rw [Bool.eq_false_iff]
  intro ht
  unfold twiceB at ht
  rw [List.any_eq_true] at ht
  obtain ⟨i, hi, ht⟩ := ht
  rw [List.any_eq_true] at ht
  obtain ⟨k, hk, ht⟩ := ht
  rw [h i k (List.mem_range.1 hi) (List.mem_range.1 hk)] at ht
  cases ht
def shapeS (k sc : Int) (l : List FT) : Int :=
  if withinB k 1 7 = false then 3
  else if scaleB k sc = false then 1
  else if k = 6 then (if l.length ≠ 1 ∨ (nmAt l 0).toList ≠ [] then 1 else 0)
  else if k ≠ 7 then (if l.length = 0 then 0 else 1)
  else if l.length = 0 then 1
  else if namesB l = false then 4
  else if twiceB l = true then 5
  else 0

mutual
/-- The check of a type at a level, so many leaves having been met: the fault, and the leaves met behind it. -/
def ckT (lv c : Int) : FT → Int × Int
  | .node a l =>
    if lv > 4 then (7, c)
    else if leafB a.k = true ∧ c = 40 then (7, c)
    else if shapeS a.k a.sc l ≠ 0 then (shapeS a.k a.sc l, if leafB a.k = true then c + 1 else c)
    else ckTs (lv + 1) (if leafB a.k = true then c + 1 else c) l
def ckTs (lv c : Int) : List FT → Int × Int
  | [] => (0, c)
  | x :: r => if (ckT lv c x).1 ≠ 0 then ckT lv c x else ckTs lv (ckT lv c x).2 r
end

def aloneS (k n sc : Int) (s : ByteArray) (len : Nat) : Bool :=
  if k = 0 then (s.toList.isEmpty && (len == 0) && (n == 0) && (sc == 0))
  else if k = 1 then (s.toList.isEmpty && (len == 0) && withinB n 0 1 && (sc == 0))
  else if k = 2 then (s.toList.isEmpty && (len == 0) && withinB n (-999999999999999999) 999999999999999999 && (sc == 0))
  else if k = 3 then (s.toList.isEmpty && (len == 0) && withinB n (-999999999999999999) 999999999999999999 && withinB sc 0 12)
  else if k = 4 then ((len == 0) && (n == 0) && (sc == 0) && charsB s)
  else if k = 5 then (s.toList.isEmpty && (len == 0) && withinB n (-62135596800) 253402300799 && (sc == 0))
  else if k = 6 then (s.toList.isEmpty && (n == 0) && (sc == 0) && decide (len ≤ 64))
  else if k = 7 then (s.toList.isEmpty && (n == 0) && (sc == 0) && decide (0 < len))
  else false

mutual
/-- Is a value sound, at a level, so many cells having been counted? And the cells counted behind it. -/
def sdV (lv c : Int) : VT → Bool × Int
  | .node a l =>
    if lv > 4 ∨ (if a.k = 0 then c else c + 1) > 256 ∨ aloneS a.k a.n a.sc a.s l.length = false then (false, if a.k = 0 then c else c + 1)
    else sdVs (lv + 1) (if a.k = 0 then c else c + 1) l
def sdVs (lv c : Int) : List VT → Bool × Int
  | [] => (true, c)
  | x :: r => if (sdV lv c x).1 = true then sdVs lv (sdV lv c x).2 r else sdV lv c x
end

mutual
/-- Is a sound value of a right type? -/
def ofV : FT → VT → Bool
  | .node f fl, .node a l =>
    if a.k = 0 then true
    else if a.k ≠ f.k then false
    else if a.sc ≠ f.sc then false
    else if f.k = 7 then ofR fl l
    else match fl with
      | x :: _ => ofL x l
      | [] => true
termination_by _ v => (SizeOf.sizeOf v, 0)
/-- All are of one type. -/
def ofL : FT → List VT → Bool
  | _, [] => true
  | t, x :: r => ofV t x && ofL t r
termination_by _ l => (SizeOf.sizeOf l, 0)
/-- Each is of the type of its field, and there are as many. -/
def ofR : List FT → List VT → Bool
  | [], [] => true
  | t :: q, x :: r => ofV t x && ofR q r
  | _, _ => false
termination_by _ l => (SizeOf.sizeOf l, 0)
end
end Go.Proofs.Ytcdaipkkddgbeaa
