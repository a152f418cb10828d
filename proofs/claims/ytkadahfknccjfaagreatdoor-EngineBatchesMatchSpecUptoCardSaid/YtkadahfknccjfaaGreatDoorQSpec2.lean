/-
  Plain functions: what the checks of types and values come to. No program stands here.
  Plain functions: is a sound value of a right type; does it lack a value that is needed?
-/
import Derived.Test.YtkadahfknccjfaaGreatDoorQData3
import Derived.Lib.ValidU
namespace Go.Proofs.YtkadahfknccjfaaGreatDoor
open Go.RowKit

def withinB (n a b : Int) : Bool := decide (a ≤ n) && decide (n ≤ b)
def leafB (k : Int) : Bool := k != 6 && k != 7

/-- A byte of a name, at place i. -/
def nmB (i : Nat) (c : UInt8) : Bool := (decide (97 ≤ c.toNat) && decide (c.toNat ≤ 122)) || (decide (i ≠ 0) && ((c.toNat == 95) || (decide (48 ≤ c.toNat) && decide (c.toNat ≤ 57))))
def nameB (s : ByteArray) : Bool := decide (1 ≤ s.size) && decide (s.size ≤ 24) && decide (∀ i (h : i < s.size), nmB i s[i] = true)
/-- A byte of a text. -/
def chB (c : UInt8) : Bool := decide (32 ≤ c.toNat) && (c.toNat != 127)
def charsB (s : ByteArray) : Bool := Lib.validD s.data.toList && decide (s.size ≤ 256) && decide (∀ i (h : i < s.size), chB s[i] = true)

/-- What is wrong with one level of a type. -/
def scaleB (k sc : Int) : Bool := if k = 3 then withinB sc 0 12 else sc == 0
def nmAt (l : List FT) (i : Nat) : ByteArray := match l[i]? with
  | some x => x.a.nm
  | none => ByteArray.empty
def namesB (l : List FT) : Bool := (List.range l.length).all fun i => nameB (nmAt l i)
/-- Two fields have one name. -/
def twiceB (l : List FT) : Bool := (List.range l.length).any fun i => (List.range i).any fun k => (nmAt l k).toList == (nmAt l i).toList
theorem nmAt_of {l : List FT} {i : Nat} {x : FT} (h : l[i]? = some x) : nmAt l i = x.a.nm := by unfold nmAt; rw [h]
theorem namesB_true {l : List FT} (h : ∀ i, i < l.length → nameB (nmAt l i) = true) : namesB l = true := by
  unfold namesB
  rw [List.all_eq_true]
  exact fun i hi => h i (List.mem_range.1 hi)
theorem namesB_false {l : List FT} {i : Nat} (hi : i < l.length) (h : nameB (nmAt l i) = false) : namesB l = false := by
  rw [Bool.eq_false_iff]
  intro hn
  unfold namesB at hn
  rw [List.all_eq_true] at hn
  rw [hn i (List.mem_range.2 hi)] at h
  cases h
theorem twiceB_true {l : List FT} {i k : Nat} (hi : i < l.length) (hk : k < i) (h : ((nmAt l k).toList == (nmAt l i).toList) = true) : twiceB l = true := by
  unfold twiceB
  rw [List.any_eq_true]
  refine ⟨i, List.mem_range.2 hi, ?_⟩
  rw [List.any_eq_true]
  exact ⟨k, List.mem_range.2 hk, h⟩
theorem twiceB_false {l : List FT} (h : ∀ i k, i < l.length → k < i → ((nmAt l k).toList == (nmAt l i).toList) = false) : twiceB l = false := by
  rw [Bool.eq_false_iff]
  intro ht
  unfold twiceB at ht
  rw [List.any_eq_true] at ht
  obtain ⟨i, hi, ht⟩ := ht
  rw [List.any_eq_true] at ht
  obtain ⟨k, hk, ht⟩ := ht
  rw [h i k (List.mem_range.1 hi) (List.mem_range.1 hk)] at ht
  cases ht
def shapeS (k sc : Int) (l : List FT) : Int :=
  if withinB k 1 7 = false then 3
  else if scaleB k sc = false then 1
  else if k = 6 then (if l.length ≠ 1 ∨ (nmAt l 0).toList ≠ [] then 1 else 0)
  else if k ≠ 7 then (if l.length = 0 then 0 else 1)
  else if l.length = 0 then 1
  else if namesB l = false then 4
  else if twiceB l = true then 5
  else 0

mutual
/-- The check of a type at a level, so many leaves having been met: the fault, and the leaves met behind it. -/
def ckT (lv c : Int) : FT → Int × Int
  | .node a l =>
    if lv > 4 then (7, c)
    else if leafB a.k = true ∧ c = 40 then (7, c)
    else if shapeS a.k a.sc l ≠ 0 then (shapeS a.k a.sc l, if leafB a.k = true then c + 1 else c)
    else ckTs (lv + 1) (if leafB a.k = true then c + 1 else c) l
def ckTs (lv c : Int) : List FT → Int × Int
  | [] => (0, c)
  | x :: r => if (ckT lv c x).1 ≠ 0 then ckT lv c x else ckTs lv (ckT lv c x).2 r
end

def aloneS (k n sc : Int) (s : ByteArray) (len : Nat) : Bool :=
  if k = 0 then (s.toList.isEmpty && (len == 0) && (n == 0) && (sc == 0))
  else if k = 1 then (s.toList.isEmpty && (len == 0) && withinB n 0 1 && (sc == 0))
  else if k = 2 then (s.toList.isEmpty && (len == 0) && withinB n (-999999999999999999) 999999999999999999 && (sc == 0))
  else if k = 3 then (s.toList.isEmpty && (len == 0) && withinB n (-999999999999999999) 999999999999999999 && withinB sc 0 12)
  else if k = 4 then ((len == 0) && (n == 0) && (sc == 0) && charsB s)
  else if k = 5 then (s.toList.isEmpty && (len == 0) && withinB n (-62135596800) 253402300799 && (sc == 0))
  else if k = 6 then (s.toList.isEmpty && (n == 0) && (sc == 0) && decide (len ≤ 64))
  else if k = 7 then (s.toList.isEmpty && (n == 0) && (sc == 0) && decide (0 < len))
  else false

mutual
/-- Is a value sound, at a level, so many cells having been counted? And the cells counted behind it. -/
def sdV (lv c : Int) : VT → Bool × Int
  | .node a l =>
    if lv > 4 ∨ (if a.k = 0 then c else c + 1) > 256 ∨ aloneS a.k a.n a.sc a.s l.length = false then (false, if a.k = 0 then c else c + 1)
    else sdVs (lv + 1) (if a.k = 0 then c else c + 1) l
def sdVs (lv c : Int) : List VT → Bool × Int
  | [] => (true, c)
  | x :: r => if (sdV lv c x).1 = true then sdVs lv (sdV lv c x).2 r else sdV lv c x
end

mutual
/-- Is a sound value of a right type? -/
def ofV : FT → VT → Bool
  | .node f fl, .node a l =>
    if a.k = 0 then true
    else if a.k ≠ f.k then false
    else if a.sc ≠ f.sc then false
    else if f.k = 7 then ofR fl l
    else match fl with
      | x :: _ => ofL x l
      | [] => true
termination_by _ v => (SizeOf.sizeOf v, 0)
/-- All are of one type. -/
def ofL : FT → List VT → Bool
  | _, [] => true
  | t, x :: r => ofV t x && ofL t r
termination_by _ l => (SizeOf.sizeOf l, 0)
/-- Each is of the type of its field, and there are as many. -/
def ofR : List FT → List VT → Bool
  | [], [] => true
  | t :: q, x :: r => ofV t x && ofR q r
  | _, _ => false
termination_by _ l => (SizeOf.sizeOf l, 0)
end
end Go.Proofs.YtkadahfknccjfaaGreatDoor
namespace Go.Proofs.YtkadahfknccjfaaGreatDoor
open Go.RowKit
/-- The field of item i of a list's or a record's type. -/
def fldAt (k : Int) (fl : List FT) (i : Nat) : Option FT := if k = 6 then fl[0]? else fl[i]?
mutual
def ofT : FT → VT → Bool
  | .node f fl, .node a l =>
    if a.k = 0 then true
    else if a.k ≠ f.k then false
    else if a.sc ≠ f.sc then false
    else if f.k = 7 ∧ l.length ≠ fl.length then false
    else ofI f.k fl 0 l
termination_by _ v => (SizeOf.sizeOf v, 0)
def ofI : Int → List FT → Nat → List VT → Bool
  | _, _, _, [] => true
  | k, fl, i, x :: r => (match fldAt k fl i with
      | some t => ofT t x
      | none => false) && ofI k fl (i + 1) r
termination_by _ _ _ l => (SizeOf.sizeOf l, 0)
end
mutual
def misT : FT → VT → Bool
  | .node f fl, .node _ l => misI f.k fl 0 l
termination_by _ v => (SizeOf.sizeOf v, 0)
def misI : Int → List FT → Nat → List VT → Bool
  | _, _, _, [] => false
  | k, fl, i, x :: r => (match fldAt k fl i with
      | some t => (t.a.nd && (x.a.k == 0)) || misT t x
      | none => false) || misI k fl (i + 1) r
termination_by _ _ _ l => (SizeOf.sizeOf l, 0)
end
/-- What a right type gives for the walk of a value. -/
inductive TOk : FT → Prop
  | mk (a : FP) (l : List FT) (h1 : 1 ≤ a.k) (h7 : a.k ≤ 7) (hl : a.k = 6 → l.length = 1) (hs : a.k ≠ 3 → a.sc = 0) (hx : ∀ x, x ∈ l → TOk x) : TOk (.node a l)
/-- What a sound value gives. -/
inductive VOk : VT → Prop
  | mk (a : VP) (l : List VT) (hl : a.k ≠ 6 → a.k ≠ 7 → l = []) (hs : a.k ≠ 3 → a.sc = 0) (hx : ∀ x, x ∈ l → VOk x) : VOk (.node a l)
theorem TOk.inv {a : FP} {l : List FT} (h : TOk (.node a l)) : 1 ≤ a.k ∧ a.k ≤ 7 ∧ (a.k = 6 → l.length = 1) ∧ (a.k ≠ 3 → a.sc = 0) ∧ ∀ x, x ∈ l → TOk x := by
  cases h
  exact ⟨by assumption, by assumption, by assumption, by assumption, by assumption⟩
theorem VOk.inv {a : VP} {l : List VT} (h : VOk (.node a l)) : (a.k ≠ 6 → a.k ≠ 7 → l = []) ∧ (a.k ≠ 3 → a.sc = 0) ∧ ∀ x, x ∈ l → VOk x := by
  cases h
  exact ⟨by assumption, by assumption, by assumption⟩
theorem shapeS_ok {k sc : Int} {l : List FT} (h : shapeS k sc l = 0) : 1 ≤ k ∧ k ≤ 7 ∧ (k = 6 → l.length = 1) ∧ (k ≠ 3 → sc = 0) := by
  unfold shapeS at h
  cases h1 : withinB k 1 7
  · rw [h1, if_pos rfl] at h; omega
  cases h2 : scaleB k sc
  · rw [h1, h2, if_neg (by simp), if_pos rfl] at h; omega
  rw [h1, h2, if_neg (by simp), if_neg (by simp)] at h
  simp only [withinB, Bool.and_eq_true, decide_eq_true_eq] at h1
  refine ⟨h1.1, h1.2, fun h6 => ?_, fun h3 => ?_⟩
  · rw [if_pos h6] at h
    by_cases hl : l.length = 1
    · exact hl
    · rw [if_pos (.inl hl)] at h; omega
  · unfold scaleB at h2
    rw [if_neg h3] at h2
    simpa using h2
theorem ckT_ok : ∀ (t : FT) (lv c : Int), (ckT lv c t).1 = 0 → TOk t := by
  refine FT.ind fun a l ih lv c h => ?_
  have hs : ∀ (r : List FT), (∀ x, x ∈ r → x ∈ l) → ∀ c, (ckTs (lv + 1) c r).1 = 0 → ∀ x, x ∈ r → TOk x := by
    intro r
    induction r with
    | nil => intro _ c _ x hx; cases hx
    | cons y r ihr =>
      intro hm c h0 x hx
      unfold ckTs at h0
      by_cases hy : (ckT (lv + 1) c y).1 ≠ 0
      · rw [if_pos hy] at h0; exact absurd h0 hy
      · rw [if_neg hy] at h0
        have hy0 : (ckT (lv + 1) c y).1 = 0 := Classical.not_not.1 hy
        rcases List.mem_cons.1 hx with rfl | hx
        · exact ih x (hm x (by simp)) _ _ hy0
        · exact ihr (fun z hz => hm z (by simp [hz])) _ h0 x hx
  unfold ckT at h
  by_cases h4 : lv > 4
  · rw [if_pos h4] at h; simp at h
  rw [if_neg h4] at h
  by_cases h40 : leafB a.k = true ∧ c = 40
  · rw [if_pos h40] at h; simp at h
  rw [if_neg h40] at h
  by_cases hsh : shapeS a.k a.sc l ≠ 0
  · rw [if_pos hsh] at h; exact absurd h hsh
  rw [if_neg hsh] at h
  obtain ⟨p1, p2, p3, p4⟩ := shapeS_ok (Classical.not_not.1 hsh)
  exact .mk a l p1 p2 p3 p4 (hs l (fun _ h => h) _ h)
theorem aloneS_ok {k n sc : Int} {s : ByteArray} {len : Nat} (h : aloneS k n sc s len = true) : (k ≠ 6 → k ≠ 7 → len = 0) ∧ (k ≠ 3 → sc = 0) := by
  unfold aloneS at h
  repeat' split at h
  all_goals simp_all
theorem sdV_ok : ∀ (v : VT) (lv c : Int), (sdV lv c v).1 = true → VOk v := by
  refine VT.ind fun a l ih lv c h => ?_
  have hs : ∀ (r : List VT), (∀ x, x ∈ r → x ∈ l) → ∀ c, (sdVs (lv + 1) c r).1 = true → ∀ x, x ∈ r → VOk x := by
    intro r
    induction r with
    | nil => intro _ c _ x hx; cases hx
    | cons y r ihr =>
      intro hm c h0 x hx
      unfold sdVs at h0
      by_cases hy : (sdV (lv + 1) c y).1 = true
      · rw [if_pos hy] at h0
        rcases List.mem_cons.1 hx with rfl | hx
        · exact ih x (hm x (by simp)) _ _ hy
        · exact ihr (fun z hz => hm z (by simp [hz])) _ h0 x hx
      · rw [if_neg hy] at h0; exact absurd h0 hy
  unfold sdV at h
  by_cases hn : lv > 4 ∨ (if a.k = 0 then c else c + 1) > 256 ∨ aloneS a.k a.n a.sc a.s l.length = false
  · rw [if_pos hn] at h; cases h
  · rw [if_neg hn] at h
    have ha : aloneS a.k a.n a.sc a.s l.length = true := by
      cases e : aloneS a.k a.n a.sc a.s l.length
      · exact absurd (.inr (.inr e)) hn
      · rfl
    obtain ⟨p1, p2⟩ := aloneS_ok ha
    exact .mk a l (fun h6 h7 => List.eq_nil_of_length_eq_zero (p1 h6 h7)) p2 (hs l (fun _ h => h) _ h)
theorem ofI_items {k : Int} {fl : List FT} : ∀ (l : List VT) (i : Nat), ofI k fl i l = true → ∀ (j : Nat) (x : VT), l[j]? = some x → ∃ t, fldAt k fl (i + j) = some t ∧ ofT t x = true
  | [], _, _, j, x, hx => by simp at hx
  | y :: r, i, h, j, x, hx => by
    unfold ofI at h
    rw [Bool.and_eq_true] at h
    match j, hx with
    | 0, hx =>
      simp at hx
      subst hx
      cases e : fldAt k fl i with
      | none => rw [e] at h; cases h.1
      | some t => rw [e] at h; exact ⟨t, rfl, h.1⟩
    | j + 1, hx =>
      obtain ⟨t, h1, h2⟩ := ofI_items r (i + 1) h.2 j x (by simpa using hx)
      exact ⟨t, by rw [← h1]; congr 1; omega, h2⟩
end Go.Proofs.YtkadahfknccjfaaGreatDoor
