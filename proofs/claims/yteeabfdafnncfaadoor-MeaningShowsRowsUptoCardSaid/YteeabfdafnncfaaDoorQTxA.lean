/-
  Plain functions: the text of a value. No program stands here.
-/
import Derived.Test.YteeabfdafnncfaaDoorQTxC
import Derived.Test.YteeabfdafnncfaaDoorQSpec
import Derived.Lib.ItoaLen
import Derived.Lib.ItoaMem
import Derived.Lib.ReplaceLaws
import Derived.Lib.Join
import Derived.Lib.Repeat
import Derived.Lib.Small
namespace Go.Proofs.YteeabfdafnncfaaDoor
open Go.RowKit

/-- A text of these bytes. -/
def bs (l : List UInt8) : ByteArray := ⟨l.toArray⟩
theorem bs_size (l : List UInt8) : (bs l).size = l.length := by simp [bs, ByteArray.size]
theorem bs_cat (a b : List UInt8) : bs a ++ bs b = bs (a ++ b) := ByteArray.mk_append_mk a b
theorem bs_list (l : List UInt8) : (bs l).data.toList = l := by simp [bs]
theorem bs_of (s : ByteArray) : bs s.data.toList = s := by cases s; simp [bs]
theorem bs_extract (l : List UInt8) (a b : Nat) : (bs l).extract a b = bs ((l.drop a).take (b - a)) := ByteArray.extract_mk l a b

/-- A number's digits with zeros ahead of them. -/
def padL (n : Int) (width : Int) : List UInt8 := List.replicate (width.toNat - (Lib.itoa n).length) 48 ++ Lib.itoa n
def decL (n sc : Int) : List UInt8 :=
  (if n < 0 then [45] else []) ++ (padL (if n < 0 then -n else n) (sc + 1)).take ((padL (if n < 0 then -n else n) (sc + 1)).length - sc.toNat) ++ [46] ++ (padL (if n < 0 then -n else n) (sc + 1)).drop ((padL (if n < 0 then -n else n) (sc + 1)).length - sc.toNat)
/-- Each quote is doubled. -/
def quoL (l : List UInt8) : List UInt8 := l.flatMap fun c => if c = 39 then [39, 39] else [c]
def cvL (y mo d h mi s : Int) : List UInt8 := padL y 4 ++ [45] ++ padL mo 2 ++ [45] ++ padL d 2 ++ [84] ++ padL h 2 ++ [58] ++ padL mi 2 ++ [58] ++ padL s 2 ++ [90]
def momL (n : Int) : List UInt8 := cvL (yI (n / 86400)) (moI (n / 86400)) (dI (n / 86400)) (n % 86400 / 3600) (n % 86400 % 3600 / 60) (n % 86400 % 60)
def leafL (k n sc : Int) (s : ByteArray) : List UInt8 :=
  if k = 0 then [110, 117, 108, 108]
  else if k = 1 then (if n = 1 then [116, 114, 117, 101] else [102, 97, 108, 115, 101])
  else if k = 2 then Lib.itoa n
  else if k = 3 then decL n sc
  else if k = 4 then [39] ++ quoL s.data.toList ++ [39]
  else momL n
mutual
/-- The text of a sound value. -/
def txtV : VT → List UInt8
  | .node a l => if a.k = 6 then [91] ++ Lib.join (txtsV l) [44, 32] ++ [93] else if a.k = 7 then [40] ++ Lib.join (txtsV l) [44, 32] ++ [41] else leafL a.k a.n a.sc a.s
def txtsV : List VT → List (List UInt8)
  | [] => []
  | x :: r => txtV x :: txtsV r
end
theorem txtsV_map : ∀ l, txtsV l = l.map txtV
  | [] => rfl
  | x :: r => by rw [txtsV, txtsV_map r]; rfl
theorem txtV_list {a : VP} {l : List VT} (h : a.k = 6) : txtV (.node a l) = [91] ++ Lib.join (l.map txtV) [44, 32] ++ [93] := by rw [txtV, if_pos h, txtsV_map]
theorem txtV_record {a : VP} {l : List VT} (h : a.k = 7) : txtV (.node a l) = [40] ++ Lib.join (l.map txtV) [44, 32] ++ [41] := by rw [txtV, if_neg (by omega), if_pos h, txtsV_map]
theorem txtV_leaf {a : VP} {l : List VT} (h6 : a.k ≠ 6) (h7 : a.k ≠ 7) : txtV (.node a l) = leafL a.k a.n a.sc a.s := by rw [txtV, if_neg h6, if_neg h7]
/-- The text of any value: that of a sound one, else none. -/
def txtA (v : VT) : List UInt8 := if (sdV 1 0 v).1 = true then txtV v else []
/-- The text of a row. -/
def rowL (l : List VT) : List UInt8 := Lib.join (l.map txtA) [32, 124, 32]

theorem itoa_len (n : Int) (h : I64 n) : (Lib.itoa n).length ≤ 21 := Lib.itoa_length_le n h.1 h.2
theorem padL_len (n w : Int) (h : I64 n) : (padL n w).length ≤ 21 + w.toNat := by
  have := itoa_len n h
  simp [padL]
  omega
theorem padL_ge (n w : Int) : w.toNat ≤ (padL n w).length := by simp [padL]; omega
theorem joinTail_append (sep : List UInt8) : ∀ (a b : List (List UInt8)), Lib.joinTail sep (a ++ b) = Lib.joinTail sep a ++ Lib.joinTail sep b
  | a, b => by simp [Lib.joinTail]
/-- One text more behind those that are there. -/
theorem join_snoc (l : List (List UInt8)) (x sep : List UInt8) : Lib.join (l ++ [x]) sep = (if l = [] then x else Lib.join l sep ++ sep ++ x) := by
  cases l with
  | nil => simp [Lib.join_one]
  | cons y r =>
    rw [if_neg (by simp), List.cons_append, Lib.join_cons, Lib.join_cons, joinTail_append]
    simp [Lib.joinTail]
/-- The texts up to a place are the head of all of them. -/
theorem join_take_le (l : List (List UInt8)) (sep : List UInt8) (k : Nat) : (Lib.join (l.take k) sep).length ≤ (Lib.join l sep).length := by
  cases l with
  | nil => simp
  | cons y r =>
    cases k with
    | zero => simp [Lib.join_nil]
    | succ k =>
      rw [List.take_succ_cons, Lib.join_cons, Lib.join_cons, List.length_append, List.length_append]
      have := Lib.joinTail_take_le sep r k
      omega
theorem join_mem_le {l : List (List UInt8)} {sep x : List UInt8} (h : x ∈ l) : x.length ≤ (Lib.join l sep).length := by
  obtain ⟨k, hk⟩ := List.getElem?_of_mem h
  have h1 := join_take_le l sep (k + 1)
  have h2 : l.take (k + 1) = l.take k ++ [x] := by rw [List.take_add_one, hk]; rfl
  rw [h2, join_snoc] at h1
  split at h1
  · exact h1
  · simp at h1; omega
theorem join_count (l : List (List UInt8)) (sep : List UInt8) (hs : 1 ≤ sep.length) : l.length ≤ (Lib.join l sep).length + 1 := by
  cases l with
  | nil => simp
  | cons y r =>
    rw [Lib.join_length]
    have := Nat.mul_le_mul_right r.length hs
    simp
    omega

/-! ## A quote is doubled -/
theorem quoL_cons (c : UInt8) (l : List UInt8) : quoL (c :: l) = (if c = 39 then [39, 39] else [c]) ++ quoL l := by simp [quoL]
theorem quoL_snoc (l : List UInt8) (c : UInt8) : quoL (l ++ [c]) = quoL l ++ (if c = 39 then [39, 39] else [c]) := by simp [quoL]
theorem quoL_append (a b : List UInt8) : quoL (a ++ b) = quoL a ++ quoL b := by simp [quoL]
theorem quoL_len (l : List UInt8) : (quoL l).length ≤ 2 * l.length := by
  induction l with
  | nil => simp [quoL]
  | cons c l ih =>
    rw [quoL_cons, List.length_append]
    split <;> simp <;> omega
theorem quoL_take (l : List UInt8) (k : Nat) : (quoL (l.take k)).length ≤ (quoL l).length := by
  have : quoL l = quoL (l.take k) ++ quoL (l.drop k) := by rw [← quoL_append, List.take_append_drop]
  rw [this, List.length_append]
  omega
theorem index_one_miss {l : List UInt8} (h : Lib.index l [39] = -1) : quoL l = l := by
  induction l with
  | nil => rfl
  | cons c l ih =>
    rw [quoL_cons]
    unfold Lib.index at h
    by_cases hc : c = 39
    · subst hc; simp [List.isPrefixOf] at h
    · have : ([39] : List UInt8).isPrefixOf (c :: l) = false := by simp [List.isPrefixOf]; exact fun e => hc e.symm
      rw [this] at h
      simp only [Bool.false_eq_true, if_false] at h
      have hge := Lib.index_ge l [39]
      split at h
      · rename_i hh; rw [ih (by simpa using hh), if_neg hc]; rfl
      · omega
theorem index_one_hit : ∀ {l : List UInt8} {i : Nat}, Lib.index l [39] = i → i < l.length ∧ quoL l = l.take i ++ [39, 39] ++ quoL (l.drop (i + 1))
  | [], i, h => by unfold Lib.index at h; simp at h
  | c :: l, i, h => by
    unfold Lib.index at h
    by_cases hc : c = 39
    · subst hc
      simp [List.isPrefixOf] at h
      have : i = 0 := by omega
      subst this
      rw [quoL_cons]
      simp
    · have : ([39] : List UInt8).isPrefixOf (c :: l) = false := by simp [List.isPrefixOf]; exact fun e => hc e.symm
      rw [this] at h
      simp only [Bool.false_eq_true, if_false] at h
      split at h
      · omega
      · have hge := Lib.index_ge l [39]
        rename_i hh
        have hne : Lib.index l [39] ≠ -1 := by simpa using hh
        have : Lib.index l [39] = ((i - 1 : Nat) : Int) := by omega
        obtain ⟨h1, h2⟩ := index_one_hit this
        have hi : i = (i - 1) + 1 := by omega
        rw [quoL_cons, if_neg hc, h2, hi]
        simp
        omega
theorem replaceK_quo : ∀ (f : Nat) (l : List UInt8) , l.length < f → Lib.replaceK [39] [39, 39] (Lib.countFrom [39] f l) l = quoL l
  | 0, l, h => by omega
  | f + 1, l, h => by
    unfold Lib.countFrom
    by_cases hm : Lib.index l [39] = -1
    · rw [if_pos (by simpa using hm), Lib.replaceK, index_one_miss hm]
    · rw [if_neg (by simpa using hm), Nat.add_comm]
      have hge := Lib.index_ge l [39]
      have hi : Lib.index l [39] = ((Lib.index l [39]).toNat : Int) := by omega
      obtain ⟨h1, h2⟩ := index_one_hit hi
      rw [Lib.replaceK_hit _ _ _ _ _ hi, h2]
      have := replaceK_quo f (l.drop ((Lib.index l [39]).toNat + 1)) (by simp; omega)
      simp only [List.length_singleton] at this ⊢
      rw [this]
theorem replaceAll_quo (l : List UInt8) : Lib.replaceAll l [39] [39, 39] = quoL l := by
  unfold Lib.replaceAll Lib.replace
  rw [if_neg (by decide)]
  unfold Lib.replaceNum
  rw [if_pos (.inl (by decide))]
  exact replaceK_quo (l.length + 1) l (by omega)
end Go.Proofs.YteeabfdafnncfaaDoor
