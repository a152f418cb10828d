/-
  The words that say which values are null. No program stands here.
  Package engine: newVector: what its loop keeps. No code is walked here.
  Package engine: newVector: what it comes to; the rows that its loop keeps. No code is walked here.
-/
import Derived.Test.YtkadahfknccjfaaGreatDoorQVecDa
import Derived.Laws.Bits64b
import Derived.Deep.Heap
namespace Go.Proofs.YtkadahfknccjfaaGreatDoor
open Go.RowKit
/-- Is value i of a list null? -/
def nulAt (l : List VT) (i : Nat) : Bool := match l[i]? with
  | some x => x.a.k == 0
  | none => false
theorem nulAt_of {l : List VT} {i : Nat} {x : VT} (h : l[i]? = some x) : nulAt l i = (x.a.k == 0) := by unfold nulAt; rw [h]
/-- The words ws have the bits of the first j values. -/
def BitsOf (l : List VT) (j : Nat) (ws : List Nat) : Prop :=
  (∀ q b, b < 64 → (ws.getD q 0).testBit b = (decide (64 * q + b < j) && nulAt l (64 * q + b))) ∧ ∀ x, x ∈ ws → x < 18446744073709551616
theorem getD_lt {ws : List Nat} (h : ∀ x, x ∈ ws → x < 18446744073709551616) (q : Nat) : ws.getD q 0 < 18446744073709551616 := by
  rw [List.getD_eq_getElem?_getD]
  cases e : ws[q]? with
  | none => simp
  | some x => exact h x (mem_of_get? e)
theorem BitsOf.unique {l : List VT} {j : Nat} {ws us : List Nat} (h : BitsOf l j ws) (h' : BitsOf l j us) (hl : ws.length = us.length) : ws = us := by
  apply List.ext_getElem hl
  intro q h1 h2
  have e1 : ws.getD q 0 = ws[q] := by rw [List.getD_eq_getElem?_getD, List.getElem?_eq_getElem h1]; rfl
  have e2 : us.getD q 0 = us[q] := by rw [List.getD_eq_getElem?_getD, List.getElem?_eq_getElem h2]; rfl
  rw [← e1, ← e2]
  apply Nat.eq_of_testBit_eq
  intro b
  by_cases hb : b < 64
  · rw [h.1 q b hb, h'.1 q b hb]
  · have z : ∀ x, x < 18446744073709551616 → x.testBit b = false := fun x hx => Nat.testBit_lt_two_pow (Nat.lt_of_lt_of_le hx (by
      have : (18446744073709551616 : Nat) = 2 ^ 64 := by decide
      rw [this]
      exact Nat.pow_le_pow_right (by omega) (by omega)))
    rw [z _ (getD_lt h.2 q), z _ (getD_lt h'.2 q)]
theorem BitsOf.skip {l : List VT} {j : Nat} {ws : List Nat} (h : BitsOf l j ws) (hn : nulAt l j = false) : BitsOf l (j + 1) ws := by
  refine ⟨fun q b hb => ?_, h.2⟩
  rw [h.1 q b hb]
  by_cases e : 64 * q + b = j
  · rw [e, hn]; simp
  · congr 1
    rw [decide_eq_decide]
    omega
theorem BitsOf.more {l : List VT} {j : Nat} {ws : List Nat} (h : BitsOf l j ws) : BitsOf l j (ws ++ [0]) := by
  refine ⟨fun q b hb => ?_, fun x hx => ?_⟩
  · rw [← h.1 q b hb]
    congr 1
    rw [List.getD_eq_getElem?_getD, List.getD_eq_getElem?_getD]
    by_cases hq : q < ws.length
    · rw [List.getElem?_append_left hq]
    · rw [List.getElem?_append_right (by omega), List.getElem?_eq_none (l := ws) (by omega)]
      cases q - ws.length with
      | zero => rfl
      | succ n => simp
  · rcases List.mem_append.1 hx with hx | hx
    · exact h.2 x hx
    · simp at hx; omega
theorem BitsOf.zero (l : List VT) (n : Nat) : BitsOf l 0 (List.replicate n 0) := by
  refine ⟨fun q b _ => ?_, fun x hx => ?_⟩
  · have : (List.replicate n 0).getD q 0 = 0 := by
      rw [List.getD_eq_getElem?_getD, List.getElem?_replicate]
      split <;> rfl
    rw [this]
    simp
  · rw [List.mem_replicate] at hx; omega
theorem BitsOf.set {l : List VT} {j : Nat} {ws : List Nat} (h : BitsOf l j ws) (hj : j / 64 < ws.length) (hn : nulAt l j = true) : BitsOf l (j + 1) (ws.set (j / 64) (ws.getD (j / 64) 0 ||| 2 ^ (j % 64))) := by
  have hp : 2 ^ (j % 64) < 18446744073709551616 := by
    have : (18446744073709551616 : Nat) = 2 ^ 64 := by decide
    rw [this]
    exact Nat.pow_lt_pow_right (by omega) (by omega)
  refine ⟨fun q b hb => ?_, fun x hx => ?_⟩
  · by_cases hq : q = j / 64
    · subst hq
      have e : (ws.set (j / 64) (ws.getD (j / 64) 0 ||| 2 ^ (j % 64))).getD (j / 64) 0 = ws.getD (j / 64) 0 ||| 2 ^ (j % 64) := by
        rw [List.getD_eq_getElem?_getD, List.getElem?_set_self hj]; rfl
      rw [e, Nat.testBit_or, h.1 _ b hb, Nat.testBit_two_pow]
      by_cases hb' : b = j % 64
      · have : 64 * (j / 64) + b = j := by omega
        rw [this, hn]
        simp [hb']
      · have h1 : decide (j % 64 = b) = false := by simp; omega
        rw [h1, Bool.or_false]
        congr 1
        rw [decide_eq_decide]
        omega
    · have e : (ws.set (j / 64) (ws.getD (j / 64) 0 ||| 2 ^ (j % 64))).getD q 0 = ws.getD q 0 := by
        rw [List.getD_eq_getElem?_getD, List.getElem?_set_ne (by omega), ← List.getD_eq_getElem?_getD]
      rw [e, h.1 q b hb]
      congr 1
      rw [decide_eq_decide]
      omega
  · rcases List.mem_or_eq_of_mem_set hx with hx | hx
    · exact h.2 x hx
    · rw [hx]
      have : (18446744073709551616 : Nat) = 2 ^ 64 := by decide
      rw [this] at hp ⊢
      exact Nat.or_lt_two_pow (by rw [← this]; exact getD_lt h.2 _) hp
/-- The words as a vector has them. -/
def wI (ws : List Nat) : List Int := ws.map fun (x : Nat) => (x : Int)
theorem wI_getD (ws : List Nat) (q : Nat) : (wI ws).getD q 0 = ((ws.getD q 0 : Nat) : Int) := by
  unfold wI
  rw [List.getD_eq_getElem?_getD, List.getD_eq_getElem?_getD, List.getElem?_map]
  cases ws[q]? <;> rfl
theorem pow_cast (k : Nat) : (2 : Int) ^ k = ((2 ^ k : Nat) : Int) := by simp
theorem BitsOf.nullB {l : List VT} {size i : Nat} {ws : List Nat} (h : BitsOf l size ws) (hi : i < size) : Go.Proofs.YtkadahfknccjfaaGreatDoor.nullB (wI ws) i = nulAt l i := by
  unfold Go.Proofs.YtkadahfknccjfaaGreatDoor.nullB
  rw [wI_getD, pow_cast]
  have hd : ((ws.getD (i / 64) 0 : Nat) : Int) / ((2 ^ (i % 64) : Nat) : Int) = ((ws.getD (i / 64) 0 / 2 ^ (i % 64) : Nat) : Int) := by simp
  have hlt : ws.getD (i / 64) 0 / 2 ^ (i % 64) < 18446744073709551616 := Nat.lt_of_le_of_lt (Nat.div_le_self _ _) (getD_lt h.2 _)
  have hb := bits_and_u64_nat (ws.getD (i / 64) 0 / 2 ^ (i % 64)) 1 hlt (by omega)
  rw [hd]
  rw [show (1 : Int) = ((1 : Nat) : Int) from rfl, hb]
  have ht := h.1 (i / 64) (i % 64) (by omega)
  rw [show 64 * (i / 64) + i % 64 = i by omega, decide_eq_true hi, Bool.true_and] at ht
  rw [← ht, Nat.testBit, Nat.shiftRight_eq_div_pow, Nat.and_comm]
  have : ws.getD (i / 64) 0 / 2 ^ (i % 64) &&& 1 = 0 ∨ ws.getD (i / 64) 0 / 2 ^ (i % 64) &&& 1 = 1 := by rw [Nat.and_one_is_mod]; omega
  rw [Nat.and_comm 1]
  rcases this with e | e <;> rw [e] <;> rfl
theorem BitsOf.last {l : List VT} {size : Nat} {ws : List Nat} (h : BitsOf l size ws) : lastB (wI ws) size = true := by
  unfold lastB
  by_cases hz : size % 64 = 0
  · rw [show (size % 64 == 0) = true by simpa using hz]; rfl
  · rw [wI_getD, pow_cast]
    have : ws.getD ((size + 63) / 64 - 1) 0 < 2 ^ (size % 64) := by
      apply Nat.lt_pow_two_of_testBit
      intro b hb
      by_cases hb64 : b < 64
      · rw [h.1 _ b hb64, decide_eq_false (by omega)]; rfl
      · exact Nat.testBit_lt_two_pow (Nat.lt_of_lt_of_le (getD_lt h.2 _) (by
          have : (18446744073709551616 : Nat) = 2 ^ 64 := by decide
          rw [this]
          exact Nat.pow_le_pow_right (by omega) (by omega)))
    have hd : ((ws.getD ((size + 63) / 64 - 1) 0 : Nat) : Int) / ((2 ^ (size % 64) : Nat) : Int) = 0 := by
      rw [← Int.natCast_ediv, Nat.div_eq_of_lt this]; rfl
    rw [hd]
    simp
end Go.Proofs.YtkadahfknccjfaaGreatDoor
namespace Go.Proofs.YtkadahfknccjfaaGreatDoor
open Go.RowKit
theorem infoU64 : (Tryz.prog.info? 66).map (fun i => (i.zero, i.size, i.bytes)) = some (some (.int .u64 0), 1, 8) := by kernel_rfl
theorem own_keep {w w' : World} {B e size n : Nat} {v : Value} {xs : List Value} (h : w.ownsRow B e size v n xs) (hk : ∀ k, B ≤ k → k < w.heap.size → w'.heap[k]? = w.heap[k]?) : w'.ownsRow B e size v n xs := by
  refine ⟨h.1, ?_⟩
  rcases h.2 with hn | ⟨g, cap, cur, e1, e2, e3, rest⟩
  · exact .inl hn
  · exact .inr ⟨g, cap, cur, e1, e2, (hk g e2 (Array.getElem?_eq_some_iff.1 e3).1).trans e3, rest⟩
theorem setCell_row (w : World) (b i : Nat) (v : Value) (cs : Array Value) (t : TypeId) (c : Nat × Nat) (h : w.heap[b]? = some (.cells cs t c)) : (w.setCell ⟨b, i, none⟩ v).heap[b]? = some (.cells (cs.setIfInBounds i v) t c) := by
  obtain ⟨h1, h2⟩ := Array.getElem?_eq_some_iff.1 h
  simp [World.setCell, Array.getElem_modify, h1, h2]
/-- The vector that is being made, and its words. -/
structure NvW (k sc : Int) (A : Option Addr) (fl cap vb nb nw : Nat) (ws : List Nat) (r2 r3 r4 : Value) (w : World) : Prop where
  v : w.heap[vb]? = some (.cells #[.int .i64 k, .int .i64 sc, .slice A fl cap, .slice (some ⟨nb, 0, none⟩) nw nw, r2, r3, r4] 54 (0, 0))
  n : w.heap[nb]? = some (.cells ((wI ws).map (Value.int .u64)).toArray 66 (0, 0))
  l : ws.length = nw
  ne : vb ≠ nb
theorem NvW.keep {k sc : Int} {A : Option Addr} {fl cap vb nb nw : Nat} {ws : List Nat} {r2 r3 r4 : Value} {w w' : World} (h : NvW k sc A fl cap vb nb nw ws r2 r3 r4 w) (h1 : w'.heap[vb]? = w.heap[vb]?) (h2 : w'.heap[nb]? = w.heap[nb]?) : NvW k sc A fl cap vb nb nw ws r2 r3 r4 w' :=
  ⟨h1.trans h.v, h2.trans h.n, h.l, h.ne⟩
theorem wI_cell {ws : List Nat} {q : Nat} (hq : q < ws.length) : ((wI ws).map (Value.int .u64)).toArray[q]? = some (.int .u64 ((ws.getD q 0 : Nat) : Int)) := by
  rw [List.getElem?_toArray, List.getElem?_map, wI, List.getElem?_map, List.getD_eq_getElem?_getD, List.getElem?_eq_getElem hq]
  rfl
theorem NvW.cells {k sc : Int} {A : Option Addr} {fl cap vb nb nw : Nat} {ws : List Nat} {r2 r3 r4 : Value} {w : World} (h : NvW k sc A fl cap vb nb nw ws r2 r3 r4 w) :
    w.cell? ⟨vb, 0, none⟩ = some (.int .i64 k) ∧ w.cell? ⟨vb, 1, none⟩ = some (.int .i64 sc) ∧ w.cell? ⟨vb, 2, none⟩ = some (.slice A fl cap) ∧ w.cell? ⟨vb, 3, none⟩ = some (.slice (some ⟨nb, 0, none⟩) nw nw) ∧
    w.cell? ⟨vb, 4, none⟩ = some r2 ∧ w.cell? ⟨vb, 5, none⟩ = some r3 ∧ w.cell? ⟨vb, 6, none⟩ = some r4 ∧ w.frozen? ⟨vb, 4, none⟩ = false ∧ w.frozen? ⟨vb, 5, none⟩ = false ∧ w.frozen? ⟨vb, 6, none⟩ = false :=
  ⟨cell_of_row w vb 0 _ _ _ h.v, cell_of_row w vb 1 _ _ _ h.v, cell_of_row w vb 2 _ _ _ h.v, cell_of_row w vb 3 _ _ _ h.v, cell_of_row w vb 4 _ _ _ h.v, cell_of_row w vb 5 _ _ _ h.v, cell_of_row w vb 6 _ _ _ h.v,
    by simp [World.frozen?, h.v], by simp [World.frozen?, h.v], by simp [World.frozen?, h.v]⟩
theorem NvW.word {k sc : Int} {A : Option Addr} {fl cap vb nb nw : Nat} {ws : List Nat} {r2 r3 r4 : Value} {w : World} (h : NvW k sc A fl cap vb nb nw ws r2 r3 r4 w) {q : Nat} (hq : q < nw) :
    w.cell? ⟨nb, q, none⟩ = some (.int .u64 ((ws.getD q 0 : Nat) : Int)) ∧ w.frozen? ⟨nb, q, none⟩ = false := by
  refine ⟨?_, by simp [World.frozen?, h.n]⟩
  rw [cell_of_row w nb q _ _ _ h.n, wI_cell (by rw [h.l]; exact hq)]
/-- A bit is set. -/
theorem NvW.bit {k sc : Int} {A : Option Addr} {fl cap vb nb nw : Nat} {ws : List Nat} {r2 r3 r4 : Value} {w : World} {l : List VT} {j : Nat} (h : NvW k sc A fl cap vb nb nw ws r2 r3 r4 w) (hq : j / 64 < nw) (hb : BitsOf l j ws) (hn : nulAt l j = true) (c : Nat) (hc : ws.getD (j / 64) 0 = c) :
    ∃ ws', BitsOf l (j + 1) ws' ∧ NvW k sc A fl cap vb nb nw ws' r2 r3 r4 (w.setCell ⟨nb, j / 64, none⟩ (.int .u64 (bits .or .u64 (c : Int) (IntKind.u64.wrap (2 ^ (j % 64)))))) := by
  have hp : 2 ^ (j % 64) < 18446744073709551616 := by
    have : (18446744073709551616 : Nat) = 2 ^ 64 := by decide
    rw [this]
    exact Nat.pow_lt_pow_right (by omega) (by omega)
  have hcl : c < 18446744073709551616 := by rw [← hc]; exact getD_lt hb.2 _
  have hw : IntKind.u64.wrap (2 ^ (j % 64)) = ((2 ^ (j % 64) : Nat) : Int) := by
    rw [pow_cast, IntKind.wrap_u64]
    generalize 2 ^ (j % 64) = p at hp ⊢
    omega
  refine ⟨ws.set (j / 64) (c ||| 2 ^ (j % 64)), ?_, ?_, ?_, ?_, h.ne⟩
  · rw [← hc]
    exact hb.set (by rw [h.l]; exact hq) hn
  · exact (Deep.blk_setCell_other _ _ _ _ h.ne).trans h.v
  · rw [setCell_row w nb (j / 64) _ _ _ _ h.n, hw, bits_or_u64_nat c _ hcl hp]
    congr 2
    simp [wI, List.map_set]
  · rw [List.length_set]; exact h.l
/-- What the loop of newVector has at its head. -/
def NvRel (k sc : Int) (A : Option Addr) (fl cap : Nat) (B0 : Nat) (W0 : World) (vb nb nw : Nat) (l : List VT) (size : Nat) (R : Nat → Value → Value → Value → World → Prop) (i : Value) (wr : World) : Prop :=
  ∃ (j : Nat) (ws : List Nat) (r2 r3 r4 : Value), j ≤ size ∧ i = .int .i64 j ∧ BitsOf l j ws ∧ NvW k sc A fl cap vb nb nw ws r2 r3 r4 wr ∧ Below B0 W0 wr ∧ R j r2 r3 r4 wr
/-- The row of numbers. -/
def RN (l : List VT) (base : Nat) (j : Nat) (r2 r3 r4 : Value) (wr : World) : Prop := wr.ownsRow base 3 1 r2 j ((l.take j).map fun x => .int .i64 x.a.n) ∧ r3 = .slice none 0 0 ∧ r4 = .slice none 0 0
/-- The row of texts. -/
def RS (l : List VT) (base : Nat) (j : Nat) (r2 r3 r4 : Value) (wr : World) : Prop := wr.ownsRow base 9 1 r3 j ((l.take j).map fun x => .string x.a.s) ∧ r2 = .slice none 0 0 ∧ r4 = .slice none 0 0
end Go.Proofs.YtkadahfknccjfaaGreatDoor
namespace Go.Proofs.YtkadahfknccjfaaGreatDoor
open Go.RowKit
theorem infoStr : (Tryz.prog.info? 9).map (fun i => (i.zero, i.size, i.bytes)) = some (some (.string ByteArray.empty), 1, 16) := by kernel_rfl
theorem blk_new (w : World) (o : Obj) (n : Nat) (h : w.heap.size = n) : (w.alloc o).heap[n]? = some o := by subst h; exact heap_alloc_new w o
theorem zero_words {nw : Nat} {Z : Array Value} (h : madeCells (Value.cells (.int .u64 0)) nw = Z) : Z = ((wI (List.replicate nw 0)).map (Value.int .u64)).toArray := by
  rw [← h]
  apply Array.ext
  · simp [size_madeCells, wI]
  · intro i h1 h2
    simp [madeCells, wI, Value.cells, Nat.mod_one]
theorem own_slice {w : World} {B e size n : Nat} {v : Value} {xs : List Value} (h : w.ownsRow B e size v n xs) : ∃ (A : Option Addr) (cap : Nat), v = .slice A n cap := by
  rcases h.2 with ⟨e, hn⟩ | ⟨g, cap, cur, e1, _⟩
  · exact ⟨none, 0, by rw [e, hn]⟩
  · exact ⟨_, _, e1⟩
theorem RN.keep {l : List VT} {base j : Nat} {r2 r3 r4 : Value} {w w' : World} (h : RN l base j r2 r3 r4 w) (hk : ∀ q, base ≤ q → q < w.heap.size → w'.heap[q]? = w.heap[q]?) (_ : w.heap.size ≤ w'.heap.size) : RN l base j r2 r3 r4 w' := ⟨own_keep h.1 hk, h.2⟩
theorem RN.row {l : List VT} {base j : Nat} {r2 r3 r4 : Value} {w : World} (h : RN l base j r2 r3 r4 w) : ∃ A cap, r2 = .slice A j cap ∧ r3 = .slice none 0 0 ∧ r4 = .slice none 0 0 := by
  obtain ⟨A, cap, e⟩ := own_slice h.1
  exact ⟨A, cap, e, h.2⟩
theorem RN.nil (l : List VT) (base : Nat) (w : World) : RN l base 0 (.slice none 0 0) (.slice none 0 0) (.slice none 0 0) w := ⟨World.ownsRow_nil _ _ _ _, rfl, rfl⟩
/-- What newVector comes to. -/
def NvPost (k sc : Int) (A : Option Addr) (fl cap nw size : Nat) (l : List VT) (R : Nat → Value → Value → Value → World → Prop) (w : World) (e : Ending) (w' : World) : Prop :=
  ∃ (nb : Nat) (ws : List Nat) (r2 r3 r4 : Value), e = .returned (.agg #[.int .i64 k, .int .i64 sc, .slice A fl cap, .slice (some ⟨nb, 0, none⟩) nw nw, r2, r3, r4]) ∧ Below w.heap.size w w' ∧ w.heap.size ≤ nb ∧ ws.length = nw ∧ BitsOf l size ws ∧
    w'.heap[nb]? = some (.cells ((wI ws).map (Value.int .u64)).toArray 66 (0, 0)) ∧ R size r2 r3 r4 w'
theorem RS.keep {l : List VT} {base j : Nat} {r2 r3 r4 : Value} {w w' : World} (h : RS l base j r2 r3 r4 w) (hk : ∀ q, base ≤ q → q < w.heap.size → w'.heap[q]? = w.heap[q]?) (_ : w.heap.size ≤ w'.heap.size) : RS l base j r2 r3 r4 w' := ⟨own_keep h.1 hk, h.2⟩
theorem RS.row {l : List VT} {base j : Nat} {r2 r3 r4 : Value} {w : World} (h : RS l base j r2 r3 r4 w) : ∃ A cap, r2 = .slice none 0 0 ∧ r3 = .slice A j cap ∧ r4 = .slice none 0 0 := by
  obtain ⟨A, cap, e⟩ := own_slice h.1
  exact ⟨A, cap, h.2.1, e, h.2.2⟩
theorem RS.nil (l : List VT) (base : Nat) (w : World) : RS l base 0 (.slice none 0 0) (.slice none 0 0) (.slice none 0 0) w := ⟨World.ownsRow_nil _ _ _ _, rfl, rfl⟩
/-- The row of values: copies in new memory. -/
def RV (l : List VT) (base : Nat) (j : Nat) (r2 r3 r4 : Value) (wr : World) : Prop :=
  ∃ u : List VT, u.length = j ∧ wr.ownsRow base 61 5 r4 j (u.flatMap vCells) ∧ (∀ (q : Nat) x y, l[q]? = some x → u[q]? = some y → VT.Sm x y) ∧ (∀ y, y ∈ u → VT.InS (Fresh base wr r4) wr y) ∧ r2 = .slice none 0 0 ∧ r3 = .slice none 0 0
theorem RV.keep {l : List VT} {base j : Nat} {r2 r3 r4 : Value} {w w' : World} (h : RV l base j r2 r3 r4 w) (hk : ∀ q, base ≤ q → q < w.heap.size → w'.heap[q]? = w.heap[q]?) (hz : w.heap.size ≤ w'.heap.size) : RV l base j r2 r3 r4 w' := by
  obtain ⟨u, h1, h2, h3, h4, h5⟩ := h
  exact ⟨u, h1, own_keep h2 hk, h3, fun y hy => (h4 y hy).keep (fun q hq => hk q hq.1 hq.2.1) (fun q hq => ⟨hq.1, by have := hq.2.1; omega, hq.2.2⟩), h5⟩
theorem RV.row {l : List VT} {base j : Nat} {r2 r3 r4 : Value} {w : World} (h : RV l base j r2 r3 r4 w) : ∃ A cap, r2 = .slice none 0 0 ∧ r3 = .slice none 0 0 ∧ r4 = .slice A j cap := by
  obtain ⟨u, h1, h2, h3, h4, h5⟩ := h
  obtain ⟨A, cap, e⟩ := own_slice h2
  exact ⟨A, cap, h5.1, h5.2, e⟩
theorem RV.nil (l : List VT) (base : Nat) (w : World) : RV l base 0 (.slice none 0 0) (.slice none 0 0) (.slice none 0 0) w := ⟨[], rfl, World.ownsRow_nil _ _ _ _, fun q x y _ h => by simp at h, fun y h => by simp at h, rfl, rfl⟩
theorem RN.lt4 {l : List VT} {base j : Nat} {r2 r3 r4 : Value} {w : World} (h : RN l base j r2 r3 r4 w) : ∀ q, r4.ownBlock = some q → q < w.heap.size := fun q e => by rw [h.2.2] at e; cases e
theorem RS.lt4 {l : List VT} {base j : Nat} {r2 r3 r4 : Value} {w : World} (h : RS l base j r2 r3 r4 w) : ∀ q, r4.ownBlock = some q → q < w.heap.size := fun q e => by rw [h.2.2] at e; cases e
theorem RV.lt4 {l : List VT} {base j : Nat} {r2 r3 r4 : Value} {w : World} (h : RV l base j r2 r3 r4 w) : ∀ q, r4.ownBlock = some q → q < w.heap.size := fun q e => by
  obtain ⟨u, h1, h2, _⟩ := h
  exact (h2.lt q e).2
theorem RV.step {l : List VT} {base j : Nat} {r2 r3 sv sv' : Value} {wr w2 w3 : World} {u : List VT} {x y : VT} (hx : l[j]? = some x) (hu : u.length = j) (hown : wr.ownsRow base 61 5 sv j (u.flatMap vCells))
    (hsm : ∀ (q : Nat) x y, l[q]? = some x → u[q]? = some y → VT.Sm x y) (hin : ∀ y, y ∈ u → VT.InS (Fresh base wr sv) wr y) (hB : base ≤ wr.heap.size) (hb2 : Below wr.heap.size wr w2) (hlo : Nat) (hlo1 : wr.heap.size ≤ hlo) (hy : VT.InS (New hlo w2) w2 y) (hxy : VT.Sm x y) (o : Obj)
    (hown' : w3.ownsRow base 61 5 sv' (j + 1) (u.flatMap vCells ++ vCells y)) (hg : (w2.alloc o).grownBy w3 sv.ownBlock) (hm : Moved (w2.alloc o) sv sv') (h2 : r2 = .slice none 0 0) (h3 : r3 = .slice none 0 0) : RV l base (j + 1) r2 r3 sv' w3 := by
  have hz2 := hb2.size
  have hz3 : w2.heap.size + 1 ≤ w3.heap.size := by have := hg.size; simpa using this
  have hol := hown.lt
  have hkeep : ∀ k, k < w2.heap.size → some k ≠ sv.ownBlock → w3.heap[k]? = w2.heap[k]? := fun k hk hne =>
    (hg.block k (by simp; omega) hne).trans (Below.heap_alloc w2 o k hk)
  have hnew : ∀ k, base ≤ k → k < w2.heap.size → some k ≠ sv.ownBlock → Fresh base w3 sv' k := fun k h1 h2 hne => by
    refine ⟨h1, by omega, ?_⟩
    rcases hm with hm | hm
    · rw [hm]; exact hne
    · intro e
      have := hm k e.symm
      simp at this
      omega
  refine ⟨u ++ [y], by simp [hu], by rw [List.flatMap_append]; simpa using hown', ?_, ?_, h2, h3⟩
  · intro q a b ha hb'
    by_cases hq : q < u.length
    · rw [List.getElem?_append_left hq] at hb'
      exact hsm q a b ha hb'
    · rw [List.getElem?_append_right (by omega)] at hb'
      have : q = j := by
        have := (List.getElem?_eq_some_iff.1 hb').1
        simp at this
        omega
      subst this
      rw [hu] at hb'
      simp at hb'
      subst hb'
      rw [hx] at ha
      cases ha
      exact hxy
  · intro z hz
    rcases List.mem_append.1 hz with hz | hz
    · refine (hin z hz).keep (fun k hk => ?_) (fun k hk => hnew k hk.1 (by have := hk.2.1; omega) hk.2.2)
      rw [hkeep k (by have := hk.2.1; omega) hk.2.2, hb2.block k hk.2.1]
    · simp at hz
      subst hz
      have hne : ∀ k, New hlo w2 k → some k ≠ sv.ownBlock := fun k hk e => by have := (hol k e.symm).2; have := hk.1; omega
      exact hy.keep (fun k hk => hkeep k hk.2 (hne k hk)) (fun k hk => hnew k (by have := hk.1; omega) hk.2 (hne k hk))
end Go.Proofs.YtkadahfknccjfaaGreatDoor
