/-
  Reference of package engine: vector: what its loop keeps. No code is walked here.
-/
import Derived.Test.YtkadahfknccjfaaGreatDoorQNewAa
import Derived.OneCell
namespace Go.Proofs.YtkadahfknccjfaaGreatDoor
open Go.RowKit
/-- Two rows lie in two blocks. -/
def Ap (a b : Value) : Prop := ∀ q, a.ownBlock = some q → b.ownBlock ≠ some q
theorem own_set {w : World} {B e n : Nat} {v : Value} {xs : List Value} (h : w.ownsRow B e 1 v n xs) {g : Nat} (hg : v.ownBlock = some g) (i : Nat) (u : Value) : (w.setCell ⟨g, i, none⟩ u).ownsRow B e 1 v n (xs.set i u) := by
  rcases h.2 with ⟨rfl, _⟩ | ⟨g', cap, cur, rfl, hb, hc, h1, h2, h3, h4⟩
  · cases hg
  · cases hg
    refine ⟨by rw [List.length_set]; exact h.1, .inr ⟨g', cap, cur.setIfInBounds i u, rfl, hb, setCell_row w g' i u cur e _ hc, h1, h2, by simpa using h3, ?_⟩⟩
    rw [Array.toList_setIfInBounds, List.take_set, h4]
theorem own_grown {w w' : World} {B e size n : Nat} {v : Value} {xs : List Value} {g : Option Nat} (h : w.ownsRow B e size v n xs) (hg : w.grownBy w' g) (hne : ∀ q, v.ownBlock = some q → g ≠ some q) : w'.ownsRow B e size v n xs := by
  refine h.kept hg ?_
  cases e : v.ownBlock with
  | none => exact .inl rfl
  | some q => exact .inr fun h => hne q e h.symm
theorem wI_snoc (ws : List Nat) : (wI (ws ++ [0])).map (Value.int .u64) = (wI ws).map (Value.int .u64) ++ [.int .u64 0] := by simp [wI]
theorem wI_len (ws : List Nat) : ((wI ws).map (Value.int .u64)).length = ws.length := by simp [wI]
/-- A value, or the zero value for null. -/
def nz (x : VT) : VT := if x.a.k = 0 then zeroV else x
theorem zV_in (B : Nat) (w : World) : VT.In B w zeroV := by
  have i0 : I64 0 := ⟨by omega, by omega⟩
  exact .mk 0 0 0 ⟨#[]⟩ none 0 [] i0 i0 i0 (Nat.zero_le _) ⟨Nat.le_refl _, Nat.zero_le _, fun i x hx => by simp at hx⟩ (fun x hx => by cases hx)
theorem nz_in {B : Nat} {w : World} {x : VT} (h : VT.In B w x) : VT.In B w (nz x) := by
  unfold nz
  split
  · exact zV_in B w
  · exact h
theorem moved_ap {w : World} {a a' b : Value} (h : Ap a b) (hm : Moved w a a') (hb : ∀ q, b.ownBlock = some q → q < w.heap.size) : Ap a' b := by
  intro q hq e
  rcases hm with hm | hm
  · exact h q (hm ▸ hq) e
  · have := hm q hq
    have := hb q e
    omega
theorem grow_keep {W w4 : World} {o : Obj} {base e size n : Nat} {v : Value} {xs : List Value} (h : W.ownsRow base e size v n xs) (hg : (W.alloc o).grownBy w4 v.ownBlock) : (∀ q, q < base → q < W.heap.size → w4.heap[q]? = W.heap[q]?) ∧ (∀ q, q < W.heap.size → v.ownBlock ≠ some q → w4.heap[q]? = W.heap[q]?) ∧ ∀ B' W0, Below B' W0 W → B' ≤ base → B' ≤ W.heap.size → Below B' W0 w4 := by
  have h1 : ∀ q, q < W.heap.size → v.ownBlock ≠ some q → w4.heap[q]? = W.heap[q]? := fun q hq hne => (hg.block q (by simp; omega) (fun e => hne e.symm)).trans (Below.heap_alloc W o q hq)
  have h0 : ∀ q, q < base → q < W.heap.size → w4.heap[q]? = W.heap[q]? := fun q hq hz => h1 q hz (fun e => by have := (h.lt q e).1; omega)
  refine ⟨h0, h1, fun B' W0 hb hB hW => ⟨hg.os.trans hb.os, hg.tape.trans hb.tape, hg.output.trans hb.output, ?_, fun q hq => (h0 q (by omega) (by omega)).trans (hb.block q hq)⟩⟩
  have := hg.size
  have := hb.size
  simp at *
  omega
theorem Ap.symm {a b : Value} (h : Ap a b) : Ap b a := fun q hq e => h q e hq
structure RvN (k sc : Int) (A : Option Addr) (fl cap base vb : Nat) (l : List VT) (j : Nat) (ws : List Nat) (rN r : Value) (w : World) : Prop where
  v : w.heap[vb]? = some (.cells #[.int .i64 k, .int .i64 sc, .slice A fl cap, rN, r, .slice none 0 0, .slice none 0 0] 54 (0, 0))
  n : w.ownsRow base 66 1 rN ws.length ((wI ws).map (Value.int .u64))
  o : w.ownsRow base 3 1 r j (((l.map nz).take j).flatMap (fun x => [Value.int .i64 x.a.n]))
  ap : Ap rN r
  lt : vb < base
theorem RvN.keep {k sc : Int} {A : Option Addr} {fl cap base vb : Nat} {l : List VT} {j : Nat} {ws : List Nat} {rN r : Value} {w w' : World} (h : RvN k sc A fl cap base vb l j ws rN r w) (hv : w'.heap[vb]? = w.heap[vb]?) (hk : ∀ q, base ≤ q → q < w.heap.size → w'.heap[q]? = w.heap[q]?) : RvN k sc A fl cap base vb l j ws rN r w' :=
  ⟨hv.trans h.v, own_keep h.n hk, own_keep h.o hk, h.ap, h.lt⟩
theorem RvN.below {k sc : Int} {A : Option Addr} {fl cap base vb : Nat} {l : List VT} {j : Nat} {ws : List Nat} {rN r : Value} {w w' : World} (h : RvN k sc A fl cap base vb l j ws rN r w) (hb : Below w.heap.size w w') : RvN k sc A fl cap base vb l j ws rN r w' :=
  h.keep (hb.block _ (Array.getElem?_eq_some_iff.1 h.v).1) (fun q _ h2 => hb.block q h2)
theorem RvN.cells {k sc : Int} {A : Option Addr} {fl cap base vb : Nat} {l : List VT} {j : Nat} {ws : List Nat} {rN r : Value} {w : World} (h : RvN k sc A fl cap base vb l j ws rN r w) :
    w.cell? ⟨vb, 0, none⟩ = some (.int .i64 k) ∧ w.cell? ⟨vb, 1, none⟩ = some (.int .i64 sc) ∧ w.cell? ⟨vb, 2, none⟩ = some (.slice A fl cap) ∧ w.cell? ⟨vb, 3, none⟩ = some rN ∧ w.cell? ⟨vb, 4, none⟩ = some r ∧ ∀ i, w.frozen? ⟨vb, i, none⟩ = false :=
  ⟨cell_of_row w vb 0 _ _ _ h.v, cell_of_row w vb 1 _ _ _ h.v, cell_of_row w vb 2 _ _ _ h.v, cell_of_row w vb 3 _ _ _ h.v, cell_of_row w vb 4 _ _ _ h.v, fun i => by simp [World.frozen?, h.v]⟩
theorem RvN.all {k sc : Int} {A : Option Addr} {fl cap base vb : Nat} {l : List VT} {j : Nat} {ws : List Nat} {rN r : Value} {w : World} (h : RvN k sc A fl cap base vb l j ws rN r w) (i : Nat) : w.cell? ⟨vb, i, none⟩ = #[.int .i64 k, .int .i64 sc, .slice A fl cap, rN, r, .slice none 0 0, .slice none 0 0][i]? := cell_of_row w vb i _ _ _ h.v
theorem RvN.word {k sc : Int} {A : Option Addr} {fl cap base vb : Nat} {l : List VT} {j : Nat} {ws : List Nat} {rN r : Value} {w : World} (h : RvN k sc A fl cap base vb l j ws rN r w) {q : Nat} (hq : q < ws.length) :
    ∃ g c, rN = .slice (some ⟨g, 0, none⟩) ws.length c ∧ base ≤ g ∧ g < w.heap.size ∧ w.cell? ⟨g, q, none⟩ = some (.int .u64 ((ws.getD q 0 : Nat) : Int)) ∧ w.frozen? ⟨g, q, none⟩ = false := by
  rcases h.n.2 with ⟨_, hn⟩ | ⟨g, c, cur, e1, e2, e3, e4⟩
  · omega
  · refine ⟨g, c, e1, e2, (Array.getElem?_eq_some_iff.1 e3).1, ?_, by simp [World.frozen?, e3]⟩
    have hadd : (⟨g, 0, none⟩ : Addr).add q = ⟨g, q, none⟩ := by unfold Addr.add; split <;> simp_all
    have := h.n.cells (g := g) (by rw [e1]; rfl) q _ (by rw [← List.getElem?_toArray]; exact wI_cell hq)
    rw [hadd] at this
    exact this
/-- A bit is set. -/
theorem RvN.bit {k sc : Int} {A : Option Addr} {fl cap base vb : Nat} {l : List VT} {j : Nat} {ws : List Nat} {r : Value} {w : World} {g cc : Nat} (h : RvN k sc A fl cap base vb l j ws (.slice (some ⟨g, 0, none⟩) ws.length cc) r w) (hq : j / 64 < ws.length) (hb : BitsOf l j ws) (hn : nulAt l j = true) (c : Nat) (hc : ws.getD (j / 64) 0 = c) (hg : base ≤ g) :
    ∃ ws', BitsOf l (j + 1) ws' ∧ ws'.length = ws.length ∧ RvN k sc A fl cap base vb l j ws' (.slice (some ⟨g, 0, none⟩) ws'.length cc) r (w.setCell ⟨g, j / 64, none⟩ (.int .u64 (bits .or .u64 (c : Int) (IntKind.u64.wrap (2 ^ (j % 64)))))) := by
  have hp : 2 ^ (j % 64) < 18446744073709551616 := by
    have : (18446744073709551616 : Nat) = 2 ^ 64 := by decide
    rw [this]
    exact Nat.pow_lt_pow_right (by omega) (by omega)
  have hcl : c < 18446744073709551616 := by rw [← hc]; exact getD_lt hb.2 _
  have hw : IntKind.u64.wrap (2 ^ (j % 64)) = ((2 ^ (j % 64) : Nat) : Int) := by
    rw [pow_cast, IntKind.wrap_u64]
    generalize 2 ^ (j % 64) = p at hp ⊢
    omega
  have hl : (ws.set (j / 64) (c ||| 2 ^ (j % 64))).length = ws.length := List.length_set
  have hlt := h.lt
  refine ⟨ws.set (j / 64) (c ||| 2 ^ (j % 64)), ?_, hl, ?_⟩
  · rw [← hc]
    exact hb.set hq hn
  rw [hl]
  refine ⟨(Deep.blk_setCell_other _ _ _ _ (by simp; omega)).trans h.v, ?_, ownsRow_setCell_other h.o (h.ap g rfl) _, h.ap, h.lt⟩
  · have := own_set h.n (g := g) rfl (j / 64) (.int .u64 (bits .or .u64 (c : Int) (IntKind.u64.wrap (2 ^ (j % 64)))))
    rw [hw, bits_or_u64_nat c _ hcl hp] at this ⊢
    have e : (wI (ws.set (j / 64) (c ||| 2 ^ (j % 64)))).map (Value.int .u64) = ((wI ws).map (Value.int .u64)).set (j / 64) (.int .u64 ((c ||| 2 ^ (j % 64) : Nat) : Int)) := by simp [wI, List.map_set]
    rw [hl, e]
    exact this
/-- A word is appended. -/
theorem RvN.more {k sc : Int} {A : Option Addr} {fl cap base vb : Nat} {l : List VT} {j : Nat} {ws : List Nat} {rN rN' r : Value} {w w' : World} (h : RvN k sc A fl cap base vb l j ws rN r w) (hown : w'.ownsRow base 66 1 rN' (ws.length + 1) ((wI ws).map (Value.int .u64) ++ [.int .u64 0])) (hg : w.grownBy w' rN.ownBlock) (hm : Moved w rN rN') :
    RvN k sc A fl cap base vb l j (ws ++ [0]) rN' r (w'.setCell ⟨vb, 3, none⟩ rN') := by
  have hlt := h.lt
  have hr := own_grown h.o hg (fun q hq e => h.ap q e hq)
  have hv : w'.heap[vb]? = w.heap[vb]? := hg.block vb (Array.getElem?_eq_some_iff.1 h.v).1 (fun e => by have := (h.n.lt vb e.symm).1; omega)
  refine ⟨?_, ?_, ?_, moved_ap h.ap hm (fun q hq => (h.o.lt q hq).2), h.lt⟩
  · rw [setCell_row _ _ _ _ _ _ _ (hv.trans h.v)]; simp
  · rw [wI_snoc, List.length_append]
    exact own_keep hown fun q h1 _ => Deep.blk_setCell_other _ _ _ _ (by simp; omega)
  · exact own_keep hr fun q h1 _ => Deep.blk_setCell_other _ _ _ _ (by simp; omega)
/-- A value is appended. -/
theorem RvN.step {k sc : Int} {A : Option Addr} {fl cap base vb : Nat} {l : List VT} {j : Nat} {ws : List Nat} {rN r r' : Value} {w w' : World} {x y : VT} (h : RvN k sc A fl cap base vb l j ws rN r w) (hx : l[j]? = some x) (hy : nz x = y) (hown : w'.ownsRow base 3 1 r' (j + 1) (((l.map nz).take j).flatMap (fun x => [Value.int .i64 x.a.n]) ++ (fun x => [Value.int .i64 x.a.n]) y)) (hg : w.grownBy w' r.ownBlock) (hm : Moved w r r') :
    RvN k sc A fl cap base vb l (j + 1) ws rN r' (w'.setCell ⟨vb, 4, none⟩ r') := by
  have hlt := h.lt
  have hn := own_grown h.n hg (fun q hq e => h.ap q hq e)
  have hv : w'.heap[vb]? = w.heap[vb]? := hg.block vb (Array.getElem?_eq_some_iff.1 h.v).1 (fun e => by have := (h.o.lt vb e.symm).1; omega)
  have ht : (l.map nz).take (j + 1) = (l.map nz).take j ++ [y] := by
    rw [List.take_add_one, List.getElem?_map, hx]
    simp [hy]
  refine ⟨?_, ?_, ?_, (moved_ap h.ap.symm hm (fun q hq => (h.n.lt q hq).2)).symm, h.lt⟩
  · rw [setCell_row _ _ _ _ _ _ _ (hv.trans h.v)]; simp
  · exact own_keep hn fun q h1 _ => Deep.blk_setCell_other _ _ _ _ (by simp; omega)
  · rw [ht, List.flatMap_append]
    simp only [List.flatMap_cons, List.flatMap_nil, List.append_nil]
    exact own_keep hown fun q h1 _ => Deep.blk_setCell_other _ _ _ _ (by simp; omega)
theorem RvN.other {k sc : Int} {A : Option Addr} {fl cap base vb : Nat} {l : List VT} {j : Nat} {ws : List Nat} {rN r : Value} {w : World} (h : RvN k sc A fl cap base vb l j ws rN r w) {xb : Nat} (h1 : rN.ownBlock ≠ some xb) (h2 : r.ownBlock ≠ some xb) (h3 : vb ≠ xb) (i : Nat) (u : Value) : RvN k sc A fl cap base vb l j ws rN r (w.setCell ⟨xb, i, none⟩ u) :=
  ⟨(Deep.blk_setCell_other _ _ _ _ (by simpa using h3)).trans h.v, ownsRow_setCell_other h.n h1 _, ownsRow_setCell_other h.o h2 _, h.ap, h.lt⟩
/-- What the loop has at its head. -/
def RvNRel (k sc : Int) (A : Option Addr) (fl cap base : Nat) (W0 : World) (vb : Nat) (l : List VT) (size : Nat) (i : Value) (wr : World) : Prop :=
  ∃ (j : Nat) (ws : List Nat) (rN r : Value), j ≤ size ∧ i = .int .i64 j ∧ BitsOf l j ws ∧ ws.length = (j + 63) / 64 ∧ RvN k sc A fl cap base vb l j ws rN r wr ∧ Below vb W0 wr
/-- What vector comes to. -/
def RvNPost (k sc : Int) (A : Option Addr) (fl cap base size : Nat) (l : List VT) (w : World) (e : Ending) (w' : World) : Prop :=
  ∃ (ws : List Nat) (rN r : Value), e = .returned (.agg #[.int .i64 k, .int .i64 sc, .slice A fl cap, rN, r, .slice none 0 0, .slice none 0 0]) ∧ Below w.heap.size w w' ∧ BitsOf l size ws ∧ ws.length = (size + 63) / 64 ∧ w'.ownsRow base 66 1 rN ws.length ((wI ws).map (Value.int .u64)) ∧ w'.ownsRow base 3 1 r size (((l.map nz).take size).flatMap (fun x => [Value.int .i64 x.a.n]))
structure RvS (k sc : Int) (A : Option Addr) (fl cap base vb : Nat) (l : List VT) (j : Nat) (ws : List Nat) (rN r : Value) (w : World) : Prop where
  v : w.heap[vb]? = some (.cells #[.int .i64 k, .int .i64 sc, .slice A fl cap, rN, .slice none 0 0, r, .slice none 0 0] 54 (0, 0))
  n : w.ownsRow base 66 1 rN ws.length ((wI ws).map (Value.int .u64))
  o : w.ownsRow base 9 1 r j (((l.map nz).take j).flatMap (fun x => [Value.string x.a.s]))
  ap : Ap rN r
  lt : vb < base
theorem RvS.keep {k sc : Int} {A : Option Addr} {fl cap base vb : Nat} {l : List VT} {j : Nat} {ws : List Nat} {rN r : Value} {w w' : World} (h : RvS k sc A fl cap base vb l j ws rN r w) (hv : w'.heap[vb]? = w.heap[vb]?) (hk : ∀ q, base ≤ q → q < w.heap.size → w'.heap[q]? = w.heap[q]?) : RvS k sc A fl cap base vb l j ws rN r w' :=
  ⟨hv.trans h.v, own_keep h.n hk, own_keep h.o hk, h.ap, h.lt⟩
theorem RvS.below {k sc : Int} {A : Option Addr} {fl cap base vb : Nat} {l : List VT} {j : Nat} {ws : List Nat} {rN r : Value} {w w' : World} (h : RvS k sc A fl cap base vb l j ws rN r w) (hb : Below w.heap.size w w') : RvS k sc A fl cap base vb l j ws rN r w' :=
  h.keep (hb.block _ (Array.getElem?_eq_some_iff.1 h.v).1) (fun q _ h2 => hb.block q h2)
theorem RvS.cells {k sc : Int} {A : Option Addr} {fl cap base vb : Nat} {l : List VT} {j : Nat} {ws : List Nat} {rN r : Value} {w : World} (h : RvS k sc A fl cap base vb l j ws rN r w) :
    w.cell? ⟨vb, 0, none⟩ = some (.int .i64 k) ∧ w.cell? ⟨vb, 1, none⟩ = some (.int .i64 sc) ∧ w.cell? ⟨vb, 2, none⟩ = some (.slice A fl cap) ∧ w.cell? ⟨vb, 3, none⟩ = some rN ∧ w.cell? ⟨vb, 5, none⟩ = some r ∧ ∀ i, w.frozen? ⟨vb, i, none⟩ = false :=
  ⟨cell_of_row w vb 0 _ _ _ h.v, cell_of_row w vb 1 _ _ _ h.v, cell_of_row w vb 2 _ _ _ h.v, cell_of_row w vb 3 _ _ _ h.v, cell_of_row w vb 5 _ _ _ h.v, fun i => by simp [World.frozen?, h.v]⟩
theorem RvS.all {k sc : Int} {A : Option Addr} {fl cap base vb : Nat} {l : List VT} {j : Nat} {ws : List Nat} {rN r : Value} {w : World} (h : RvS k sc A fl cap base vb l j ws rN r w) (i : Nat) : w.cell? ⟨vb, i, none⟩ = #[.int .i64 k, .int .i64 sc, .slice A fl cap, rN, .slice none 0 0, r, .slice none 0 0][i]? := cell_of_row w vb i _ _ _ h.v
theorem RvS.word {k sc : Int} {A : Option Addr} {fl cap base vb : Nat} {l : List VT} {j : Nat} {ws : List Nat} {rN r : Value} {w : World} (h : RvS k sc A fl cap base vb l j ws rN r w) {q : Nat} (hq : q < ws.length) :
    ∃ g c, rN = .slice (some ⟨g, 0, none⟩) ws.length c ∧ base ≤ g ∧ g < w.heap.size ∧ w.cell? ⟨g, q, none⟩ = some (.int .u64 ((ws.getD q 0 : Nat) : Int)) ∧ w.frozen? ⟨g, q, none⟩ = false := by
  rcases h.n.2 with ⟨_, hn⟩ | ⟨g, c, cur, e1, e2, e3, e4⟩
  · omega
  · refine ⟨g, c, e1, e2, (Array.getElem?_eq_some_iff.1 e3).1, ?_, by simp [World.frozen?, e3]⟩
    have hadd : (⟨g, 0, none⟩ : Addr).add q = ⟨g, q, none⟩ := by unfold Addr.add; split <;> simp_all
    have := h.n.cells (g := g) (by rw [e1]; rfl) q _ (by rw [← List.getElem?_toArray]; exact wI_cell hq)
    rw [hadd] at this
    exact this
/-- A bit is set. -/
theorem RvS.bit {k sc : Int} {A : Option Addr} {fl cap base vb : Nat} {l : List VT} {j : Nat} {ws : List Nat} {r : Value} {w : World} {g cc : Nat} (h : RvS k sc A fl cap base vb l j ws (.slice (some ⟨g, 0, none⟩) ws.length cc) r w) (hq : j / 64 < ws.length) (hb : BitsOf l j ws) (hn : nulAt l j = true) (c : Nat) (hc : ws.getD (j / 64) 0 = c) (hg : base ≤ g) :
    ∃ ws', BitsOf l (j + 1) ws' ∧ ws'.length = ws.length ∧ RvS k sc A fl cap base vb l j ws' (.slice (some ⟨g, 0, none⟩) ws'.length cc) r (w.setCell ⟨g, j / 64, none⟩ (.int .u64 (bits .or .u64 (c : Int) (IntKind.u64.wrap (2 ^ (j % 64)))))) := by
  have hp : 2 ^ (j % 64) < 18446744073709551616 := by
    have : (18446744073709551616 : Nat) = 2 ^ 64 := by decide
    rw [this]
    exact Nat.pow_lt_pow_right (by omega) (by omega)
  have hcl : c < 18446744073709551616 := by rw [← hc]; exact getD_lt hb.2 _
  have hw : IntKind.u64.wrap (2 ^ (j % 64)) = ((2 ^ (j % 64) : Nat) : Int) := by
    rw [pow_cast, IntKind.wrap_u64]
    generalize 2 ^ (j % 64) = p at hp ⊢
    omega
  have hl : (ws.set (j / 64) (c ||| 2 ^ (j % 64))).length = ws.length := List.length_set
  have hlt := h.lt
  refine ⟨ws.set (j / 64) (c ||| 2 ^ (j % 64)), ?_, hl, ?_⟩
  · rw [← hc]
    exact hb.set hq hn
  rw [hl]
  refine ⟨(Deep.blk_setCell_other _ _ _ _ (by simp; omega)).trans h.v, ?_, ownsRow_setCell_other h.o (h.ap g rfl) _, h.ap, h.lt⟩
  · have := own_set h.n (g := g) rfl (j / 64) (.int .u64 (bits .or .u64 (c : Int) (IntKind.u64.wrap (2 ^ (j % 64)))))
    rw [hw, bits_or_u64_nat c _ hcl hp] at this ⊢
    have e : (wI (ws.set (j / 64) (c ||| 2 ^ (j % 64)))).map (Value.int .u64) = ((wI ws).map (Value.int .u64)).set (j / 64) (.int .u64 ((c ||| 2 ^ (j % 64) : Nat) : Int)) := by simp [wI, List.map_set]
    rw [hl, e]
    exact this
/-- A word is appended. -/
theorem RvS.more {k sc : Int} {A : Option Addr} {fl cap base vb : Nat} {l : List VT} {j : Nat} {ws : List Nat} {rN rN' r : Value} {w w' : World} (h : RvS k sc A fl cap base vb l j ws rN r w) (hown : w'.ownsRow base 66 1 rN' (ws.length + 1) ((wI ws).map (Value.int .u64) ++ [.int .u64 0])) (hg : w.grownBy w' rN.ownBlock) (hm : Moved w rN rN') :
    RvS k sc A fl cap base vb l j (ws ++ [0]) rN' r (w'.setCell ⟨vb, 3, none⟩ rN') := by
  have hlt := h.lt
  have hr := own_grown h.o hg (fun q hq e => h.ap q e hq)
  have hv : w'.heap[vb]? = w.heap[vb]? := hg.block vb (Array.getElem?_eq_some_iff.1 h.v).1 (fun e => by have := (h.n.lt vb e.symm).1; omega)
  refine ⟨?_, ?_, ?_, moved_ap h.ap hm (fun q hq => (h.o.lt q hq).2), h.lt⟩
  · rw [setCell_row _ _ _ _ _ _ _ (hv.trans h.v)]; simp
  · rw [wI_snoc, List.length_append]
    exact own_keep hown fun q h1 _ => Deep.blk_setCell_other _ _ _ _ (by simp; omega)
  · exact own_keep hr fun q h1 _ => Deep.blk_setCell_other _ _ _ _ (by simp; omega)
/-- A value is appended. -/
theorem RvS.step {k sc : Int} {A : Option Addr} {fl cap base vb : Nat} {l : List VT} {j : Nat} {ws : List Nat} {rN r r' : Value} {w w' : World} {x y : VT} (h : RvS k sc A fl cap base vb l j ws rN r w) (hx : l[j]? = some x) (hy : nz x = y) (hown : w'.ownsRow base 9 1 r' (j + 1) (((l.map nz).take j).flatMap (fun x => [Value.string x.a.s]) ++ (fun x => [Value.string x.a.s]) y)) (hg : w.grownBy w' r.ownBlock) (hm : Moved w r r') :
    RvS k sc A fl cap base vb l (j + 1) ws rN r' (w'.setCell ⟨vb, 5, none⟩ r') := by
  have hlt := h.lt
  have hn := own_grown h.n hg (fun q hq e => h.ap q hq e)
  have hv : w'.heap[vb]? = w.heap[vb]? := hg.block vb (Array.getElem?_eq_some_iff.1 h.v).1 (fun e => by have := (h.o.lt vb e.symm).1; omega)
  have ht : (l.map nz).take (j + 1) = (l.map nz).take j ++ [y] := by
    rw [List.take_add_one, List.getElem?_map, hx]
    simp [hy]
  refine ⟨?_, ?_, ?_, (moved_ap h.ap.symm hm (fun q hq => (h.n.lt q hq).2)).symm, h.lt⟩
  · rw [setCell_row _ _ _ _ _ _ _ (hv.trans h.v)]; simp
  · exact own_keep hn fun q h1 _ => Deep.blk_setCell_other _ _ _ _ (by simp; omega)
  · rw [ht, List.flatMap_append]
    simp only [List.flatMap_cons, List.flatMap_nil, List.append_nil]
    exact own_keep hown fun q h1 _ => Deep.blk_setCell_other _ _ _ _ (by simp; omega)
theorem RvS.other {k sc : Int} {A : Option Addr} {fl cap base vb : Nat} {l : List VT} {j : Nat} {ws : List Nat} {rN r : Value} {w : World} (h : RvS k sc A fl cap base vb l j ws rN r w) {xb : Nat} (h1 : rN.ownBlock ≠ some xb) (h2 : r.ownBlock ≠ some xb) (h3 : vb ≠ xb) (i : Nat) (u : Value) : RvS k sc A fl cap base vb l j ws rN r (w.setCell ⟨xb, i, none⟩ u) :=
  ⟨(Deep.blk_setCell_other _ _ _ _ (by simpa using h3)).trans h.v, ownsRow_setCell_other h.n h1 _, ownsRow_setCell_other h.o h2 _, h.ap, h.lt⟩
/-- What the loop has at its head. -/
def RvSRel (k sc : Int) (A : Option Addr) (fl cap base : Nat) (W0 : World) (vb : Nat) (l : List VT) (size : Nat) (i : Value) (wr : World) : Prop :=
  ∃ (j : Nat) (ws : List Nat) (rN r : Value), j ≤ size ∧ i = .int .i64 j ∧ BitsOf l j ws ∧ ws.length = (j + 63) / 64 ∧ RvS k sc A fl cap base vb l j ws rN r wr ∧ Below vb W0 wr
/-- What vector comes to. -/
def RvSPost (k sc : Int) (A : Option Addr) (fl cap base size : Nat) (l : List VT) (w : World) (e : Ending) (w' : World) : Prop :=
  ∃ (ws : List Nat) (rN r : Value), e = .returned (.agg #[.int .i64 k, .int .i64 sc, .slice A fl cap, rN, .slice none 0 0, r, .slice none 0 0]) ∧ Below w.heap.size w w' ∧ BitsOf l size ws ∧ ws.length = (size + 63) / 64 ∧ w'.ownsRow base 66 1 rN ws.length ((wI ws).map (Value.int .u64)) ∧ w'.ownsRow base 9 1 r size (((l.map nz).take size).flatMap (fun x => [Value.string x.a.s]))
structure RvV (k sc : Int) (A : Option Addr) (fl cap base vb : Nat) (l : List VT) (j : Nat) (ws : List Nat) (rN r : Value) (w : World) : Prop where
  v : w.heap[vb]? = some (.cells #[.int .i64 k, .int .i64 sc, .slice A fl cap, rN, .slice none 0 0, .slice none 0 0, r] 54 (0, 0))
  n : w.ownsRow base 66 1 rN ws.length ((wI ws).map (Value.int .u64))
  o : w.ownsRow base 61 5 r j (((l.map nz).take j).flatMap vCells)
  ap : Ap rN r
  lt : vb < base
theorem RvV.keep {k sc : Int} {A : Option Addr} {fl cap base vb : Nat} {l : List VT} {j : Nat} {ws : List Nat} {rN r : Value} {w w' : World} (h : RvV k sc A fl cap base vb l j ws rN r w) (hv : w'.heap[vb]? = w.heap[vb]?) (hk : ∀ q, base ≤ q → q < w.heap.size → w'.heap[q]? = w.heap[q]?) : RvV k sc A fl cap base vb l j ws rN r w' :=
  ⟨hv.trans h.v, own_keep h.n hk, own_keep h.o hk, h.ap, h.lt⟩
theorem RvV.below {k sc : Int} {A : Option Addr} {fl cap base vb : Nat} {l : List VT} {j : Nat} {ws : List Nat} {rN r : Value} {w w' : World} (h : RvV k sc A fl cap base vb l j ws rN r w) (hb : Below w.heap.size w w') : RvV k sc A fl cap base vb l j ws rN r w' :=
  h.keep (hb.block _ (Array.getElem?_eq_some_iff.1 h.v).1) (fun q _ h2 => hb.block q h2)
theorem RvV.cells {k sc : Int} {A : Option Addr} {fl cap base vb : Nat} {l : List VT} {j : Nat} {ws : List Nat} {rN r : Value} {w : World} (h : RvV k sc A fl cap base vb l j ws rN r w) :
    w.cell? ⟨vb, 0, none⟩ = some (.int .i64 k) ∧ w.cell? ⟨vb, 1, none⟩ = some (.int .i64 sc) ∧ w.cell? ⟨vb, 2, none⟩ = some (.slice A fl cap) ∧ w.cell? ⟨vb, 3, none⟩ = some rN ∧ w.cell? ⟨vb, 6, none⟩ = some r ∧ ∀ i, w.frozen? ⟨vb, i, none⟩ = false :=
  ⟨cell_of_row w vb 0 _ _ _ h.v, cell_of_row w vb 1 _ _ _ h.v, cell_of_row w vb 2 _ _ _ h.v, cell_of_row w vb 3 _ _ _ h.v, cell_of_row w vb 6 _ _ _ h.v, fun i => by simp [World.frozen?, h.v]⟩
theorem RvV.all {k sc : Int} {A : Option Addr} {fl cap base vb : Nat} {l : List VT} {j : Nat} {ws : List Nat} {rN r : Value} {w : World} (h : RvV k sc A fl cap base vb l j ws rN r w) (i : Nat) : w.cell? ⟨vb, i, none⟩ = #[.int .i64 k, .int .i64 sc, .slice A fl cap, rN, .slice none 0 0, .slice none 0 0, r][i]? := cell_of_row w vb i _ _ _ h.v
theorem RvV.word {k sc : Int} {A : Option Addr} {fl cap base vb : Nat} {l : List VT} {j : Nat} {ws : List Nat} {rN r : Value} {w : World} (h : RvV k sc A fl cap base vb l j ws rN r w) {q : Nat} (hq : q < ws.length) :
    ∃ g c, rN = .slice (some ⟨g, 0, none⟩) ws.length c ∧ base ≤ g ∧ g < w.heap.size ∧ w.cell? ⟨g, q, none⟩ = some (.int .u64 ((ws.getD q 0 : Nat) : Int)) ∧ w.frozen? ⟨g, q, none⟩ = false := by
  rcases h.n.2 with ⟨_, hn⟩ | ⟨g, c, cur, e1, e2, e3, e4⟩
  · omega
  · refine ⟨g, c, e1, e2, (Array.getElem?_eq_some_iff.1 e3).1, ?_, by simp [World.frozen?, e3]⟩
    have hadd : (⟨g, 0, none⟩ : Addr).add q = ⟨g, q, none⟩ := by unfold Addr.add; split <;> simp_all
    have := h.n.cells (g := g) (by rw [e1]; rfl) q _ (by rw [← List.getElem?_toArray]; exact wI_cell hq)
    rw [hadd] at this
    exact this
/-- A bit is set. -/
theorem RvV.bit {k sc : Int} {A : Option Addr} {fl cap base vb : Nat} {l : List VT} {j : Nat} {ws : List Nat} {r : Value} {w : World} {g cc : Nat} (h : RvV k sc A fl cap base vb l j ws (.slice (some ⟨g, 0, none⟩) ws.length cc) r w) (hq : j / 64 < ws.length) (hb : BitsOf l j ws) (hn : nulAt l j = true) (c : Nat) (hc : ws.getD (j / 64) 0 = c) (hg : base ≤ g) :
    ∃ ws', BitsOf l (j + 1) ws' ∧ ws'.length = ws.length ∧ RvV k sc A fl cap base vb l j ws' (.slice (some ⟨g, 0, none⟩) ws'.length cc) r (w.setCell ⟨g, j / 64, none⟩ (.int .u64 (bits .or .u64 (c : Int) (IntKind.u64.wrap (2 ^ (j % 64)))))) := by
  have hp : 2 ^ (j % 64) < 18446744073709551616 := by
    have : (18446744073709551616 : Nat) = 2 ^ 64 := by decide
    rw [this]
    exact Nat.pow_lt_pow_right (by omega) (by omega)
  have hcl : c < 18446744073709551616 := by rw [← hc]; exact getD_lt hb.2 _
  have hw : IntKind.u64.wrap (2 ^ (j % 64)) = ((2 ^ (j % 64) : Nat) : Int) := by
    rw [pow_cast, IntKind.wrap_u64]
    generalize 2 ^ (j % 64) = p at hp ⊢
    omega
  have hl : (ws.set (j / 64) (c ||| 2 ^ (j % 64))).length = ws.length := List.length_set
  have hlt := h.lt
  refine ⟨ws.set (j / 64) (c ||| 2 ^ (j % 64)), ?_, hl, ?_⟩
  · rw [← hc]
    exact hb.set hq hn
  rw [hl]
  refine ⟨(Deep.blk_setCell_other _ _ _ _ (by simp; omega)).trans h.v, ?_, ownsRow_setCell_other h.o (h.ap g rfl) _, h.ap, h.lt⟩
  · have := own_set h.n (g := g) rfl (j / 64) (.int .u64 (bits .or .u64 (c : Int) (IntKind.u64.wrap (2 ^ (j % 64)))))
    rw [hw, bits_or_u64_nat c _ hcl hp] at this ⊢
    have e : (wI (ws.set (j / 64) (c ||| 2 ^ (j % 64)))).map (Value.int .u64) = ((wI ws).map (Value.int .u64)).set (j / 64) (.int .u64 ((c ||| 2 ^ (j % 64) : Nat) : Int)) := by simp [wI, List.map_set]
    rw [hl, e]
    exact this
/-- A word is appended. -/
theorem RvV.more {k sc : Int} {A : Option Addr} {fl cap base vb : Nat} {l : List VT} {j : Nat} {ws : List Nat} {rN rN' r : Value} {w w' : World} (h : RvV k sc A fl cap base vb l j ws rN r w) (hown : w'.ownsRow base 66 1 rN' (ws.length + 1) ((wI ws).map (Value.int .u64) ++ [.int .u64 0])) (hg : w.grownBy w' rN.ownBlock) (hm : Moved w rN rN') :
    RvV k sc A fl cap base vb l j (ws ++ [0]) rN' r (w'.setCell ⟨vb, 3, none⟩ rN') := by
  have hlt := h.lt
  have hr := own_grown h.o hg (fun q hq e => h.ap q e hq)
  have hv : w'.heap[vb]? = w.heap[vb]? := hg.block vb (Array.getElem?_eq_some_iff.1 h.v).1 (fun e => by have := (h.n.lt vb e.symm).1; omega)
  refine ⟨?_, ?_, ?_, moved_ap h.ap hm (fun q hq => (h.o.lt q hq).2), h.lt⟩
  · rw [setCell_row _ _ _ _ _ _ _ (hv.trans h.v)]; simp
  · rw [wI_snoc, List.length_append]
    exact own_keep hown fun q h1 _ => Deep.blk_setCell_other _ _ _ _ (by simp; omega)
  · exact own_keep hr fun q h1 _ => Deep.blk_setCell_other _ _ _ _ (by simp; omega)
/-- A value is appended. -/
theorem RvV.step {k sc : Int} {A : Option Addr} {fl cap base vb : Nat} {l : List VT} {j : Nat} {ws : List Nat} {rN r r' : Value} {w w' : World} {x y : VT} (h : RvV k sc A fl cap base vb l j ws rN r w) (hx : l[j]? = some x) (hy : nz x = y) (hown : w'.ownsRow base 61 5 r' (j + 1) (((l.map nz).take j).flatMap vCells ++ vCells y)) (hg : w.grownBy w' r.ownBlock) (hm : Moved w r r') :
    RvV k sc A fl cap base vb l (j + 1) ws rN r' (w'.setCell ⟨vb, 6, none⟩ r') := by
  have hlt := h.lt
  have hn := own_grown h.n hg (fun q hq e => h.ap q hq e)
  have hv : w'.heap[vb]? = w.heap[vb]? := hg.block vb (Array.getElem?_eq_some_iff.1 h.v).1 (fun e => by have := (h.o.lt vb e.symm).1; omega)
  have ht : (l.map nz).take (j + 1) = (l.map nz).take j ++ [y] := by
    rw [List.take_add_one, List.getElem?_map, hx]
    simp [hy]
  refine ⟨?_, ?_, ?_, (moved_ap h.ap.symm hm (fun q hq => (h.n.lt q hq).2)).symm, h.lt⟩
  · rw [setCell_row _ _ _ _ _ _ _ (hv.trans h.v)]; simp
  · exact own_keep hn fun q h1 _ => Deep.blk_setCell_other _ _ _ _ (by simp; omega)
  · rw [ht, List.flatMap_append]
    simp only [List.flatMap_cons, List.flatMap_nil, List.append_nil]
    exact own_keep hown fun q h1 _ => Deep.blk_setCell_other _ _ _ _ (by simp; omega)
theorem RvV.other {k sc : Int} {A : Option Addr} {fl cap base vb : Nat} {l : List VT} {j : Nat} {ws : List Nat} {rN r : Value} {w : World} (h : RvV k sc A fl cap base vb l j ws rN r w) {xb : Nat} (h1 : rN.ownBlock ≠ some xb) (h2 : r.ownBlock ≠ some xb) (h3 : vb ≠ xb) (i : Nat) (u : Value) : RvV k sc A fl cap base vb l j ws rN r (w.setCell ⟨xb, i, none⟩ u) :=
  ⟨(Deep.blk_setCell_other _ _ _ _ (by simpa using h3)).trans h.v, ownsRow_setCell_other h.n h1 _, ownsRow_setCell_other h.o h2 _, h.ap, h.lt⟩
/-- What the loop has at its head. -/
def RvVRel (k sc : Int) (A : Option Addr) (fl cap base : Nat) (W0 : World) (vb : Nat) (l : List VT) (size : Nat) (i : Value) (wr : World) : Prop :=
  ∃ (j : Nat) (ws : List Nat) (rN r : Value), j ≤ size ∧ i = .int .i64 j ∧ BitsOf l j ws ∧ ws.length = (j + 63) / 64 ∧ RvV k sc A fl cap base vb l j ws rN r wr ∧ Below vb W0 wr
/-- What vector comes to. -/
def RvVPost (k sc : Int) (A : Option Addr) (fl cap base size : Nat) (l : List VT) (w : World) (e : Ending) (w' : World) : Prop :=
  ∃ (ws : List Nat) (rN r : Value), e = .returned (.agg #[.int .i64 k, .int .i64 sc, .slice A fl cap, rN, .slice none 0 0, .slice none 0 0, r]) ∧ Below w.heap.size w w' ∧ BitsOf l size ws ∧ ws.length = (size + 63) / 64 ∧ w'.ownsRow base 66 1 rN ws.length ((wI ws).map (Value.int .u64)) ∧ w'.ownsRow base 61 5 r size (((l.map nz).take size).flatMap vCells)
end Go.Proofs.YtkadahfknccjfaaGreatDoor
