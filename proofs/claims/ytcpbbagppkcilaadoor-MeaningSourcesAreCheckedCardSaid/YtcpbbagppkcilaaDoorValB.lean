/-
  Package value: the fields of a type.
-/
import Derived.Test.YtcpbbagppkcilaaDoorValA
import Derived.Test.YtcpbbagppkcilaaDoorRefC
namespace Go.Proofs.YtcpbbagppkcilaaDoor
open Go.RowKit
/-- What is wrong with the number and the names of the fields. -/
def fieldsS (k : Int) (l : List FT) : Int :=
  if k = 6 then (if l.length ≠ 1 ∨ (nmAt l 0).toList ≠ [] then 1 else 0) else if k ≠ 7 then (if l.length = 0 then 0 else 1) else if l.length = 0 then 1 else recS l
theorem shape_fields {k sc : Int} {l : List FT} (h1 : withinB k 1 7 = true) (h2 : scaleB k sc = true) : shapeS k sc l = fieldsS k l := by
  unfold shapeS fieldsS recS
  rw [h1, h2, if_neg (by simp), if_neg (by simp)]
theorem FT.Row.take {B : Nat} {w : World} {A : Option Addr} {cap : Nat} {l : List FT} (h : FT.Row B w A cap l) (j : Nat) : FT.Row B w A cap (l.take j) := by
  refine ⟨?_, h.2.1, fun i x hx => ?_⟩
  · have := h.1; rw [List.length_take]; omega
  · rw [List.getElem?_take] at hx
    split at hx
    · exact h.2.2 i x hx
    · cases hx
set_option maxRecDepth 100000 in
set_option maxHeartbeats 1000000 in
theorem vf1_any (x : FT) (w : World) (hs : x.a.nm.size ≤ maxLen) :
    Calls Tryd.prog 105 #[.agg #[.int .i64 x.a.id, .string x.a.nm, .bool x.a.nd, .int .i64 x.a.k, .int .i64 x.a.sc, .slice x.a.A x.l.length x.a.cap]] w fun e w' => e = .returned (.bool (!nameB x.a.nm)) ∧ Below w.heap.size w w' := by
  have hn := Lib.hid fun o => vName_any x.a.nm (w.alloc o) hs
  clear hs
  go_enter Tryd.func105, Tryd.ntmps105
  go_wp2_with (go_at_call 106; refine (hn.out _).mono ?_; rintro e w' ⟨rfl, hb⟩)
  go_ret
  exact ⟨rfl, (bel1 _ _).trans (hb.mono (by simp))⟩
set_option maxRecDepth 100000 in
set_option maxHeartbeats 1000000 in
theorem vf2_any (x : FT) (s : ByteArray) (fb : Nat) (w : World) (hc : w.cell? ⟨fb, 1, none⟩ = some (.string s)) :
    Calls Tryd.prog 107 #[.agg #[.int .i64 x.a.id, .string x.a.nm, .bool x.a.nd, .int .i64 x.a.k, .int .i64 x.a.sc, .slice x.a.A x.l.length x.a.cap], .pointer (some ⟨fb, 0, none⟩)] w fun e w' => e = .returned (.bool (x.a.nm.toList == s.toList)) ∧ Below w.heap.size w w' := by
  have hc1 := fun o => cell_old hc o
  have hlt := cell_lt hc
  clear hc
  go_enter Tryd.func107, Tryd.ntmps107
  go_wp2
  go_ret
  exact ⟨rfl, bel1 _ _⟩
set_option maxRecDepth 100000 in
set_option maxHeartbeats 2000000 in
theorem vfields_leaf0 (k sc : Int) (A : Option Addr) (cap : Nat) (w : World) (h6 : k ≠ 6) (h7 : k ≠ 7) :
    Calls Tryd.prog 92 #[.agg #[.int .i64 k, .int .i64 sc, .slice A 0 cap]] w fun e w' => e = .returned (.int .i64 0) ∧ Below w.heap.size w w' := by
  have e6 : (k == 6) = false := by simpa using h6
  have n7 : (k != 7) = true := by simpa using h7
  clear h6 h7
  go_enter Tryd.func92, Tryd.ntmps92
  go_wp2
  go_ret
  exact ⟨rfl, bel1 _ _⟩
set_option maxRecDepth 100000 in
set_option maxHeartbeats 2000000 in
theorem vfields_leaf1 (k sc : Int) (A : Option Addr) (len cap : Nat) (w : World) (hl : len ≤ maxLen) (h0 : 0 < len) (h6 : k ≠ 6) (h7 : k ≠ 7) :
    Calls Tryd.prog 92 #[.agg #[.int .i64 k, .int .i64 sc, .slice A len cap]] w fun e w' => e = .returned (.int .i64 1) ∧ Below w.heap.size w w' := by
  unfold maxLen at hl
  have e6 : (k == 6) = false := by simpa using h6
  have n7 : (k != 7) = true := by simpa using h7
  clear h6 h7
  go_enter Tryd.func92, Tryd.ntmps92
  go_wp2
  go_ret
  exact ⟨rfl, bel1 _ _⟩
set_option maxRecDepth 100000 in
set_option maxHeartbeats 2000000 in
theorem vfields_many (sc : Int) (A : Option Addr) (len cap : Nat) (w : World) (hl : len ≤ maxLen) (h1 : len ≠ 1) :
    Calls Tryd.prog 92 #[.agg #[.int .i64 6, .int .i64 sc, .slice A len cap]] w fun e w' => e = .returned (.int .i64 1) ∧ Below w.heap.size w w' := by
  unfold maxLen at hl
  have n1 : ((len : Int) != 1) = true := by simp; omega
  clear h1
  go_enter Tryd.func92, Tryd.ntmps92
  go_wp2
  go_ret
  exact ⟨rfl, bel1 _ _⟩
set_option maxRecDepth 100000 in
set_option maxHeartbeats 2000000 in
theorem vfields_none (sc : Int) (ad : Addr) (cap : Nat) (s : ByteArray) (w : World) (c1 : w.cell? ⟨ad.block, ad.off + 1, none⟩ = some (.string s)) (he : s.toList = []) :
    Calls Tryd.prog 92 #[.agg #[.int .i64 6, .int .i64 sc, .slice (some ad) 1 cap]] w fun e w' => e = .returned (.int .i64 0) ∧ Below w.heap.size w w' := by
  have ha : ad.add 0 = ad := rfl
  have hlt : ad.block < w.heap.size := cell_lt (p := ⟨ad.block, ad.off + 1, none⟩) c1
  have c1' := fun o => cell_old c1 o
  clear c1
  go_enter Tryd.func92, Tryd.ntmps92
  go_wp2
  go_ret
  exact ⟨rfl, bel1 _ _⟩
set_option maxRecDepth 100000 in
set_option maxHeartbeats 2000000 in
theorem vfields_named (sc : Int) (ad : Addr) (cap : Nat) (s : ByteArray) (w : World) (c1 : w.cell? ⟨ad.block, ad.off + 1, none⟩ = some (.string s)) (he : s.toList ≠ []) :
    Calls Tryd.prog 92 #[.agg #[.int .i64 6, .int .i64 sc, .slice (some ad) 1 cap]] w fun e w' => e = .returned (.int .i64 1) ∧ Below w.heap.size w w' := by
  have ha : ad.add 0 = ad := rfl
  have hlt : ad.block < w.heap.size := cell_lt (p := ⟨ad.block, ad.off + 1, none⟩) c1
  have c1' := fun o => cell_old c1 o
  have hne : (!s.toList.isEmpty) = true := by simpa using he
  clear c1 he
  go_enter Tryd.func92, Tryd.ntmps92
  go_wp2
  go_ret
  exact ⟨rfl, bel1 _ _⟩
set_option maxRecDepth 100000 in
set_option maxHeartbeats 2000000 in
theorem vfields_rec0 (sc : Int) (A : Option Addr) (cap : Nat) (w : World) :
    Calls Tryd.prog 92 #[.agg #[.int .i64 7, .int .i64 sc, .slice A 0 cap]] w fun e w' => e = .returned (.int .i64 1) ∧ Below w.heap.size w w' := by
  go_enter Tryd.func92, Tryd.ntmps92
  go_wp2
  go_ret
  exact ⟨rfl, bel1 _ _⟩
/-- The first names are names. -/
def NmSt (w : World) (l : List FT) (j : Nat) (W : World) : Prop := Below w.heap.size w W ∧ ∀ i, i < j → nameB (nmAt l i) = true
def NmFin (w : World) (l : List FT) (W : World) : Prop := Below w.heap.size w W ∧ namesB l = false
/-- No name among the first ones is s. -/
def TwSt (w : World) (l : List FT) (s : ByteArray) (j : Nat) (W : World) : Prop := Below w.heap.size w W ∧ ∀ i, i < j → ((nmAt l i).toList == s.toList) = false
def TwFin (w : World) (l : List FT) (s : ByteArray) (n : Nat) (W : World) : Prop := Below w.heap.size w W ∧ ∃ i, i < n ∧ ((nmAt l i).toList == s.toList) = true
theorem names_ct {B : Nat} {w : World} (A : Option Addr) (cap len : Nat) (l : List FT) (hr : FT.Row B w A cap l) (hin : ∀ x, x ∈ l → FT.In B w x) (hB : B ≤ w.heap.size) (hlen : Hid (l.length = len)) :
    Calls Tryd.prog 70 #[.slice A len cap, .func (.func 105) #[] #[]] w (CtPost len (NmSt w l) (NmFin w l)) := by
  refine ctF_any 105 #[] (enters_of Tryd.func105 (by kernel_rfl) rfl) l A cap len B w hr hlen (NmSt w l) (NmFin w l) ⟨Below.refl _ _, fun i h => absurd h (by omega)⟩ (fun j W h => Same.mono (Same.of_below h.1) hB) (fun j x W hx hst => ?_)
  have hnm : x.a.nm.size ≤ maxLen := by have := hin x (mem_of_get? hx); cases this; assumption
  have hlt : j < l.length := (List.getElem?_eq_some_iff.1 hx).1
  refine (vf1_any x W hnm).mono fun e w' ⟨he, hb⟩ => ?_
  have hb' := hst.1.trans (hb.mono hst.1.size)
  cases hn : nameB x.a.nm
  · rw [hn] at he
    exact .inl ⟨he, hb', namesB_false hlt (by rw [nmAt_of hx]; exact hn)⟩
  · rw [hn] at he
    exact .inr ⟨he, hb', names_step hst.2 (by rw [nmAt_of hx]; exact hn)⟩
theorem twice_ct {B : Nat} {w : World} (A : Option Addr) (cap j fb : Nat) (l : List FT) (s : ByteArray) (hr : FT.Row B w A cap l) (hB : B ≤ w.heap.size) (hj : j ≤ l.length) (hc : w.cell? ⟨fb, 1, none⟩ = some (.string s)) :
    Calls Tryd.prog 70 #[.slice A j cap, .func (.func 107) #[] #[.pointer (some ⟨fb, 0, none⟩)]] w (CtPost j (TwSt w l s) (TwFin w l s j)) := by
  refine ctF_any 107 #[.pointer (some ⟨fb, 0, none⟩)] (enters_of Tryd.func107 (by kernel_rfl) rfl) (l.take j) A cap j B w (hr.take j) (by show (l.take j).length = j; rw [List.length_take]; omega) (TwSt w l s) (TwFin w l s j) ⟨Below.refl _ _, fun i h => absurd h (by omega)⟩ (fun j W h => Same.mono (Same.of_below h.1) hB) (fun i x W hx hst => ?_)
  rw [List.getElem?_take] at hx
  split at hx
  · rename_i hij
    refine (vf2_any x s fb W ((hst.1.cell (p := ⟨fb, 1, none⟩) (cell_lt hc)).trans hc)).mono fun e w' ⟨he, hb⟩ => ?_
    have hb' := hst.1.trans (hb.mono hst.1.size)
    cases hn : (x.a.nm.toList == s.toList)
    · rw [hn] at he
      refine .inr ⟨he, hb', fun q hq => ?_⟩
      by_cases e : q = i
      · subst e; rw [nmAt_of hx]; exact hn
      · exact hst.2 q (by omega)
    · rw [hn] at he
      exact .inl ⟨he, hb', i, hij, by rw [nmAt_of hx]; exact hn⟩
  · cases hx
end Go.Proofs.YtcpbbagppkcilaaDoor
