/-
  Package value: small functions; names.
  Package value: the fields of a type.
  Package value: the fields of a record's type.
  Package value: the check of types.
-/
import Derived.Test.YtkadahfknccjfaaGreatDoorQRefE
import Derived.Test.YtkadahfknccjfaaGreatDoorQShelf
import Derived.Test.YtkadahfknccjfaaGreatDoorQLib2
import Derived.Test.YtkadahfknccjfaaGreatDoorQUtf
import Derived.Deep.Light
namespace Go.Proofs.YtkadahfknccjfaaGreatDoor
open Go.RowKit
theorem toList_empty {s : ByteArray} (h : s.size = 0) : s.toList = [] := by rw [ByteArray.toList_eq]; exact List.eq_nil_of_length_eq_zero h
theorem toList_isEmpty {s : ByteArray} (h : s.size ≠ 0) : s.toList.isEmpty = false := by
  rw [ByteArray.toList_eq]
  cases e : s.data.toList with
  | nil => exact absurd (show s.data.toList.length = 0 by rw [e]; rfl) h
  | cons _ _ => rfl
theorem vwithin_any (n a b : Int) (w : World) :
    Calls Tryz.prog 103 #[.int .i64 n, .int .i64 a, .int .i64 b] w fun e w' => e = .returned (.bool (withinB n a b)) ∧ w = w' := by
  by_cases h1 : a ≤ n <;> by_cases h2 : n ≤ b
  all_goals
    go_enter Tryz.func103, Tryz.ntmps103
    go_wp2
    go_ret
    exact ⟨by simp [withinB, h1, h2], rfl⟩
theorem vleaf_any (k sc : Int) (A : Option Addr) (len cap : Nat) (w : World) :
    Calls Tryz.prog 88 #[.agg #[.int .i64 k, .int .i64 sc, .slice A len cap]] w fun e w' => e = .returned (.bool (leafB k)) ∧ Below w.heap.size w w' := by
  by_cases h6 : k = 6
  · subst h6
    have hf := Lib.hid (show leafB 6 = false by rfl)
    go_enter Tryz.func88, Tryz.ntmps88
    go_wp2
    go_ret
    exact ⟨by rw [hf.out]; rfl, bel1 _ _⟩
  by_cases h7 : k = 7
  · subst h7
    have hf := Lib.hid (show leafB 7 = false by rfl)
    go_enter Tryz.func88, Tryz.ntmps88
    go_wp2
    go_ret
    exact ⟨by rw [hf.out]; rfl, bel1 _ _⟩
  have hf := Lib.hid (show leafB k = true by simp [leafB, h6, h7])
  have n6 : (k != 6) = true := by simpa using h6
  have n7 : (k != 7) = true := by simpa using h7
  clear h6 h7
  go_enter Tryz.func88, Tryz.ntmps88
  go_wp2
  go_ret
  exact ⟨by rw [hf.out]; rfl, bel1 _ _⟩
set_option maxRecDepth 100000 in
set_option maxHeartbeats 1000000 in
theorem vName1_any (r : Nat) (w : World) :
    Calls Tryz.prog 107 #[.int .i32 (r : Int)] w fun e w' => e = .returned (.bool (wrongB r)) ∧ w' = w := by
  obtain ⟨R, hR⟩ : ∃ R, wrongB r = R := ⟨_, rfl⟩
  rw [hR]
  have HR := Lib.hid hR
  clear hR
  have hx : (97 ≤ (r : Int) ∧ (r : Int) ≤ 122) ∨ (95 ≤ (r : Int) ∧ (r : Int) ≤ 95) ∨ (48 ≤ (r : Int) ∧ (r : Int) ≤ 57) ∨ (0 ≤ (r : Int) ∧ (r : Int) < 48) ∨ (57 < (r : Int) ∧ (r : Int) < 95) ∨ (95 < (r : Int) ∧ (r : Int) < 97) ∨ (122 < (r : Int)) := by omega
  rcases hx with ⟨a, b⟩ | ⟨a, b⟩ | ⟨a, b⟩ | ⟨a, b⟩ | ⟨a, b⟩ | ⟨a, b⟩ | a
  · have hf := Lib.hid (show R = false by rw [← HR.out]; simp [wrongB]; omega)
    go_enter Tryz.func107, Tryz.ntmps107
    go_wp2
    go_ret
    exact ⟨by rw [hf.out]; rfl, rfl⟩
  · have hf := Lib.hid (show R = false by rw [← HR.out]; simp [wrongB]; omega)
    have e0 : ((r : Int) != 95) = false := by simp; omega
    go_enter Tryz.func107, Tryz.ntmps107
    go_wp2
    go_ret
    exact ⟨by rw [hf.out]; rfl, rfl⟩
  · have hf := Lib.hid (show R = false by rw [← HR.out]; simp [wrongB]; omega)
    go_enter Tryz.func107, Tryz.ntmps107
    go_wp2
    go_ret
    exact ⟨by rw [hf.out]; rfl, rfl⟩
  all_goals
    have hf := Lib.hid (show R = true by rw [← HR.out]; simp [wrongB]; omega)
    have e0 : ((r : Int) != 95) = true := by simp; omega
    try have e5 : decide (57 < (r : Int)) = true := by simp; omega
    try have e4 : decide ((r : Int) < 48) = true := by simp; omega
    try have e3 : decide ((r : Int) < 48) = false := by simp; omega
    go_enter Tryz.func107, Tryz.ntmps107
    go_wp2
    go_ret
    exact ⟨by rw [hf.out]; rfl, rfl⟩
theorem wrong_pred (w : World) : PredAt Tryz.prog 107 #[] encR wrongB w := fun W r _ => (vName1_any r W).mono fun _e _w' ⟨he, hw⟩ => ⟨he, 0, hw⟩
set_option maxRecDepth 100000 in
set_option maxHeartbeats 1000000 in
theorem vName_any (s : ByteArray) (w : World) (hs : s.size ≤ maxLen) :
    Calls Tryz.prog 101 #[.string s] w fun e w' => e = .returned (.bool (nameB s)) ∧ Below w.heap.size w w' := by
  unfold maxLen at hs
  have hc := Lib.hid (Tryz.strings_ContainsFunc 107 #[] (enters_of Tryz.func107 (by kernel_rfl) rfl) wrongB s w (wrong_pred w))
  by_cases h0 : s.size = 0
  · have hf := Lib.hid (show nameB s = false by unfold nameB; simp; omega)
    have he : s.toList = [] := toList_empty h0
    go_enter Tryz.func101, Tryz.ntmps101
    go_wp2
    go_ret
    exact ⟨by rw [hf.out]; rfl, Below.refl _ _⟩
  have hne : s.toList.isEmpty = false := toList_isEmpty h0
  by_cases h2 : 24 < s.size
  · have hf := Lib.hid (show nameB s = false by unfold nameB; simp; omega)
    go_enter Tryz.func101, Tryz.ntmps101
    go_wp2
    go_ret
    exact ⟨by rw [hf.out]; rfl, Below.refl _ _⟩
  have h1 : 0 < s.size := by omega
  clear h0
  by_cases ha : (s[0].toNat : Int) < 97
  · have hf := Lib.hid (name_not h1 (show nmB 0 s[0] = false by simp [nmB]; omega))
    go_enter Tryz.func101, Tryz.ntmps101
    go_wp2
    go_ret
    exact ⟨by rw [hf.out]; rfl, Below.refl _ _⟩
  by_cases hz : 122 < (s[0].toNat : Int)
  · have hf := Lib.hid (name_not h1 (show nmB 0 s[0] = false by simp [nmB]; omega))
    go_enter Tryz.func101, Tryz.ntmps101
    go_wp2
    go_ret
    exact ⟨by rw [hf.out]; rfl, Below.refl _ _⟩
  have hf := Lib.hid (name_by_runes s (by omega) (by omega) (by omega) (by omega))
  go_enter Tryz.func101, Tryz.ntmps101
  go_wp2_with fail
  refine hc.out.mono ?_
  rintro e w' ⟨rfl, hb⟩
  go_wp2
  go_ret
  exact ⟨by rw [← hf.out]; rfl, hb⟩
end Go.Proofs.YtkadahfknccjfaaGreatDoor
namespace Go.Proofs.YtkadahfknccjfaaGreatDoor
open Go.RowKit
/-- What is wrong with the number and the names of the fields. -/
def fieldsS (k : Int) (l : List FT) : Int :=
  if k = 6 then (if l.length ≠ 1 ∨ (nmAt l 0).toList ≠ [] then 1 else 0) else if k ≠ 7 then (if l.length = 0 then 0 else 1) else if l.length = 0 then 1 else recS l
theorem shape_fields {k sc : Int} {l : List FT} (h1 : withinB k 1 7 = true) (h2 : scaleB k sc = true) : shapeS k sc l = fieldsS k l := by
  unfold shapeS fieldsS recS
  rw [h1, h2, if_neg (by simp), if_neg (by simp)]
theorem FT.Row.take {B : Nat} {w : World} {A : Option Addr} {cap : Nat} {l : List FT} (h : FT.Row B w A cap l) (j : Nat) : FT.Row B w A cap (l.take j) := by
  refine ⟨?_, h.2.1, fun i x hx => ?_⟩
  · have := h.1; rw [List.length_take]; omega
  · rw [List.getElem?_take] at hx
    split at hx
    · exact h.2.2 i x hx
    · cases hx
set_option maxRecDepth 100000 in
set_option maxHeartbeats 1000000 in
theorem vf1_any (x : FT) (w : World) (hs : x.a.nm.size ≤ maxLen) :
    Calls Tryz.prog 100 #[.agg #[.int .i64 x.a.id, .string x.a.nm, .bool x.a.nd, .int .i64 x.a.k, .int .i64 x.a.sc, .slice x.a.A x.l.length x.a.cap]] w fun e w' => e = .returned (.bool (!nameB x.a.nm)) ∧ Below w.heap.size w w' := by
  have hn := Lib.hid fun o => vName_any x.a.nm (w.alloc o) hs
  clear hs
  go_enter Tryz.func100, Tryz.ntmps100
  go_wp2_with (go_at_call 101; refine (hn.out _).mono ?_; rintro e w' ⟨rfl, hb⟩)
  go_ret
  exact ⟨rfl, (bel1 _ _).trans (hb.mono (by simp))⟩
set_option maxRecDepth 100000 in
set_option maxHeartbeats 1000000 in
theorem vf2_any (x : FT) (s : ByteArray) (fb : Nat) (w : World) (hc : w.cell? ⟨fb, 1, none⟩ = some (.string s)) :
    Calls Tryz.prog 102 #[.agg #[.int .i64 x.a.id, .string x.a.nm, .bool x.a.nd, .int .i64 x.a.k, .int .i64 x.a.sc, .slice x.a.A x.l.length x.a.cap], .pointer (some ⟨fb, 0, none⟩)] w fun e w' => e = .returned (.bool (x.a.nm.toList == s.toList)) ∧ Below w.heap.size w w' := by
  have hc1 := fun o => cell_old hc o
  have hlt := cell_lt hc
  clear hc
  go_enter Tryz.func102, Tryz.ntmps102
  go_wp2
  go_ret
  exact ⟨rfl, bel1 _ _⟩
set_option maxRecDepth 100000 in
set_option maxHeartbeats 2000000 in
theorem vfields_leaf0 (k sc : Int) (A : Option Addr) (cap : Nat) (w : World) (h6 : k ≠ 6) (h7 : k ≠ 7) :
    Calls Tryz.prog 89 #[.agg #[.int .i64 k, .int .i64 sc, .slice A 0 cap]] w fun e w' => e = .returned (.int .i64 0) ∧ Below w.heap.size w w' := by
  have e6 : (k == 6) = false := by simpa using h6
  have n7 : (k != 7) = true := by simpa using h7
  clear h6 h7
  go_enter Tryz.func89, Tryz.ntmps89
  go_wp2
  go_ret
  exact ⟨rfl, bel1 _ _⟩
set_option maxRecDepth 100000 in
set_option maxHeartbeats 2000000 in
theorem vfields_leaf1 (k sc : Int) (A : Option Addr) (len cap : Nat) (w : World) (_hl : len ≤ maxLen) (h0 : 0 < len) (h6 : k ≠ 6) (h7 : k ≠ 7) :
    Calls Tryz.prog 89 #[.agg #[.int .i64 k, .int .i64 sc, .slice A len cap]] w fun e w' => e = .returned (.int .i64 1) ∧ Below w.heap.size w w' := by
  unfold maxLen at _hl
  have e6 : (k == 6) = false := by simpa using h6
  have n7 : (k != 7) = true := by simpa using h7
  clear h6 h7
  go_enter Tryz.func89, Tryz.ntmps89
  go_wp2
  go_ret
  exact ⟨rfl, bel1 _ _⟩
set_option maxRecDepth 100000 in
set_option maxHeartbeats 2000000 in
theorem vfields_many (sc : Int) (A : Option Addr) (len cap : Nat) (w : World) (_hl : len ≤ maxLen) (h1 : len ≠ 1) :
    Calls Tryz.prog 89 #[.agg #[.int .i64 6, .int .i64 sc, .slice A len cap]] w fun e w' => e = .returned (.int .i64 1) ∧ Below w.heap.size w w' := by
  unfold maxLen at _hl
  have n1 : ((len : Int) != 1) = true := by simp; omega
  clear h1
  go_enter Tryz.func89, Tryz.ntmps89
  go_wp2
  go_ret
  exact ⟨rfl, bel1 _ _⟩
set_option maxRecDepth 100000 in
set_option maxHeartbeats 2000000 in
theorem vfields_none (sc : Int) (ad : Addr) (cap : Nat) (s : ByteArray) (w : World) (c1 : w.cell? ⟨ad.block, ad.off + 1, none⟩ = some (.string s)) (he : s.toList = []) :
    Calls Tryz.prog 89 #[.agg #[.int .i64 6, .int .i64 sc, .slice (some ad) 1 cap]] w fun e w' => e = .returned (.int .i64 0) ∧ Below w.heap.size w w' := by
  have ha : ad.add 0 = ad := rfl
  have hlt : ad.block < w.heap.size := cell_lt (p := ⟨ad.block, ad.off + 1, none⟩) c1
  have c1' := fun o => cell_old c1 o
  clear c1
  go_enter Tryz.func89, Tryz.ntmps89
  go_wp2
  go_ret
  exact ⟨rfl, bel1 _ _⟩
set_option maxRecDepth 100000 in
set_option maxHeartbeats 2000000 in
theorem vfields_named (sc : Int) (ad : Addr) (cap : Nat) (s : ByteArray) (w : World) (c1 : w.cell? ⟨ad.block, ad.off + 1, none⟩ = some (.string s)) (he : s.toList ≠ []) :
    Calls Tryz.prog 89 #[.agg #[.int .i64 6, .int .i64 sc, .slice (some ad) 1 cap]] w fun e w' => e = .returned (.int .i64 1) ∧ Below w.heap.size w w' := by
  have ha : ad.add 0 = ad := rfl
  have hlt : ad.block < w.heap.size := cell_lt (p := ⟨ad.block, ad.off + 1, none⟩) c1
  have c1' := fun o => cell_old c1 o
  have hne : (!s.toList.isEmpty) = true := by simpa using he
  clear c1 he
  go_enter Tryz.func89, Tryz.ntmps89
  go_wp2
  go_ret
  exact ⟨rfl, bel1 _ _⟩
set_option maxRecDepth 100000 in
set_option maxHeartbeats 2000000 in
theorem vfields_rec0 (sc : Int) (A : Option Addr) (cap : Nat) (w : World) :
    Calls Tryz.prog 89 #[.agg #[.int .i64 7, .int .i64 sc, .slice A 0 cap]] w fun e w' => e = .returned (.int .i64 1) ∧ Below w.heap.size w w' := by
  go_enter Tryz.func89, Tryz.ntmps89
  go_wp2
  go_ret
  exact ⟨rfl, bel1 _ _⟩
/-- The first names are names. -/
def NmSt (w : World) (l : List FT) (j : Nat) (W : World) : Prop := Below w.heap.size w W ∧ ∀ i, i < j → nameB (nmAt l i) = true
def NmFin (w : World) (l : List FT) (W : World) : Prop := Below w.heap.size w W ∧ namesB l = false
/-- No name among the first ones is s. -/
def TwSt (w : World) (l : List FT) (s : ByteArray) (j : Nat) (W : World) : Prop := Below w.heap.size w W ∧ ∀ i, i < j → ((nmAt l i).toList == s.toList) = false
def TwFin (w : World) (l : List FT) (s : ByteArray) (n : Nat) (W : World) : Prop := Below w.heap.size w W ∧ ∃ i, i < n ∧ ((nmAt l i).toList == s.toList) = true
theorem names_ct {B : Nat} {w : World} (A : Option Addr) (cap len : Nat) (l : List FT) (hr : FT.Row B w A cap l) (hin : ∀ x, x ∈ l → FT.In B w x) (hB : B ≤ w.heap.size) (hlen : Hid (l.length = len)) :
    Calls Tryz.prog 71 #[.slice A len cap, .func (.func 100) #[] #[]] w (CtPost len (NmSt w l) (NmFin w l)) := by
  refine ctF_any 100 #[] (enters_of Tryz.func100 (by kernel_rfl) rfl) l A cap len B w hr hlen (NmSt w l) (NmFin w l) ⟨Below.refl _ _, fun i h => absurd h (by omega)⟩ (fun j W h => Same.mono (Same.of_below h.1) hB) (fun j x W hx hst => ?_)
  have hnm : x.a.nm.size ≤ maxLen := by have := hin x (mem_of_get? hx); cases this; assumption
  have hlt : j < l.length := (List.getElem?_eq_some_iff.1 hx).1
  refine (vf1_any x W hnm).mono fun e w' ⟨he, hb⟩ => ?_
  have hb' := hst.1.trans (hb.mono hst.1.size)
  cases hn : nameB x.a.nm
  · rw [hn] at he
    exact .inl ⟨he, hb', namesB_false hlt (by rw [nmAt_of hx]; exact hn)⟩
  · rw [hn] at he
    exact .inr ⟨he, hb', names_step hst.2 (by rw [nmAt_of hx]; exact hn)⟩
theorem twice_ct {B : Nat} {w : World} (A : Option Addr) (cap j fb : Nat) (l : List FT) (s : ByteArray) (hr : FT.Row B w A cap l) (hB : B ≤ w.heap.size) (hj : j ≤ l.length) (hc : w.cell? ⟨fb, 1, none⟩ = some (.string s)) :
    Calls Tryz.prog 71 #[.slice A j cap, .func (.func 102) #[] #[.pointer (some ⟨fb, 0, none⟩)]] w (CtPost j (TwSt w l s) (TwFin w l s j)) := by
  refine ctF_any 102 #[.pointer (some ⟨fb, 0, none⟩)] (enters_of Tryz.func102 (by kernel_rfl) rfl) (l.take j) A cap j B w (hr.take j) (by show (l.take j).length = j; rw [List.length_take]; omega) (TwSt w l s) (TwFin w l s j) ⟨Below.refl _ _, fun i h => absurd h (by omega)⟩ (fun j W h => Same.mono (Same.of_below h.1) hB) (fun i x W hx hst => ?_)
  rw [List.getElem?_take] at hx
  split at hx
  · rename_i hij
    refine (vf2_any x s fb W ((hst.1.cell (p := ⟨fb, 1, none⟩) (cell_lt hc)).trans hc)).mono fun e w' ⟨he, hb⟩ => ?_
    have hb' := hst.1.trans (hb.mono hst.1.size)
    cases hn : (x.a.nm.toList == s.toList)
    · rw [hn] at he
      refine .inr ⟨he, hb', fun q hq => ?_⟩
      by_cases e : q = i
      · subst e; rw [nmAt_of hx]; exact hn
      · exact hst.2 q (by omega)
    · rw [hn] at he
      exact .inl ⟨he, hb', i, hij, by rw [nmAt_of hx]; exact hn⟩
  · cases hx
end Go.Proofs.YtkadahfknccjfaaGreatDoor
namespace Go.Proofs.YtkadahfknccjfaaGreatDoor
open Go.RowKit
set_option maxRecDepth 100000 in
set_option maxHeartbeats 4000000 in
theorem vfields_rec {B : Nat} {w : World} (sc : Int) (A : Option Addr) (cap len : Nat) (l : List FT) (hr : FT.Row B w A cap l) (hin : ∀ x, x ∈ l → FT.In B w x) (hB : B ≤ w.heap.size) (h0 : 0 < len) (hlen : Hid (l.length = len)) :
    Calls Tryz.prog 89 #[.agg #[.int .i64 7, .int .i64 sc, .slice A len cap]] w fun e w' => e = .returned (.int .i64 (recS l)) ∧ Below w.heap.size w w' := by
  have hl : len ≤ 9223372036854775807 := by rw [← hlen.out]; exact Nat.le_trans hr.1 hr.2.1
  have hcl : len ≤ cap := by rw [← hlen.out]; exact hr.1
  have hcm : cap ≤ 9223372036854775807 := hr.2.1
  have e0 : ((len : Int) == 0) = false := by simp; omega
  obtain ⟨W0, hW0⟩ : ∃ W0, w.alloc (.cells #[.int .i64 7, .int .i64 sc, .slice A len cap] 50) = W0 := ⟨_, rfl⟩
  have hbw : Below w.heap.size w W0 := by rw [← hW0]; exact bel1 _ _
  have hz0 : w.heap.size < W0.heap.size := by rw [← hW0]; simp
  have hbx : W0.cell? ⟨w.heap.size, 2, none⟩ = some (.slice A len cap) := by rw [← hW0]; simp
  have hS0 := Same.mono (Same.of_below hbw) hB
  have hr0 := hr.keep hS0
  have hin0 := fun x (hx : x ∈ l) => (hin x hx).keep hS0
  have hc1 := Lib.hid (names_ct A cap len l hr0 hin0 (by omega) hlen)
  have HW0 := Lib.hid hW0
  clear hW0 hr hin hS0
  go_enter Tryz.func89, Tryz.ntmps89
  go_wp2_with fail
  rw [HW0.out]
  refine hc1.out.mono ?_
  rintro e w1 (⟨rfl, hb1, hnf⟩ | ⟨rfl, hb1, hna⟩)
  · have HR := Lib.hid (show recS l = 4 by unfold recS; rw [if_pos hnf])
    go_wp2
    go_ret
    exact ⟨by rw [HR.out]; rfl, hbw.trans (hb1.mono (by omega))⟩
  · have hN := Lib.hid (namesB_true (l := l) fun i hi => hna i (by rw [hlen.out] at hi; omega))
    have hbx1 := (hb1.cell (p := ⟨w.heap.size, 2, none⟩) hz0).trans hbx
    have hz1 : W0.heap.size ≤ w1.heap.size := hb1.size
    have hr1 := hr0.keep (Same.mono (Same.of_below hb1) (by omega))
    have hbw1 : Below w.heap.size w w1 := hbw.trans (hb1.mono (by omega))
    clear hc1 hna hbx hr0 hin0 hb1 hbw HW0
    go_wp2
    go_loopw [40] (fun i wr => ∃ j : Nat, j ≤ len ∧ i = .int .i64 j ∧ Below w1.heap.size w1 wr ∧ Hid (∀ i k, i < j → k < i → ((nmAt l k).toList == (nmAt l i).toList) = false)) (fun i _ => len - (intOf i).toNat)
    case atStart => exact ⟨0, Nat.zero_le _, rfl, Below.refl _ _, fun i k h => absurd h (by omega)⟩
    case round =>
      obtain ⟨j, hj, rfl, hbr, hall⟩ := hrel
      by_cases hlt : j < len
      · have hrr := hr1.keep (Same.mono (Same.of_below hbr) (by omega))
        obtain ⟨x, ad, hx, rfl, hb, d0, d1, d2, d3, d4, d5⟩ := hrr.get (show j < l.length by rw [hlen.out]; exact hlt)
        have hnx := Lib.hid (nmAt_of hx)
        have hbxr := (hbr.cell (p := ⟨w.heap.size, 2, none⟩) (by show w.heap.size < _; omega)).trans hbx1
        have hzr : w1.heap.size ≤ wr.heap.size := hbr.size
        have hlt0 : w.heap.size < wr.heap.size := by omega
        obtain ⟨o1, ho1⟩ : ∃ o1, Obj.cells #[.int .i64 x.a.id, .string x.a.nm, .bool x.a.nd, .int .i64 x.a.k, .int .i64 x.a.sc, .slice x.a.A x.l.length x.a.cap] 84 = o1 := ⟨_, rfl⟩
        obtain ⟨W1, hW1⟩ : ∃ W1, wr.alloc o1 = W1 := ⟨_, rfl⟩
        have hbW1 : Below wr.heap.size wr W1 := by rw [← hW1]; exact bel1 _ _
        have hf1 : W1.cell? ⟨wr.heap.size, 1, none⟩ = some (.string x.a.nm) := by rw [← hW1, ← ho1, cell_new]; rfl
        have htw := Lib.hid (twice_ct (some ad) cap j wr.heap.size l x.a.nm (hrr.keep (Same.mono (Same.of_below hbW1) (by omega))) (by have := hbW1.size; omega) (by rw [hlen.out]; omega) hf1)
        have HW1 := Lib.hid hW1
        have Ho1 := Lib.hid ho1
        have hzW1 : wr.heap.size ≤ W1.heap.size := hbW1.size
        have hbR : Below w1.heap.size w1 W1 := hbr.trans (hbW1.mono hzr)
        clear hW1 ho1 hrr hr1 hx hbx1
        go_wp2_with fail
        rw [Ho1.out, HW1.out]
        refine htw.out.mono ?_
        rintro e w2 (⟨rfl, hb2, q, hq, hqe⟩ | ⟨rfl, hb2, hno⟩)
        · have HR := Lib.hid (show recS l = 5 by
            unfold recS
            rw [hN.out, if_neg (by simp), if_pos (twiceB_true (i := j) (k := q) (by rw [hlen.out]; exact hlt) hq (by rw [hnx.out]; exact hqe))])
          clear hqe
          go_wp2
          go_ret
          exact ⟨by rw [HR.out]; rfl, hbw1.trans ((hbR.trans (hb2.mono (by omega))).mono (by omega))⟩
        · have hno' : Hid (∀ k', k' < j → ((nmAt l k').toList == (nmAt l j).toList) = false) := by rw [hnx.out]; exact hno
          clear hno
          go_wp2
          go_roundw
          case rel => exact ⟨j + 1, by omega, by go_num, hbR.trans (hb2.mono (by omega)), twice_step2 hall hno' (Nat.le_refl _)⟩
          case measure => simp [intOf]; omega
      · have HR := Lib.hid (show recS l = 0 by
          unfold recS
          rw [hN.out, if_neg (by simp), if_neg (by rw [twiceB_false (fun i k hi hk => hall.out i k (by rw [hlen.out] at hi; omega) hk)]; simp)])
        go_wp2
        go_ret
        exact ⟨by rw [HR.out]; rfl, hbw1.trans (hbr.mono (by omega))⟩
theorem vfields_any {B : Nat} {w : World} (k sc : Int) (A : Option Addr) (cap len : Nat) (l : List FT) (hr : FT.Row B w A cap l) (hin : ∀ x, x ∈ l → FT.In B w x) (hB : B ≤ w.heap.size) (hlen : Hid (l.length = len)) :
    Calls Tryz.prog 89 #[.agg #[.int .i64 k, .int .i64 sc, .slice A len cap]] w fun e w' => e = .returned (.int .i64 (fieldsS k l)) ∧ Below w.heap.size w w' := by
  have hl : len ≤ maxLen := by rw [← hlen.out]; exact Nat.le_trans hr.1 hr.2.1
  have hle := hlen.out
  unfold fieldsS
  by_cases h6 : k = 6
  · subst h6
    rw [if_pos rfl]
    by_cases hl1 : l.length = 1
    · obtain ⟨x, ad, hx, rfl, hb, c0, c1, c2, c3, c4, c5⟩ := hr.get (show 0 < l.length by omega)
      have hnm := nmAt_of hx
      have ha : ad.add (0 * 6) = ad := rfl
      rw [ha] at c1
      obtain rfl : len = 1 := by omega
      by_cases he : x.a.nm.toList = []
      · rw [if_neg (by rw [hnm]; simp [hl1, he])]
        exact vfields_none sc ad cap x.a.nm w c1 he
      · rw [if_pos (by rw [hnm]; exact .inr he)]
        exact vfields_named sc ad cap x.a.nm w c1 he
    · rw [if_pos (.inl hl1)]
      exact vfields_many sc A len cap w hl (by omega)
  rw [if_neg h6]
  by_cases h7 : k = 7
  · subst h7
    rw [if_neg (by simp)]
    by_cases h0 : len = 0
    · subst h0
      rw [if_pos hle]
      exact vfields_rec0 sc A cap w
    · rw [if_neg (by omega)]
      exact vfields_rec sc A cap len l hr hin hB (by omega) hlen
  · rw [if_pos h7]
    by_cases h0 : len = 0
    · subst h0
      rw [if_pos hle]
      exact vfields_leaf0 k sc A cap w h6 h7
    · rw [if_neg (by omega)]
      exact vfields_leaf1 k sc A len cap w hl (by omega) h6 h7
end Go.Proofs.YtkadahfknccjfaaGreatDoor
namespace Go.Proofs.YtkadahfknccjfaaGreatDoor
open Go.RowKit
theorem ck_end {k sc c1 n : Int} {l : List FT} {r X : Int × Int} (H0 : Hid ((if shapeS k sc l ≠ 0 then (shapeS k sc l, c1) else X) = r)) (h : shapeS k sc l = n) (hn : n ≠ 0) : r = (n, c1) := by rw [← H0.out, h, if_pos hn]
theorem shape_out {k sc : Int} {l : List FT} (h : withinB k 1 7 = false) : shapeS k sc l = 3 := by unfold shapeS; rw [if_pos h]
theorem shape_sc {k sc : Int} {l : List FT} (h : withinB k 1 7 = true) (h2 : scaleB k sc = false) : shapeS k sc l = 1 := by unfold shapeS; rw [h, h2, if_neg (by simp), if_pos rfl]
set_option maxRecDepth 100000 in
set_option maxHeartbeats 8000000 in
theorem vcheck_any : ∀ (t : FT) (lv c : Int) (g B : Nat) (w : World), FT.In B w t → B ≤ w.heap.size → B ≤ g → One w g c → 1 ≤ lv → lv ≤ 5 → 0 ≤ c → c ≤ 40 →
    Calls Tryz.prog 70 #[.pointer (some ⟨g, 0, none⟩), .agg #[.int .i64 t.a.k, .int .i64 t.a.sc, .slice t.a.A t.l.length t.a.cap], .int .i64 lv] w (CkPost g w (ckT lv c t)) := by
  refine FT.ind fun a l ih lv c g B w hin hB hg hone hlv1 hlv5 hc0 hc40 => ?_
  obtain ⟨id, nm, nd, k, sc, A, cap⟩ := a
  obtain ⟨_, _, _, _, hr, hl⟩ := hin.parts
  simp only [FT.a_node, FT.l_node] at hr ⊢
  have hgl := hone.lt
  obtain ⟨len, hlen⟩ : ∃ len, l.length = len := ⟨_, rfl⟩
  have hll : len ≤ 9223372036854775807 := by rw [← hlen]; exact Nat.le_trans hr.1 hr.2.1
  rw [hlen]
  have hlen' := Lib.hid hlen
  clear hlen
  have hlen := hlen'
  clear hlen'
  by_cases h4 : 4 < lv
  · have hf := Lib.hid (show ckT lv c (.node ⟨id, nm, nd, k, sc, A, cap⟩ l) = (7, c) by unfold ckT; rw [if_pos h4])
    rw [hf.out]
    clear ih hr hl hin
    go_enter Tryz.func70, Tryz.ntmps70
    go_wp2
    go_ret
    exact ⟨rfl, (Ch.refl g w).alloc _, hone.alloc _⟩
  have hnot4 : ¬ lv > 4 := h4
  clear h4
  have h4 : lv ≤ 4 := by omega
  obtain ⟨r, hr0⟩ : ∃ r, ckT lv c (.node ⟨id, nm, nd, k, sc, A, cap⟩ l) = r := ⟨_, rfl⟩
  rw [hr0]
  unfold ckT at hr0
  rw [if_neg hnot4] at hr0
  clear hnot4
  obtain ⟨W0, hW0⟩ : ∃ W0, w.alloc (.cells #[.int .i64 k, .int .i64 sc, .slice A len cap] 50) = W0 := ⟨_, rfl⟩
  have hone0 : One W0 g c := by rw [← hW0]; exact hone.alloc _
  have hch0 : Ch g w W0 := by rw [← hW0]; exact (Ch.refl g w).alloc _
  have hz0 : w.heap.size < W0.heap.size := by rw [← hW0]; simp
  have p0 : W0.cell? ⟨w.heap.size, 0, none⟩ = some (.int .i64 k) := by rw [← hW0]; simp
  have p1 : W0.cell? ⟨w.heap.size, 1, none⟩ = some (.int .i64 sc) := by rw [← hW0]; simp
  have p2 : W0.cell? ⟨w.heap.size, 2, none⟩ = some (.slice A len cap) := by rw [← hW0]; simp
  have HW0 := Lib.hid hW0
  clear hW0 hone hin
  cases hlf : leafB k
  · rw [hlf] at hr0
    have Hlf := Lib.hid hlf
    have hk67 : k = 6 ∨ k = 7 := by
      by_cases h6 : k = 6
      · exact .inl h6
      · by_cases h7 : k = 7
        · exact .inr h7
        · simp [leafB, h6, h7] at hlf
    clear hlf
    obtain ⟨c1, hc1⟩ : ∃ c1, c1 = c := ⟨_, rfl⟩
    have H0 : Hid ((if shapeS k sc l ≠ 0 then (shapeS k sc l, c1) else ckTs (lv + 1) c1 l) = r) := by rw [hc1, ← hr0]; simp [Hid]
    have hc10 : 0 ≤ c1 := by omega
    have hc11 : c1 ≤ 40 := by omega
    clear hr0
    go_enter Tryz.func70, Tryz.ntmps70
    go_wp2_with fail
    rw [HW0.out]
    refine (vleaf_any k sc A len cap W0).mono ?_
    rintro e w1 ⟨rfl, hb1⟩
    rw [Hlf.out]
    have a0 := (hb1.cell (p := ⟨w.heap.size, 0, none⟩) hz0).trans p0
    have a1 := (hb1.cell (p := ⟨w.heap.size, 1, none⟩) hz0).trans p1
    have a2 := (hb1.cell (p := ⟨w.heap.size, 2, none⟩) hz0).trans p2
    have hone1 := hone0.below hb1
    have hch1 := hch0.then_below hb1
    have hz1 : w.heap.size < w1.heap.size := Nat.lt_of_lt_of_le hz0 hb1.size
    have hcell1 := hone1.cell
    have hfr1 := hone1.frozen
    clear p0 p1 p2 hone0 hch0 HW0 hb1
    go_wp2_with fail
    refine (vleaf_any k sc A len cap w1).mono ?_
    rintro e w2 ⟨rfl, hb2⟩
    rw [Hlf.out]
    have q0 := (hb2.cell (p := ⟨w.heap.size, 0, none⟩) hz1).trans a0
    have q1 := (hb2.cell (p := ⟨w.heap.size, 1, none⟩) hz1).trans a1
    have q2 := (hb2.cell (p := ⟨w.heap.size, 2, none⟩) hz1).trans a2
    have hone2 := hone1.below hb2
    have hch2 := hch1.then_below hb2
    have hz2 : w.heap.size < w2.heap.size := Nat.lt_of_lt_of_le hz1 hb2.size
    have hcell2 := hone2.cell
    have hfr2 := hone2.frozen
    clear a0 a1 a2 hone1 hch1 hb2 hcell1 hfr1
    obtain ⟨W3, hW3⟩ : ∃ W3, w2 = W3 := ⟨_, rfl⟩
    have hone3 : One W3 g c1 := by rw [← hW3, hc1]; exact hone2
    have hch3 : Ch g w W3 := by rw [← hW3]; exact hch2
    clear hc1
    have p0 : W3.cell? ⟨w.heap.size, 0, none⟩ = some (.int .i64 k) := by rw [← hW3]; exact q0
    have p1 : W3.cell? ⟨w.heap.size, 1, none⟩ = some (.int .i64 sc) := by rw [← hW3]; exact q1
    have p2 : W3.cell? ⟨w.heap.size, 2, none⟩ = some (.slice A len cap) := by rw [← hW3]; exact q2
    have hz3 : w.heap.size < W3.heap.size := by rw [← hW3]; exact hz2
    have hS3 : Same B w W3 := hch3.same hB hg
    have hr3 := hr.keep hS3
    have hl3 := fun x (hx : x ∈ l) => (hl x hx).keep hS3
    have HW3 := Lib.hid hW3
    clear hW3 hr hl hS3
    by_cases hlo : k < 1
    · first
      | (exfalso; omega)
      | (have hf := Lib.hid (ck_end H0 (shape_out (show withinB k 1 7 = false by simp [withinB]; omega)) (by decide))
         clear H0 ih hr3 hl3
         go_wp2
         rw [HW3.out]
         go_ret
         exact ⟨by rw [hf.out]; rfl, hch3, by rw [hf.out]; exact hone3⟩
         )
    by_cases hhi : 7 < k
    · first
      | (exfalso; omega)
      | (have hf := Lib.hid (ck_end H0 (shape_out (show withinB k 1 7 = false by simp [withinB]; omega)) (by decide))
         clear H0 ih hr3 hl3
         go_wp2
         rw [HW3.out]
         go_ret
         exact ⟨by rw [hf.out]; rfl, hch3, by rw [hf.out]; exact hone3⟩
         )
    have hwi : withinB k 1 7 = true := by simp [withinB]; omega
    cases hsc : scaleB k sc
    · have hf := Lib.hid (ck_end H0 (shape_sc hwi hsc) (by decide))
      have hcs : (k ≠ 3 ∧ sc ≠ 0) ∨ (k = 3 ∧ sc < 0) ∨ (k = 3 ∧ 12 < sc) := by
        unfold scaleB at hsc
        by_cases h3 : k = 3
        · rw [if_pos h3] at hsc
          simp only [withinB, Bool.and_eq_false_iff, decide_eq_false_iff_not] at hsc
          omega
        · rw [if_neg h3] at hsc
          exact .inl ⟨h3, by simpa using hsc⟩
      clear H0 ih hr3 hl3 hsc hwi
      rcases hcs with ⟨h3, hs0⟩ | ⟨h3, hs0⟩ | ⟨h3, hs0⟩
      · have n3 : (k != 3) = true := by simpa using h3
        have ns : (sc != 0) = true := by simpa using hs0
        clear h3 hs0
        go_wp2
        rw [HW3.out]
        go_ret
        exact ⟨by rw [hf.out]; rfl, hch3, by rw [hf.out]; exact hone3⟩
      · first
        | (exfalso; omega)
        | (subst h3
           have ns : (sc != 0) = true := by simp; omega
           go_wp2
           rw [HW3.out]
           go_ret
           exact ⟨by rw [hf.out]; rfl, hch3, by rw [hf.out]; exact hone3⟩
           )
      · first
        | (exfalso; omega)
        | (subst h3
           have ns : (sc != 0) = true := by simp; omega
           have ns2 : decide (sc < 0) = false := by simp; omega
           go_wp2
           rw [HW3.out]
           go_ret
           exact ⟨by rw [hf.out]; rfl, hch3, by rw [hf.out]; exact hone3⟩
           )
    have hsh := shape_fields (l := l) hwi hsc
    have hcs : sc = 0 ∨ (k = 3 ∧ 0 < sc ∧ sc ≤ 12) := by
      unfold scaleB at hsc
      by_cases h3 : k = 3
      · rw [if_pos h3] at hsc
        simp only [withinB, Bool.and_eq_true, decide_eq_true_eq] at hsc
        omega
      · rw [if_neg h3] at hsc
        exact .inl (by simpa using hsc)
    have hfi := Lib.hid (vfields_any k sc A cap len l hr3 hl3 (by omega) hlen)
    rw [hsh] at H0
    clear hsc hwi hsh
    rcases hcs with hs0 | ⟨h3, hs1, hs2⟩
    · subst hs0
      go_wp2_with fail
      rw [HW3.out]
      refine hfi.out.mono ?_
      rintro e w4 ⟨rfl, hb4⟩
      have hone4 := hone3.below hb4
      have hch4 := hch3.then_below hb4
      have hbx4 := (hb4.cell (p := ⟨w.heap.size, 2, none⟩) hz3).trans p2
      have hz4 : w.heap.size < w4.heap.size := Nat.lt_of_lt_of_le hz3 hb4.size
      have hr4 := hr3.keep (Same.mono (Same.of_below hb4) (by omega))
      have hl4 := fun x (hx : x ∈ l) => (hl3 x hx).keep (Same.mono (Same.of_below hb4) (by omega))
      clear hr3 hl3 p0 p1 p2 hb4 HW3 hone3 hch3 hfi
      by_cases hs0 : fieldsS k l = 0
      · have H1 : Hid (ckTs (lv + 1) c1 l = r) := by have := H0.out; rw [hs0, if_neg (by simp)] at this; exact this
        rw [hs0]
        clear hs0 H0
        go_wp2
        go_loopw [69] (fun i wr => ∃ (j : Nat) (c' : Int), j ≤ len ∧ i = .int .i64 j ∧ Ch g w wr ∧ One wr g c' ∧ 0 ≤ c' ∧ c' ≤ 40 ∧ w.heap.size < wr.heap.size ∧ Same B w4 wr ∧ Hid (ckTs (lv + 1) c' (l.drop j) = r)) (fun i _ => len - (intOf i).toNat)
        case atStart => exact ⟨0, c1, Nat.zero_le _, rfl, hch4, hone4, hc10, hc11, hz4, Same.refl _ _, H1⟩
        case round =>
          obtain ⟨j, c', hj, rfl, hch, hon, hc'0, hc'1, hbs, hsm, HR⟩ := hrel
          by_cases hlt : j < len
          · obtain ⟨x, ad, hx, rfl, hb, d0, d1, d2, d3, d4, d5⟩ := (hr4.keep hsm).get (show j < l.length by rw [hlen.out]; exact hlt)
            have hxi := (hl4 x (mem_of_get? hx)).keep hsm
            obtain ⟨o1, ho1⟩ : ∃ o1, Obj.cells #[.int .i64 x.a.id, .string x.a.nm, .bool x.a.nd, .int .i64 x.a.k, .int .i64 x.a.sc, .slice x.a.A x.l.length x.a.cap] 84 = o1 := ⟨_, rfl⟩
            obtain ⟨W5, hW5⟩ : ∃ W5, wr.alloc o1 = W5 := ⟨_, rfl⟩
            have hbW : Below wr.heap.size wr W5 := by rw [← hW5]; exact bel1 _ _
            have hzW : wr.heap.size ≤ W5.heap.size := hbW.size
            have hBr : B ≤ wr.heap.size := by have := hch.size; omega
            have hic := ih x (mem_of_get? hx) (lv + 1) c' g B W5 (hxi.keep (Same.mono (Same.of_below hbW) hBr)) (by omega) hg (hon.below hbW) (by omega) (by omega) hc'0 hc'1
            obtain ⟨f, c2, hfc⟩ : ∃ f c2, ckT (lv + 1) c' x = (f, c2) := ⟨_, _, rfl⟩
            have hbd := ckT_bd x (lv + 1) c' hc'0 hc'1
            rw [hfc] at hic hbd
            have HR2 := HR.out
            rw [drop_of_get? hx] at HR2
            unfold ckTs at HR2
            rw [hfc] at HR2
            have Hic := Lib.hid hic
            have HR3 := Lib.hid HR2
            have HW5 := Lib.hid hW5
            have Ho1 := Lib.hid ho1
            have hchW : Ch g w W5 := hch.then_below hbW
            have hsmW : Same B w4 W5 := hsm.trans (Same.mono (Same.of_below hbW) hBr)
            clear HR2 hic hfc HR hxi hr4 hl4 ih hx hbx4 hW5 ho1
            by_cases hf0 : f = 0
            · subst hf0
              have HR4 : Hid (ckTs (lv + 1) c2 (l.drop (j + 1)) = r) := by have := HR3.out; rw [if_neg (by simp)] at this; exact this
              go_wp2_with fail
              rw [Ho1.out, HW5.out]
              refine Hic.out.mono ?_
              rintro e w6 ⟨rfl, hch3, hon3⟩
              go_wp2
              go_roundw
              case rel => exact ⟨j + 1, c2, by omega, by go_num, hchW.trans hch3, hon3, hbd.1, hbd.2, by have := hch3.size; omega, hsmW.trans (hch3.same (by omega) hg), HR4⟩
              case measure => simp [intOf]; omega
            · have HR4 : Hid ((f, c2) = r) := by have := HR3.out; rw [if_pos (by simpa using hf0)] at this; exact this
              have nf : (f != 0) = true := by simpa using hf0
              clear hf0
              go_wp2_with fail
              rw [Ho1.out, HW5.out]
              refine Hic.out.mono ?_
              rintro e w6 ⟨rfl, hch3, hon3⟩
              go_wp2
              go_ret
              exact ⟨by rw [← HR4.out]; rfl, hchW.trans hch3, by rw [← HR4.out]; exact hon3⟩
          · have HR2 : Hid ((0, c') = r) := by have := HR.out; rw [List.drop_eq_nil_of_le (by rw [hlen.out]; omega)] at this; unfold ckTs at this; exact this
            go_wp2
            go_ret
            exact ⟨by rw [← HR2.out]; rfl, hch, by rw [← HR2.out]; exact hon⟩
      · have hs0' : (fieldsS k l != 0) = true := by simpa using hs0
        have H1 : Hid ((fieldsS k l, c1) = r) := by have := H0.out; rw [if_pos hs0] at this; exact this
        clear hs0
        go_wp2
        go_ret
        exact ⟨by rw [← H1.out]; rfl, hch4, by rw [← H1.out]; exact hone4⟩
    · first
      | (exfalso; omega)
      | (subst h3
         have ns : (sc != 0) = true := by simp; omega
         go_wp2_with fail
         rw [HW3.out]
         refine hfi.out.mono ?_
         rintro e w4 ⟨rfl, hb4⟩
         have hone4 := hone3.below hb4
         have hch4 := hch3.then_below hb4
         have hbx4 := (hb4.cell (p := ⟨w.heap.size, 2, none⟩) hz3).trans p2
         have hz4 : w.heap.size < w4.heap.size := Nat.lt_of_lt_of_le hz3 hb4.size
         have hr4 := hr3.keep (Same.mono (Same.of_below hb4) (by omega))
         have hl4 := fun x (hx : x ∈ l) => (hl3 x hx).keep (Same.mono (Same.of_below hb4) (by omega))
         clear hr3 hl3 p0 p1 p2 hb4 HW3 hone3 hch3 hfi
         by_cases hs0 : fieldsS 3 l = 0
         · have H1 : Hid (ckTs (lv + 1) c1 l = r) := by have := H0.out; rw [hs0, if_neg (by simp)] at this; exact this
           rw [hs0]
           clear hs0 H0
           go_wp2
           go_loopw [69] (fun i wr => ∃ (j : Nat) (c' : Int), j ≤ len ∧ i = .int .i64 j ∧ Ch g w wr ∧ One wr g c' ∧ 0 ≤ c' ∧ c' ≤ 40 ∧ w.heap.size < wr.heap.size ∧ Same B w4 wr ∧ Hid (ckTs (lv + 1) c' (l.drop j) = r)) (fun i _ => len - (intOf i).toNat)
           case atStart => exact ⟨0, c1, Nat.zero_le _, rfl, hch4, hone4, hc10, hc11, hz4, Same.refl _ _, H1⟩
           case round =>
             obtain ⟨j, c', hj, rfl, hch, hon, hc'0, hc'1, hbs, hsm, HR⟩ := hrel
             by_cases hlt : j < len
             · obtain ⟨x, ad, hx, rfl, hb, d0, d1, d2, d3, d4, d5⟩ := (hr4.keep hsm).get (show j < l.length by rw [hlen.out]; exact hlt)
               have hxi := (hl4 x (mem_of_get? hx)).keep hsm
               obtain ⟨o1, ho1⟩ : ∃ o1, Obj.cells #[.int .i64 x.a.id, .string x.a.nm, .bool x.a.nd, .int .i64 x.a.k, .int .i64 x.a.sc, .slice x.a.A x.l.length x.a.cap] 84 = o1 := ⟨_, rfl⟩
               obtain ⟨W5, hW5⟩ : ∃ W5, wr.alloc o1 = W5 := ⟨_, rfl⟩
               have hbW : Below wr.heap.size wr W5 := by rw [← hW5]; exact bel1 _ _
               have hzW : wr.heap.size ≤ W5.heap.size := hbW.size
               have hBr : B ≤ wr.heap.size := by have := hch.size; omega
               have hic := ih x (mem_of_get? hx) (lv + 1) c' g B W5 (hxi.keep (Same.mono (Same.of_below hbW) hBr)) (by omega) hg (hon.below hbW) (by omega) (by omega) hc'0 hc'1
               obtain ⟨f, c2, hfc⟩ : ∃ f c2, ckT (lv + 1) c' x = (f, c2) := ⟨_, _, rfl⟩
               have hbd := ckT_bd x (lv + 1) c' hc'0 hc'1
               rw [hfc] at hic hbd
               have HR2 := HR.out
               rw [drop_of_get? hx] at HR2
               unfold ckTs at HR2
               rw [hfc] at HR2
               have Hic := Lib.hid hic
               have HR3 := Lib.hid HR2
               have HW5 := Lib.hid hW5
               have Ho1 := Lib.hid ho1
               have hchW : Ch g w W5 := hch.then_below hbW
               have hsmW : Same B w4 W5 := hsm.trans (Same.mono (Same.of_below hbW) hBr)
               clear HR2 hic hfc HR hxi hr4 hl4 ih hx hbx4 hW5 ho1
               by_cases hf0 : f = 0
               · subst hf0
                 have HR4 : Hid (ckTs (lv + 1) c2 (l.drop (j + 1)) = r) := by have := HR3.out; rw [if_neg (by simp)] at this; exact this
                 go_wp2_with fail
                 rw [Ho1.out, HW5.out]
                 refine Hic.out.mono ?_
                 rintro e w6 ⟨rfl, hch3, hon3⟩
                 go_wp2
                 go_roundw
                 case rel => exact ⟨j + 1, c2, by omega, by go_num, hchW.trans hch3, hon3, hbd.1, hbd.2, by have := hch3.size; omega, hsmW.trans (hch3.same (by omega) hg), HR4⟩
                 case measure => simp [intOf]; omega
               · have HR4 : Hid ((f, c2) = r) := by have := HR3.out; rw [if_pos (by simpa using hf0)] at this; exact this
                 have nf : (f != 0) = true := by simpa using hf0
                 clear hf0
                 go_wp2_with fail
                 rw [Ho1.out, HW5.out]
                 refine Hic.out.mono ?_
                 rintro e w6 ⟨rfl, hch3, hon3⟩
                 go_wp2
                 go_ret
                 exact ⟨by rw [← HR4.out]; rfl, hchW.trans hch3, by rw [← HR4.out]; exact hon3⟩
             · have HR2 : Hid ((0, c') = r) := by have := HR.out; rw [List.drop_eq_nil_of_le (by rw [hlen.out]; omega)] at this; unfold ckTs at this; exact this
               go_wp2
               go_ret
               exact ⟨by rw [← HR2.out]; rfl, hch, by rw [← HR2.out]; exact hon⟩
         · have hs0' : (fieldsS 3 l != 0) = true := by simpa using hs0
           have H1 : Hid ((fieldsS 3 l, c1) = r) := by have := H0.out; rw [if_pos hs0] at this; exact this
           clear hs0
           go_wp2
           go_ret
           exact ⟨by rw [← H1.out]; rfl, hch4, by rw [← H1.out]; exact hone4⟩
         )
  · rw [hlf] at hr0
    have Hlf := Lib.hid hlf
    have hk67 : k ≠ 6 ∧ k ≠ 7 := by
      constructor
      · rintro rfl; simp [leafB] at hlf
      · rintro rfl; simp [leafB] at hlf
    clear hlf
    by_cases h40 : c = 40
    · subst h40
      have hf := Lib.hid (show r = (7, 40) by rw [← hr0]; simp)
      clear ih hr hl hr0
      go_enter Tryz.func70, Tryz.ntmps70
      go_wp2_with fail
      rw [HW0.out]
      refine (vleaf_any k sc A len cap W0).mono ?_
      rintro e w1 ⟨rfl, hb1⟩
      rw [Hlf.out]
      have a0 := (hb1.cell (p := ⟨w.heap.size, 0, none⟩) hz0).trans p0
      have a1 := (hb1.cell (p := ⟨w.heap.size, 1, none⟩) hz0).trans p1
      have a2 := (hb1.cell (p := ⟨w.heap.size, 2, none⟩) hz0).trans p2
      have hone1 := hone0.below hb1
      have hch1 := hch0.then_below hb1
      have hz1 : w.heap.size < w1.heap.size := Nat.lt_of_lt_of_le hz0 hb1.size
      have hcell1 := hone1.cell
      have hfr1 := hone1.frozen
      clear p0 p1 p2 hone0 hch0 HW0 hb1
      go_wp2
      go_ret
      exact ⟨by rw [hf.out]; rfl, hch1, by rw [hf.out]; exact hone1⟩
    · have n40 : (c == 40) = false := by simpa using h40
      obtain ⟨c1, hc1⟩ : ∃ c1, c1 = c + 1 := ⟨_, rfl⟩
      have H0 : Hid ((if shapeS k sc l ≠ 0 then (shapeS k sc l, c1) else ckTs (lv + 1) c1 l) = r) := by rw [hc1, ← hr0, if_neg (show ¬ (true = true ∧ c = 40) by simpa using h40)]; simp [Hid]
      have hc10 : 0 ≤ c1 := by omega
      have hc11 : c1 ≤ 40 := by omega
      have hc39 : c ≤ 39 := by omega
      clear hr0 h40
      go_enter Tryz.func70, Tryz.ntmps70
      go_wp2_with fail
      rw [HW0.out]
      refine (vleaf_any k sc A len cap W0).mono ?_
      rintro e w1 ⟨rfl, hb1⟩
      rw [Hlf.out]
      have a0 := (hb1.cell (p := ⟨w.heap.size, 0, none⟩) hz0).trans p0
      have a1 := (hb1.cell (p := ⟨w.heap.size, 1, none⟩) hz0).trans p1
      have a2 := (hb1.cell (p := ⟨w.heap.size, 2, none⟩) hz0).trans p2
      have hone1 := hone0.below hb1
      have hch1 := hch0.then_below hb1
      have hz1 : w.heap.size < w1.heap.size := Nat.lt_of_lt_of_le hz0 hb1.size
      have hcell1 := hone1.cell
      have hfr1 := hone1.frozen
      clear p0 p1 p2 hone0 hch0 HW0 hb1
      go_wp2_with fail
      refine (vleaf_any k sc A len cap w1).mono ?_
      rintro e w2 ⟨rfl, hb2⟩
      rw [Hlf.out]
      have q0 := (hb2.cell (p := ⟨w.heap.size, 0, none⟩) hz1).trans a0
      have q1 := (hb2.cell (p := ⟨w.heap.size, 1, none⟩) hz1).trans a1
      have q2 := (hb2.cell (p := ⟨w.heap.size, 2, none⟩) hz1).trans a2
      have hone2 := hone1.below hb2
      have hch2 := hch1.then_below hb2
      have hz2 : w.heap.size < w2.heap.size := Nat.lt_of_lt_of_le hz1 hb2.size
      have hcell2 := hone2.cell
      have hfr2 := hone2.frozen
      clear a0 a1 a2 hone1 hch1 hb2 hcell1 hfr1
      obtain ⟨W3, hW3⟩ : ∃ W3, w2.setCell ⟨g, 0, none⟩ (.int .i64 (c + 1)) = W3 := ⟨_, rfl⟩
      have hone3 : One W3 g c1 := by rw [← hW3, hc1]; exact hone2.set _
      have hch3 : Ch g w W3 := by rw [← hW3]; exact hch2.setCell _ _
      clear hc1
      have p0 : W3.cell? ⟨w.heap.size, 0, none⟩ = some (.int .i64 k) := by rw [← hW3]; rw [World.cell?_setCell_other _ _ _ _ (by intro h; injection h with h1 _ _; omega)]; exact q0
      have p1 : W3.cell? ⟨w.heap.size, 1, none⟩ = some (.int .i64 sc) := by rw [← hW3]; rw [World.cell?_setCell_other _ _ _ _ (by intro h; injection h with h1 _ _; omega)]; exact q1
      have p2 : W3.cell? ⟨w.heap.size, 2, none⟩ = some (.slice A len cap) := by rw [← hW3]; rw [World.cell?_setCell_other _ _ _ _ (by intro h; injection h with h1 _ _; omega)]; exact q2
      have hz3 : w.heap.size < W3.heap.size := by rw [← hW3]; rw [size_setCell]; exact hz2
      have hS3 : Same B w W3 := hch3.same hB hg
      have hr3 := hr.keep hS3
      have hl3 := fun x (hx : x ∈ l) => (hl x hx).keep hS3
      have HW3 := Lib.hid hW3
      clear hW3 hr hl hS3
      by_cases hlo : k < 1
      · first
        | (exfalso; omega)
        | (have hf := Lib.hid (ck_end H0 (shape_out (show withinB k 1 7 = false by simp [withinB]; omega)) (by decide))
           clear H0 ih hr3 hl3
           go_wp2
           rw [HW3.out]
           go_ret
           exact ⟨by rw [hf.out]; rfl, hch3, by rw [hf.out]; exact hone3⟩
           )
      by_cases hhi : 7 < k
      · first
        | (exfalso; omega)
        | (have hf := Lib.hid (ck_end H0 (shape_out (show withinB k 1 7 = false by simp [withinB]; omega)) (by decide))
           clear H0 ih hr3 hl3
           go_wp2
           rw [HW3.out]
           go_ret
           exact ⟨by rw [hf.out]; rfl, hch3, by rw [hf.out]; exact hone3⟩
           )
      have hwi : withinB k 1 7 = true := by simp [withinB]; omega
      cases hsc : scaleB k sc
      · have hf := Lib.hid (ck_end H0 (shape_sc hwi hsc) (by decide))
        have hcs : (k ≠ 3 ∧ sc ≠ 0) ∨ (k = 3 ∧ sc < 0) ∨ (k = 3 ∧ 12 < sc) := by
          unfold scaleB at hsc
          by_cases h3 : k = 3
          · rw [if_pos h3] at hsc
            simp only [withinB, Bool.and_eq_false_iff, decide_eq_false_iff_not] at hsc
            omega
          · rw [if_neg h3] at hsc
            exact .inl ⟨h3, by simpa using hsc⟩
        clear H0 ih hr3 hl3 hsc hwi
        rcases hcs with ⟨h3, hs0⟩ | ⟨h3, hs0⟩ | ⟨h3, hs0⟩
        · have n3 : (k != 3) = true := by simpa using h3
          have ns : (sc != 0) = true := by simpa using hs0
          clear h3 hs0
          go_wp2
          rw [HW3.out]
          go_ret
          exact ⟨by rw [hf.out]; rfl, hch3, by rw [hf.out]; exact hone3⟩
        · first
          | (exfalso; omega)
          | (subst h3
             have ns : (sc != 0) = true := by simp; omega
             go_wp2
             rw [HW3.out]
             go_ret
             exact ⟨by rw [hf.out]; rfl, hch3, by rw [hf.out]; exact hone3⟩
             )
        · first
          | (exfalso; omega)
          | (subst h3
             have ns : (sc != 0) = true := by simp; omega
             have ns2 : decide (sc < 0) = false := by simp; omega
             go_wp2
             rw [HW3.out]
             go_ret
             exact ⟨by rw [hf.out]; rfl, hch3, by rw [hf.out]; exact hone3⟩
             )
      have hsh := shape_fields (l := l) hwi hsc
      have hcs : sc = 0 ∨ (k = 3 ∧ 0 < sc ∧ sc ≤ 12) := by
        unfold scaleB at hsc
        by_cases h3 : k = 3
        · rw [if_pos h3] at hsc
          simp only [withinB, Bool.and_eq_true, decide_eq_true_eq] at hsc
          omega
        · rw [if_neg h3] at hsc
          exact .inl (by simpa using hsc)
      have hfi := Lib.hid (vfields_any k sc A cap len l hr3 hl3 (by omega) hlen)
      rw [hsh] at H0
      clear hsc hwi hsh
      rcases hcs with hs0 | ⟨h3, hs1, hs2⟩
      · subst hs0
        go_wp2_with fail
        rw [HW3.out]
        refine hfi.out.mono ?_
        rintro e w4 ⟨rfl, hb4⟩
        have hone4 := hone3.below hb4
        have hch4 := hch3.then_below hb4
        have hbx4 := (hb4.cell (p := ⟨w.heap.size, 2, none⟩) hz3).trans p2
        have hz4 : w.heap.size < w4.heap.size := Nat.lt_of_lt_of_le hz3 hb4.size
        have hr4 := hr3.keep (Same.mono (Same.of_below hb4) (by omega))
        have hl4 := fun x (hx : x ∈ l) => (hl3 x hx).keep (Same.mono (Same.of_below hb4) (by omega))
        clear hr3 hl3 p0 p1 p2 hb4 HW3 hone3 hch3 hfi
        by_cases hs0 : fieldsS k l = 0
        · have H1 : Hid (ckTs (lv + 1) c1 l = r) := by have := H0.out; rw [hs0, if_neg (by simp)] at this; exact this
          rw [hs0]
          clear hs0 H0
          go_wp2
          go_loopw [69] (fun i wr => ∃ (j : Nat) (c' : Int), j ≤ len ∧ i = .int .i64 j ∧ Ch g w wr ∧ One wr g c' ∧ 0 ≤ c' ∧ c' ≤ 40 ∧ w.heap.size < wr.heap.size ∧ Same B w4 wr ∧ Hid (ckTs (lv + 1) c' (l.drop j) = r)) (fun i _ => len - (intOf i).toNat)
          case atStart => exact ⟨0, c1, Nat.zero_le _, rfl, hch4, hone4, hc10, hc11, hz4, Same.refl _ _, H1⟩
          case round =>
            obtain ⟨j, c', hj, rfl, hch, hon, hc'0, hc'1, hbs, hsm, HR⟩ := hrel
            by_cases hlt : j < len
            · obtain ⟨x, ad, hx, rfl, hb, d0, d1, d2, d3, d4, d5⟩ := (hr4.keep hsm).get (show j < l.length by rw [hlen.out]; exact hlt)
              have hxi := (hl4 x (mem_of_get? hx)).keep hsm
              obtain ⟨o1, ho1⟩ : ∃ o1, Obj.cells #[.int .i64 x.a.id, .string x.a.nm, .bool x.a.nd, .int .i64 x.a.k, .int .i64 x.a.sc, .slice x.a.A x.l.length x.a.cap] 84 = o1 := ⟨_, rfl⟩
              obtain ⟨W5, hW5⟩ : ∃ W5, wr.alloc o1 = W5 := ⟨_, rfl⟩
              have hbW : Below wr.heap.size wr W5 := by rw [← hW5]; exact bel1 _ _
              have hzW : wr.heap.size ≤ W5.heap.size := hbW.size
              have hBr : B ≤ wr.heap.size := by have := hch.size; omega
              have hic := ih x (mem_of_get? hx) (lv + 1) c' g B W5 (hxi.keep (Same.mono (Same.of_below hbW) hBr)) (by omega) hg (hon.below hbW) (by omega) (by omega) hc'0 hc'1
              obtain ⟨f, c2, hfc⟩ : ∃ f c2, ckT (lv + 1) c' x = (f, c2) := ⟨_, _, rfl⟩
              have hbd := ckT_bd x (lv + 1) c' hc'0 hc'1
              rw [hfc] at hic hbd
              have HR2 := HR.out
              rw [drop_of_get? hx] at HR2
              unfold ckTs at HR2
              rw [hfc] at HR2
              have Hic := Lib.hid hic
              have HR3 := Lib.hid HR2
              have HW5 := Lib.hid hW5
              have Ho1 := Lib.hid ho1
              have hchW : Ch g w W5 := hch.then_below hbW
              have hsmW : Same B w4 W5 := hsm.trans (Same.mono (Same.of_below hbW) hBr)
              clear HR2 hic hfc HR hxi hr4 hl4 ih hx hbx4 hW5 ho1
              by_cases hf0 : f = 0
              · subst hf0
                have HR4 : Hid (ckTs (lv + 1) c2 (l.drop (j + 1)) = r) := by have := HR3.out; rw [if_neg (by simp)] at this; exact this
                go_wp2_with fail
                rw [Ho1.out, HW5.out]
                refine Hic.out.mono ?_
                rintro e w6 ⟨rfl, hch3, hon3⟩
                go_wp2
                go_roundw
                case rel => exact ⟨j + 1, c2, by omega, by go_num, hchW.trans hch3, hon3, hbd.1, hbd.2, by have := hch3.size; omega, hsmW.trans (hch3.same (by omega) hg), HR4⟩
                case measure => simp [intOf]; omega
              · have HR4 : Hid ((f, c2) = r) := by have := HR3.out; rw [if_pos (by simpa using hf0)] at this; exact this
                have nf : (f != 0) = true := by simpa using hf0
                clear hf0
                go_wp2_with fail
                rw [Ho1.out, HW5.out]
                refine Hic.out.mono ?_
                rintro e w6 ⟨rfl, hch3, hon3⟩
                go_wp2
                go_ret
                exact ⟨by rw [← HR4.out]; rfl, hchW.trans hch3, by rw [← HR4.out]; exact hon3⟩
            · have HR2 : Hid ((0, c') = r) := by have := HR.out; rw [List.drop_eq_nil_of_le (by rw [hlen.out]; omega)] at this; unfold ckTs at this; exact this
              go_wp2
              go_ret
              exact ⟨by rw [← HR2.out]; rfl, hch, by rw [← HR2.out]; exact hon⟩
        · have hs0' : (fieldsS k l != 0) = true := by simpa using hs0
          have H1 : Hid ((fieldsS k l, c1) = r) := by have := H0.out; rw [if_pos hs0] at this; exact this
          clear hs0
          go_wp2
          go_ret
          exact ⟨by rw [← H1.out]; rfl, hch4, by rw [← H1.out]; exact hone4⟩
      · first
        | (exfalso; omega)
        | (subst h3
           have ns : (sc != 0) = true := by simp; omega
           go_wp2_with fail
           rw [HW3.out]
           refine hfi.out.mono ?_
           rintro e w4 ⟨rfl, hb4⟩
           have hone4 := hone3.below hb4
           have hch4 := hch3.then_below hb4
           have hbx4 := (hb4.cell (p := ⟨w.heap.size, 2, none⟩) hz3).trans p2
           have hz4 : w.heap.size < w4.heap.size := Nat.lt_of_lt_of_le hz3 hb4.size
           have hr4 := hr3.keep (Same.mono (Same.of_below hb4) (by omega))
           have hl4 := fun x (hx : x ∈ l) => (hl3 x hx).keep (Same.mono (Same.of_below hb4) (by omega))
           clear hr3 hl3 p0 p1 p2 hb4 HW3 hone3 hch3 hfi
           by_cases hs0 : fieldsS 3 l = 0
           · have H1 : Hid (ckTs (lv + 1) c1 l = r) := by have := H0.out; rw [hs0, if_neg (by simp)] at this; exact this
             rw [hs0]
             clear hs0 H0
             go_wp2
             go_loopw [69] (fun i wr => ∃ (j : Nat) (c' : Int), j ≤ len ∧ i = .int .i64 j ∧ Ch g w wr ∧ One wr g c' ∧ 0 ≤ c' ∧ c' ≤ 40 ∧ w.heap.size < wr.heap.size ∧ Same B w4 wr ∧ Hid (ckTs (lv + 1) c' (l.drop j) = r)) (fun i _ => len - (intOf i).toNat)
             case atStart => exact ⟨0, c1, Nat.zero_le _, rfl, hch4, hone4, hc10, hc11, hz4, Same.refl _ _, H1⟩
             case round =>
               obtain ⟨j, c', hj, rfl, hch, hon, hc'0, hc'1, hbs, hsm, HR⟩ := hrel
               by_cases hlt : j < len
               · obtain ⟨x, ad, hx, rfl, hb, d0, d1, d2, d3, d4, d5⟩ := (hr4.keep hsm).get (show j < l.length by rw [hlen.out]; exact hlt)
                 have hxi := (hl4 x (mem_of_get? hx)).keep hsm
                 obtain ⟨o1, ho1⟩ : ∃ o1, Obj.cells #[.int .i64 x.a.id, .string x.a.nm, .bool x.a.nd, .int .i64 x.a.k, .int .i64 x.a.sc, .slice x.a.A x.l.length x.a.cap] 84 = o1 := ⟨_, rfl⟩
                 obtain ⟨W5, hW5⟩ : ∃ W5, wr.alloc o1 = W5 := ⟨_, rfl⟩
                 have hbW : Below wr.heap.size wr W5 := by rw [← hW5]; exact bel1 _ _
                 have hzW : wr.heap.size ≤ W5.heap.size := hbW.size
                 have hBr : B ≤ wr.heap.size := by have := hch.size; omega
                 have hic := ih x (mem_of_get? hx) (lv + 1) c' g B W5 (hxi.keep (Same.mono (Same.of_below hbW) hBr)) (by omega) hg (hon.below hbW) (by omega) (by omega) hc'0 hc'1
                 obtain ⟨f, c2, hfc⟩ : ∃ f c2, ckT (lv + 1) c' x = (f, c2) := ⟨_, _, rfl⟩
                 have hbd := ckT_bd x (lv + 1) c' hc'0 hc'1
                 rw [hfc] at hic hbd
                 have HR2 := HR.out
                 rw [drop_of_get? hx] at HR2
                 unfold ckTs at HR2
                 rw [hfc] at HR2
                 have Hic := Lib.hid hic
                 have HR3 := Lib.hid HR2
                 have HW5 := Lib.hid hW5
                 have Ho1 := Lib.hid ho1
                 have hchW : Ch g w W5 := hch.then_below hbW
                 have hsmW : Same B w4 W5 := hsm.trans (Same.mono (Same.of_below hbW) hBr)
                 clear HR2 hic hfc HR hxi hr4 hl4 ih hx hbx4 hW5 ho1
                 by_cases hf0 : f = 0
                 · subst hf0
                   have HR4 : Hid (ckTs (lv + 1) c2 (l.drop (j + 1)) = r) := by have := HR3.out; rw [if_neg (by simp)] at this; exact this
                   go_wp2_with fail
                   rw [Ho1.out, HW5.out]
                   refine Hic.out.mono ?_
                   rintro e w6 ⟨rfl, hch3, hon3⟩
                   go_wp2
                   go_roundw
                   case rel => exact ⟨j + 1, c2, by omega, by go_num, hchW.trans hch3, hon3, hbd.1, hbd.2, by have := hch3.size; omega, hsmW.trans (hch3.same (by omega) hg), HR4⟩
                   case measure => simp [intOf]; omega
                 · have HR4 : Hid ((f, c2) = r) := by have := HR3.out; rw [if_pos (by simpa using hf0)] at this; exact this
                   have nf : (f != 0) = true := by simpa using hf0
                   clear hf0
                   go_wp2_with fail
                   rw [Ho1.out, HW5.out]
                   refine Hic.out.mono ?_
                   rintro e w6 ⟨rfl, hch3, hon3⟩
                   go_wp2
                   go_ret
                   exact ⟨by rw [← HR4.out]; rfl, hchW.trans hch3, by rw [← HR4.out]; exact hon3⟩
               · have HR2 : Hid ((0, c') = r) := by have := HR.out; rw [List.drop_eq_nil_of_le (by rw [hlen.out]; omega)] at this; unfold ckTs at this; exact this
                 go_wp2
                 go_ret
                 exact ⟨by rw [← HR2.out]; rfl, hch, by rw [← HR2.out]; exact hon⟩
           · have hs0' : (fieldsS 3 l != 0) = true := by simpa using hs0
             have H1 : Hid ((fieldsS 3 l, c1) = r) := by have := H0.out; rw [if_pos hs0] at this; exact this
             clear hs0
             go_wp2
             go_ret
             exact ⟨by rw [← H1.out]; rfl, hch4, by rw [← H1.out]; exact hone4⟩
           )
set_option maxRecDepth 100000 in
set_option maxHeartbeats 1000000 in
theorem vCheckType_any (t : FT) (B : Nat) (w : World) (hin : FT.In B w t) (hB : B ≤ w.heap.size) :
    Calls Tryz.prog 50 #[.agg #[.int .i64 t.a.k, .int .i64 t.a.sc, .slice t.a.A t.l.length t.a.cap]] w fun e w' => e = .returned (.int .i64 (ctS t)) ∧ Below w.heap.size w w' := by
  have hc := fun (o : Obj) => vcheck_any t 1 0 (w.heap.size + 1) B ((w.alloc o).alloc (.cells #[.int .i64 0] 100)) (hin.keep (((Same.refl B w).alloc hB o).alloc (show B ≤ (w.alloc o).heap.size by simp; omega) _)) (by simp; omega) (by omega) (by have := One.new (w.alloc o) 100 0; simpa using this) (by omega) (by omega) (by omega) (by omega)
  have Hc := Lib.hid hc
  clear hc hin
  go_enter Tryz.func50, Tryz.ntmps50
  go_wp2_with (go_at_call 70; refine (Hc.out _).mono ?_; rintro e w' ⟨rfl, hch, hon⟩)
  go_ret
  refine ⟨rfl, ?_⟩
  have h1 : Ch (w.heap.size + 1) w ((w.alloc (.cells #[.int .i64 t.a.k, .int .i64 t.a.sc, .slice t.a.A t.l.length t.a.cap] 50)).alloc (.cells #[.int .i64 0] 100)) := ((Ch.refl _ w).alloc _).alloc _
  exact (h1.trans hch).below (by omega)
end Go.Proofs.YtkadahfknccjfaaGreatDoor
