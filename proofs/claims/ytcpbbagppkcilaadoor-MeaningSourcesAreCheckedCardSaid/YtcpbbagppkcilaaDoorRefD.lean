/-
  The reference of package value: the check of types.
-/
import Derived.Test.YtcpbbagppkcilaaDoorRefC
namespace Go.Proofs.YtcpbbagppkcilaaDoor
open Go.RowKit
theorem FT.In.inv {B : Nat} {w : World} {a : FP} {l : List FT} (h : FT.In B w (.node a l)) : I64 a.id ∧ a.nm.size ≤ maxLen ∧ I64 a.k ∧ I64 a.sc ∧ FT.Row B w a.A a.cap l ∧ ∀ x, x ∈ l → FT.In B w x := by
  cases h
  exact ⟨by assumption, by assumption, by assumption, by assumption, by assumption, by assumption⟩
theorem shape_any {B : Nat} {w : World} (k sc : Int) (A : Option Addr) (cap len : Nat) (l : List FT) (hr : FT.Row B w A cap l) (hin : ∀ x, x ∈ l → FT.In B w x) (hB : B ≤ w.heap.size) (hlen : Hid (l.length = len)) :
    Calls Tryd.prog 98 #[.agg #[.int .i64 k, .int .i64 sc, .slice A len cap]] w fun e w' => e = .returned (.int .i64 (shapeS k sc l)) ∧ Below w.heap.size w w' := by
  have hl : len ≤ maxLen := by rw [← hlen.out]; exact Nat.le_trans hr.1 hr.2.1
  have hle := hlen.out
  cases h1 : withinB k 1 7
  · have : shapeS k sc l = 3 := by unfold shapeS; rw [if_pos h1]
    rw [this]
    exact shape_far k sc A len cap w h1
  cases h2 : scaleB k sc
  · have : shapeS k sc l = 1 := by unfold shapeS; rw [h1, if_neg (by simp), if_pos h2]
    rw [this]
    exact shape_scale k sc A len cap w h1 h2
  by_cases h6 : k = 6
  · subst h6
    obtain rfl : sc = 0 := by simpa [scaleB] using h2
    have hs : shapeS 6 0 l = if l.length ≠ 1 ∨ (nmAt l 0).toList ≠ [] then 1 else 0 := by unfold shapeS; rw [h1, if_neg (by simp), h2, if_neg (by simp), if_pos rfl]
    rw [hs]
    by_cases hl1 : l.length = 1
    · obtain ⟨x, ad, hx, rfl, hb, c0, c1, c2, c3, c4, c5⟩ := hr.get (show 0 < l.length by omega)
      have hnm := nmAt_of hx
      have ha : ad.add (0 * 6) = ad := rfl
      rw [ha] at c1
      obtain rfl : len = 1 := by omega
      by_cases he : x.a.nm.toList = []
      · rw [if_neg (by rw [hnm]; simp [hl1, he])]
        exact shape_list_none ad cap x.a.nm w (by omega) c1 he
      · rw [if_pos (by rw [hnm]; exact .inr he)]
        exact shape_list_named ad cap x.a.nm w (by omega) c1 he
    · rw [if_pos (.inl hl1)]
      exact shape_list_many A len cap w hl (by omega)
  by_cases h7 : k = 7
  · subst h7
    obtain rfl : sc = 0 := by simpa [scaleB] using h2
    by_cases h0 : len = 0
    · subst h0
      have : shapeS 7 0 l = 1 := by unfold shapeS; rw [h1, if_neg (by simp), h2, if_neg (by simp), if_neg (by simp), if_neg (by simp), if_pos hle]
      rw [this]
      exact shape_rec0 A cap w
    · have : shapeS 7 0 l = recS l := by unfold shapeS recS; rw [h1, if_neg (by simp), h2, if_neg (by simp), if_neg (by simp), if_neg (by simp), if_neg (by omega)]
      rw [this]
      exact shape_rec B A cap len l w hr hin hB (by omega) hlen
  · have hs : shapeS k sc l = if l.length = 0 then 0 else 1 := by unfold shapeS; rw [h1, if_neg (by simp), h2, if_neg (by simp), if_neg h6, if_pos h7]
    rw [hs]
    by_cases h0 : len = 0
    · subst h0
      rw [if_pos hle]
      exact shape_leaf0 k sc A cap w h1 h2 h6 h7
    · rw [if_neg (by omega)]
      exact shape_leaf1 k sc A len cap w hl (by omega) h1 h2 h6 h7
theorem ckT_bd : ∀ (t : FT) (lv c : Int), 0 ≤ c → c ≤ 40 → 0 ≤ (ckT lv c t).2 ∧ (ckT lv c t).2 ≤ 40 := by
  refine FT.ind fun a l ih lv c h0 h1 => ?_
  have hs : ∀ (r : List FT), (∀ x, x ∈ r → x ∈ l) → ∀ c, 0 ≤ c → c ≤ 40 → 0 ≤ (ckTs (lv + 1) c r).2 ∧ (ckTs (lv + 1) c r).2 ≤ 40 := by
    intro r
    induction r with
    | nil => intro _ c h0 h1; simpa [ckTs] using ⟨h0, h1⟩
    | cons x r ihr =>
      intro hm c h0 h1
      have hx := ih x (hm x (by simp)) (lv + 1) c h0 h1
      unfold ckTs
      split
      · exact hx
      · exact ihr (fun y hy => hm y (by simp [hy])) _ hx.1 hx.2
  unfold ckT
  by_cases hlf : leafB a.k = true ∧ c = 40
  · rw [if_pos hlf]; split <;> exact ⟨h0, h1⟩
  · have hb : 0 ≤ (if leafB a.k = true then c + 1 else c) ∧ (if leafB a.k = true then c + 1 else c) ≤ 40 := by
      split
      · rename_i h; exact ⟨by omega, by have : c ≠ 40 := fun e => hlf ⟨h, e⟩; omega⟩
      · exact ⟨h0, h1⟩
    rw [if_neg hlf]
    split
    · exact ⟨h0, h1⟩
    · split
      · exact hb
      · exact hs l (fun _ h => h) _ hb.1 hb.2
end Go.Proofs.YtcpbbagppkcilaaDoor
