/-
  The reference of package value: wide numbers (WideB at a seat without package engine).
-/
import Derived.Test.YtcdaipkkddgbeaaQWrA
import Derived.Test.YtcdaipkkddgbeaaQCopyB
namespace Go.Proofs.Ytcdaipkkddgbeaa
open Go.RowKit
/-- The digits of a number, the least first. -/
def digF : Nat → Int → List Int
  | 0, _ => []
  | f + 1, m => if m = 0 then [] else ((m.tmod 10).natAbs : Int) :: digF f (m.tdiv 10)
def digs (n : Int) : List Int := digF 19 n
theorem digF_zero (f : Nat) : digF f 0 = [] := by cases f <;> rfl
theorem digF_succ {f : Nat} {m : Int} (h : m ≠ 0) : digF (f + 1) m = ((m.tmod 10).natAbs : Int) :: digF f (m.tdiv 10) := by rw [digF, if_neg h]
theorem own_crow {α : Type} {f : α → Value} {w : World} {base n : Nat} {e : TypeId} {v : Value} {u : List α} (h : w.ownsRow base e 1 v n (u.map f)) (hn : u.length = n) : ∃ (A : Option Addr) (cap : Nat), v = .slice A n cap ∧ n ≤ cap ∧ cap ≤ maxLen ∧ (A = none → n = 0 ∧ cap = 0) ∧
    ∀ (i : Nat) (x : α), u[i]? = some x → ∃ ad : Addr, A = some ad ∧ v.ownBlock = some ad.block ∧ base ≤ ad.block ∧ ad.block < w.heap.size ∧ w.cell? (ad.add i) = some (f x) := by
  rcases h.2 with ⟨rfl, rfl⟩ | ⟨g, cap, cur, rfl, hb, hg, h1, h2, h3, h4⟩
  · refine ⟨none, 0, rfl, Nat.le_refl _, Nat.zero_le _, fun _ => ⟨rfl, rfl⟩, fun i x hx => ?_⟩
    have := (List.getElem?_eq_some_iff.1 hx).1
    omega
  · refine ⟨some ⟨g, 0, none⟩, cap, rfl, h1, h2, (fun h => by cases h), fun i x hx => ⟨⟨g, 0, none⟩, rfl, rfl, hb, (Array.getElem?_eq_some_iff.1 hg).1, ?_⟩⟩
    exact h.cells (g := g) rfl i (f x) (by rw [List.getElem?_map, hx]; rfl)
theorem infoInt : (Try.prog.info? 3).map (fun i => (i.zero, i.size, i.bytes)) = some (some (.int .i64 0), 1, 8) := by kernel_rfl
/-- What wideOf has at the head of its loop. -/
def WdRel (n : Int) (B0 : Nat) (W0 : World) (sv m : Value) (wr : World) : Prop :=
  ∃ (D : List Int) (mm : Int) (f : Nat), m = .int .i64 mm ∧ I64 mm ∧ mm.natAbs < 10 ^ f ∧ f + D.length = 19 ∧ D ++ digF f mm = digs n ∧ wr.ownsRow B0 3 1 sv D.length (D.map (.int .i64)) ∧ Below B0 W0 wr
theorem WdRel.step {n : Int} {B0 : Nat} {W0 wr w3 : World} {sv sv' : Value} {D : List Int} {mm x q : Int} {f : Nat} (hB0 : W0.heap.size = B0) (hz : mm ≠ 0) (hmm : I64 mm) (hf : mm.natAbs < 10 ^ f) (hfl : f + D.length = 19) (hD : D ++ digF f mm = digs n)
    (hown : wr.ownsRow B0 3 1 sv D.length (D.map (.int .i64))) (hb : Below B0 W0 wr) (o : Obj) (hx : x = ((mm.tmod 10).natAbs : Int)) (hq : q = mm.tdiv 10)
    (hown' : w3.ownsRow B0 3 1 sv' (D.length + 1) (D.map (.int .i64) ++ [.int .i64 x])) (hg : (wr.alloc o).grownBy w3 sv.ownBlock) : WdRel n B0 W0 sv' (.int .i64 q) w3 := by
  subst hx hq
  obtain ⟨f, rfl⟩ : ∃ g, f = g + 1 := ⟨f - 1, by
    rcases Nat.eq_zero_or_pos f with h | h
    · subst h; simp at hf; omega
    · omega⟩
  refine ⟨D ++ [((mm.tmod 10).natAbs : Int)], mm.tdiv 10, f, rfl, ?_, ?_, by simp; omega, by rw [List.append_assoc, ← hD, digF_succ hz]; rfl, by simpa using hown', ?_⟩
  · have h1 : (mm.tdiv 10).natAbs ≤ mm.natAbs := by rw [Int.natAbs_tdiv]; exact Nat.div_le_self _ _
    obtain ⟨h2, h3⟩ := hmm
    by_cases h0 : 0 ≤ mm
    · have := Int.tdiv_nonneg h0 (show (0 : Int) ≤ 10 by omega)
      exact ⟨by omega, by omega⟩
    · have e : mm.tdiv 10 = -((-mm).tdiv 10) := by rw [Int.neg_tdiv, Int.neg_neg]
      have := Int.tdiv_nonneg (show 0 ≤ -mm by omega) (show (0 : Int) ≤ 10 by omega)
      exact ⟨by omega, by omega⟩
  · rw [Int.natAbs_tdiv]
    rw [Nat.pow_succ] at hf
    exact Nat.div_lt_of_lt_mul (by rw [Nat.mul_comm]; exact hf)
  · have hol := hown.lt
    refine ⟨hg.os.trans hb.os, hg.tape.trans hb.tape, hg.output.trans hb.output, by have := hb.size; have := hg.size; simp at this; omega, fun k hk => ?_⟩
    have h1 : k < wr.heap.size := by have := hb.size; omega
    rw [hg.block k (by simp; omega) (fun e => by have := (hol k e.symm).1; omega), Below.heap_alloc _ _ _ h1, hb.block k hk]
def WidePost (b : Bool) (D : List Int) (w : World) (e : Ending) (w' : World) : Prop :=
  ∃ (A : Option Addr) (cap : Nat), e = .returned (.agg #[.bool b, .slice A D.length cap]) ∧ Below w.heap.size w w' ∧ CRow (.int .i64) w'.heap.size w' A cap D ∧ ∀ ad, A = some ad → D ≠ [] → w.heap.size ≤ ad.block
set_option maxRecDepth 100000 in
set_option maxHeartbeats 1000000 in
theorem rwideOf_any (n : Int) (w : World) (hn : I64 n) : Calls Try.prog 41 #[.int .i64 n] w (WidePost (decide (n < 0)) (digs n) w) := by
  obtain ⟨hn1, hn2⟩ := hn
  obtain ⟨i0, hi, iz, isz, iby⟩ := info_parts infoInt
  obtain ⟨W0, hW0⟩ : ∃ W0, w.alloc (.cells #[.bool false, .slice none 0 0] 55) = W0 := ⟨_, rfl⟩
  have hbw : Below w.heap.size w W0 := by rw [← hW0]; exact bel1 _ _
  have hz0 : W0.heap.size = w.heap.size + 1 := by rw [← hW0]; simp
  have P0 : W0.heap[w.heap.size]? = some (.cells #[.bool false, .slice none 0 0] 55 (0, 0)) := by rw [← hW0]; exact heap_alloc_new w _
  have HP0 := Lib.hid P0
  have HW0 := Lib.hid hW0
  have Hz0 := Lib.hid hz0
  clear hW0 hz0 P0
  go_enter Try.func41, Try.ntmps41
  go_wp2
  rw [HW0.out]
  go_loopw [3, 4] (fun sv m wr => WdRel n (w.heap.size + 1) W0 sv m wr) (fun _ m _ => (intOf m).natAbs)
  case atStart => exact ⟨[], n, 19, rfl, ⟨hn1, hn2⟩, by omega, rfl, rfl, World.ownsRow_nil _ _ _ _, Below.refl _ _⟩
  case round =>
    obtain ⟨D, mm, f, rfl, hmm, hf, hfl, hD, hown, hbr⟩ := hrel
    by_cases hz : mm = 0
    · subst hz
      rw [digF_zero, List.append_nil] at hD
      subst hD
      have Q0 : wr.heap[w.heap.size]? = some (.cells #[.bool false, .slice none 0 0] 55 (0, 0)) := (hbr.block _ (by omega)).trans HP0.out
      have c0 := cell_of_row wr w.heap.size 0 _ _ _ Q0
      have c1 := cell_of_row wr w.heap.size 1 _ _ _ Q0
      have f0 : wr.frozen? ⟨w.heap.size, 0, none⟩ = false := by simp [World.frozen?, Q0]
      have f1 : wr.frozen? ⟨w.heap.size, 1, none⟩ = false := by simp [World.frozen?, Q0]
      simp at c0 c1
      obtain ⟨A, cap, rfl, h1, h2, h3, h4⟩ := own_crow hown rfl
      obtain ⟨len, hlen⟩ : ∃ len, (digs n).length = len := ⟨_, rfl⟩
      rw [hlen] at h1 ⊢
      have H4 := Lib.hid h4
      have Hlen := Lib.hid hlen
      clear Q0 hown h4 hlen h3
      go_wp2
      refine bodyPost_ret (v := .agg #[.bool (decide (n < 0)), .slice A len cap]) (by simp [results, Try.results41, go_sem, *]) rfl ?_
      have hbel : Below w.heap.size w ((wr.setCell ⟨w.heap.size, 0, none⟩ (.bool (decide (n < 0)))).setCell ⟨w.heap.size, 1, none⟩ (.slice A len cap)) := ((hbw.trans (hbr.mono (by omega))).setCell (by simp) _).setCell (by simp) _
      have hkeep : ∀ q, w.heap.size < q → ((wr.setCell ⟨w.heap.size, 0, none⟩ (.bool (decide (n < 0)))).setCell ⟨w.heap.size, 1, none⟩ (.slice A len cap)).heap[q]? = wr.heap[q]? := fun q hq => by
        rw [Below.heap_setCell _ _ _ _ (by simp; omega), Below.heap_setCell _ _ _ _ (by simp; omega)]
      obtain ⟨W', hW'⟩ : ∃ W', (wr.setCell ⟨w.heap.size, 0, none⟩ (.bool (decide (n < 0)))).setCell ⟨w.heap.size, 1, none⟩ (.slice A len cap) = W' := ⟨_, rfl⟩
      have hzW' : W'.heap.size = wr.heap.size := by rw [← hW']; simp [World.setCell]
      rw [hW'] at hkeep hbel ⊢
      refine ⟨A, cap, by rw [Hlen.out], hbel, ⟨by rw [Hlen.out]; exact h1, h2, fun i x hx => ?_⟩, fun ad hA hne => ?_⟩
      · obtain ⟨ad, e1, _, e2, e3, e4⟩ := H4.out i x hx
        exact ⟨ad, e1, by omega, (World.cell?_of_block (hkeep _ (by rw [block_add]; omega))).trans e4⟩
      · obtain ⟨ad', e1, _, e2, _⟩ := H4.out 0 ((digs n)[0]'(List.length_pos_iff.2 hne)) (List.getElem?_eq_getElem _)
        rw [hA] at e1
        cases e1
        omega
    · have n0 : (mm != 0) = true := by simpa using hz
      obtain ⟨b1, b2⟩ := hmm
      have b3 : mm.tmod 10 < 10 := Int.tmod_lt_of_pos _ (by omega)
      have b4 : -10 < mm.tmod 10 := Int.lt_tmod_of_pos _ (by omega)
      have Hf := Lib.hid hf
      have HD := Lib.hid hD
      have Hown := Lib.hid hown
      have h3 : Hid (D.length + 1 ≤ maxLen) := by show _ ≤ _; unfold maxLen; omega
      have h4 : Hid ((D.length + 1) * 8 ≤ 140737488355328) := by show _ ≤ _; omega
      have h5 : Hid (∀ o, w.heap.size + 1 ≤ (wr.alloc o).heap.size) := fun o => by have := hbr.size; have := Hz0.out; simp; omega
      have hdl : Hid ((mm.tdiv 10).natAbs < mm.natAbs) := by show _ < _; rw [Int.natAbs_tdiv]; exact Nat.div_lt_self (by omega) (by decide)
      clear hf hD hown
      by_cases hlt : mm < 0
      · by_cases hr : mm.tmod 10 < 0
        · skip
          have Hex : Hid (-(mm.tmod 10) = ((mm.tmod 10).natAbs : Int)) := by show _ = _; omega
          have Heq : Hid (mm.tdiv 10 = mm.tdiv 10) := by show _ = _; rfl
          have h6 : Hid (∀ u', u' ∈ [Value.int .i64 (-(mm.tmod 10))] → u'.oneCell' = true) := fun u' h => by simp at h; rw [h]; rfl
          go_wp2_with (at_builtin; refine wpList_append_own2 _ rfl _ _ 53 rfl (w.heap.size + 1) 3 i0 _ 1 8 Try.underlying53 hi iz isz iby rfl (by decide) _ D.length (D.map (.int .i64)) rfl (Hown.out.alloc _) ⟨wr.heap.size, 0, none⟩ 1 1 [.int .i64 (-(mm.tmod 10))] rfl (by decide) rfl (fun q u' h => new_cells _ _ _ q u' h) h6.out h3.out h4.out (h5.out _) ?_; intro sv' w3 hown3 hg3 hm3)
          have Hst := Lib.hid (WdRel.step Hz0.out hz ⟨b1, b2⟩ Hf.out hfl HD.out Hown.out hbr _ Hex.out Heq.out hown3 hg3)
          clear hown3 hg3 hm3
          go_wp2
          go_roundw
          case rel => exact Hst.out
          case measure => have h := hdl.out; rw [← Heq.out] at h; exact h
        · skip
          have Hex : Hid (mm.tmod 10 = ((mm.tmod 10).natAbs : Int)) := by show _ = _; omega
          have Heq : Hid (mm.tdiv 10 = mm.tdiv 10) := by show _ = _; rfl
          have h6 : Hid (∀ u', u' ∈ [Value.int .i64 (mm.tmod 10)] → u'.oneCell' = true) := fun u' h => by simp at h; rw [h]; rfl
          go_wp2_with (at_builtin; refine wpList_append_own2 _ rfl _ _ 53 rfl (w.heap.size + 1) 3 i0 _ 1 8 Try.underlying53 hi iz isz iby rfl (by decide) _ D.length (D.map (.int .i64)) rfl (Hown.out.alloc _) ⟨wr.heap.size, 0, none⟩ 1 1 [.int .i64 (mm.tmod 10)] rfl (by decide) rfl (fun q u' h => new_cells _ _ _ q u' h) h6.out h3.out h4.out (h5.out _) ?_; intro sv' w3 hown3 hg3 hm3)
          have Hst := Lib.hid (WdRel.step Hz0.out hz ⟨b1, b2⟩ Hf.out hfl HD.out Hown.out hbr _ Hex.out Heq.out hown3 hg3)
          clear hown3 hg3 hm3
          go_wp2
          go_roundw
          case rel => exact Hst.out
          case measure => have h := hdl.out; rw [← Heq.out] at h; exact h
      · skip
        have Hex : Hid (mm % 10 = ((mm.tmod 10).natAbs : Int)) := by show _ = _; (rw [Int.tmod_eq_emod_of_nonneg (by omega)]; omega)
        have Heq : Hid (mm / 10 = mm.tdiv 10) := by show _ = _; (rw [Int.tdiv_eq_ediv_of_nonneg (by omega)])
        have h6 : Hid (∀ u', u' ∈ [Value.int .i64 (mm % 10)] → u'.oneCell' = true) := fun u' h => by simp at h; rw [h]; rfl
        go_wp2_with (at_builtin; refine wpList_append_own2 _ rfl _ _ 53 rfl (w.heap.size + 1) 3 i0 _ 1 8 Try.underlying53 hi iz isz iby rfl (by decide) _ D.length (D.map (.int .i64)) rfl (Hown.out.alloc _) ⟨wr.heap.size, 0, none⟩ 1 1 [.int .i64 (mm % 10)] rfl (by decide) rfl (fun q u' h => new_cells _ _ _ q u' h) h6.out h3.out h4.out (h5.out _) ?_; intro sv' w3 hown3 hg3 hm3)
        have Hst := Lib.hid (WdRel.step Hz0.out hz ⟨b1, b2⟩ Hf.out hfl HD.out Hown.out hbr _ Hex.out Heq.out hown3 hg3)
        clear hown3 hg3 hm3
        go_wp2
        go_roundw
        case rel => exact Hst.out
        case measure => have h := hdl.out; rw [← Heq.out] at h; exact h
end Go.Proofs.Ytcdaipkkddgbeaa
