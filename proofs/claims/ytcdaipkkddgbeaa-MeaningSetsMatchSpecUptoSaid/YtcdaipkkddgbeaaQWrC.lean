/-
  The reference of package value: wide numbers times powers of ten (WideC at a seat without package engine).
-/
import Derived.Test.YtcdaipkkddgbeaaQWrB
import Derived.Deep.RegionLawGrows
import Derived.Laws.OwnMore
namespace Go.Proofs.Ytcdaipkkddgbeaa
open Go.RowKit
theorem new_cells2 (w : World) (cs : Array Value) (t : TypeId) (n : Nat) (hn : w.heap.size = n) (j : Nat) (u : Value) (h : cs.toList[j]? = some u) : (w.alloc (.cells cs t)).cell? ((⟨n, 0, none⟩ : Addr).add j) = some u := by
  subst hn
  exact new_cells w cs t j u h
def tenS (D : List Int) (k : Nat) : List Int := if D = [] then [] else List.replicate k 0 ++ D
set_option maxRecDepth 100000 in
set_option maxHeartbeats 1000000 in
theorem rtens_any (b : Bool) (A : Option Addr) (cap k len : Nat) (D : List Int) (B : Nat) (w : World) (h1 : CRow (.int .i64) B w A cap D) (_hB : B ≤ w.heap.size) (hk : k ≤ 12) (hD : len ≤ 100) (hlen : Hid (D.length = len)) :
    Calls Try.prog 40 #[.agg #[.bool b, .slice A len cap], .int .i64 (k : Int)] w (WidePost b (tenS D k) w) := by
  obtain ⟨i0, hi, iz, isz, iby⟩ := info_parts infoInt
  by_cases h0 : len = 0
  · subst h0
    obtain rfl : D = [] := List.eq_nil_of_length_eq_zero hlen.out
    go_enter Try.func40, Try.ntmps40
    go_wp2
    refine bodyPost_ret (v := .agg #[.bool b, .slice A 0 cap]) (by simp [results, Try.results40, go_sem, *]) rfl ?_
    exact ⟨A, cap, rfl, bel2 _ _ _, ⟨Nat.zero_le _, h1.2.1, fun i x hx => by simp [tenS] at hx⟩, fun ad _ h => absurd (by simp [tenS]) h⟩
  · have e0 : ((len : Int) == 0) = false := by simp; omega
    obtain ⟨x0, ad, _, rfl, hb, _⟩ := h1.get (show 0 < D.length by rw [hlen.out]; omega)
    obtain ⟨Z, hZ⟩ : ∃ Z, madeCells (Value.cells (.int .i64 0)) (k * i0.size) = Z := ⟨_, rfl⟩
    have hmk : ∀ W : World, (Instr.makeSlice 53 (.int .i64 (k : Int)) (.int .i64 (k : Int))).run Try.prog W = .ok (.slice (some ⟨W.heap.size, 0, none⟩) k k) (W.alloc (.cells Z 3)) := fun W => by
      have := run_makeSlice W 53 3 i0 (.int .i64 0) Try.underlying53 hi iz .i64 .i64 (k : Int) (k : Int) (by omega) (by omega) (by rw [isz]; simp; omega) (by rw [iby]; omega) (by omega)
      simp only [Int.toNat_natCast] at this
      rw [hZ] at this
      exact this
    have hZl : Z.toList = (List.replicate k (0 : Int)).map (.int .i64) := by rw [← hZ, isz, Nat.mul_one]; have := toList_madeCells_one (.int .i64 0) k; rw [List.map_replicate]; exact this
    clear hZ
    obtain ⟨C, hC⟩ : ∃ C, ((w.alloc (.cells #[.bool b, .slice (some ad) len cap] 55)).alloc (.cells #[.bool false, .slice none 0 0] 55)).alloc (.cells Z 3) = C := ⟨_, rfl⟩
    have hbC : Below w.heap.size w C := by rw [← hC]; exact bel3 _ _ _ _
    have hzC : C.heap.size = w.heap.size + 3 := by rw [← hC]; simp
    have P1 : C.heap[w.heap.size + 1]? = some (.cells #[.bool false, .slice none 0 0] 55 (0, 0)) := by
      rw [← hC, Below.heap_alloc _ _ _ (by simp)]
      have := heap_alloc_new (w.alloc (.cells #[.bool b, .slice (some ad) len cap] 55)) (.cells #[.bool false, .slice none 0 0] 55)
      simpa using this
    have P0 : C.cell? ⟨w.heap.size, 0, none⟩ = some (.bool b) := by rw [← hC]; exact cell_old (cell_old (by rw [cell_new]; rfl) _) _
    have Hholds : Hid (∀ b', some (⟨w.heap.size + 2, 0, none⟩ : Addr) = some b' → ∀ (j : Nat) u, ((List.replicate k (0 : Int)).map (Value.int .i64))[j]? = some u → (((w.alloc (.cells #[.bool b, .slice (some ad) len cap] 55)).alloc (.cells #[.bool false, .slice none 0 0] 55)).alloc (.cells Z 3)).drew.cell? (b'.add j) = some u) := fun b' hb' j u hu => by
      cases hb'
      exact new_cells2 _ _ _ _ (by simp) j u (by rw [hZl]; exact hu)
    have Hc : Hid (∀ (j : Nat) u, (D.map (Value.int .i64))[j]? = some u → (((w.alloc (.cells #[.bool b, .slice (some ad) len cap] 55)).alloc (.cells #[.bool false, .slice none 0 0] 55)).alloc (.cells Z 3)).drew.cell? (ad.add j) = some u) := fun j u hu => by
      rw [List.getElem?_map] at hu
      obtain ⟨x, hx, rfl⟩ := Option.map_eq_some_iff.1 hu
      obtain ⟨ad', e, _, hat⟩ := h1.2.2 j x hx
      cases e
      exact cell_old (cell_old (cell_old hat _) _) _
    have H1c : Hid (∀ u, u ∈ D.map (Value.int .i64) → u.oneCell' = true) := fun u hu => by
      obtain ⟨x, _, rfl⟩ := List.mem_map.1 hu
      rfl
    have Hl : Hid ((D.map (Value.int .i64)).length = len * 1) := by show _ = _; simp [hlen.out]
    have Hfin : Hid (∀ v' w', w'.ownsRow (((w.alloc (.cells #[.bool b, .slice (some ad) len cap] 55)).alloc (.cells #[.bool false, .slice none 0 0] 55)).alloc (.cells Z 3)).drew.heap.size 3 1 v' (k + len) ((List.replicate k (0 : Int)).map (Value.int .i64) ++ D.map (Value.int .i64)) → (((w.alloc (.cells #[.bool b, .slice (some ad) len cap] 55)).alloc (.cells #[.bool false, .slice none 0 0] 55)).alloc (.cells Z 3)).drew.grownBy w' none →
        ∃ A' cap', v' = .slice A' (k + len) cap' ∧ w'.cell? ⟨w.heap.size, 0, none⟩ = some (.bool b) ∧ w'.cell? ⟨w.heap.size + 1, 0, none⟩ = some (.bool false) ∧ w'.cell? ⟨w.heap.size + 1, 1, none⟩ = some (.slice none 0 0) ∧ w'.frozen? ⟨w.heap.size + 1, 0, none⟩ = false ∧ w'.frozen? ⟨w.heap.size + 1, 1, none⟩ = false ∧
          Hid (Below w.heap.size w w' ∧ w.heap.size + 3 ≤ w'.heap.size ∧ k + len ≤ cap' ∧ cap' ≤ maxLen ∧ ∀ (i : Nat) x, (List.replicate k (0 : Int) ++ D)[i]? = some x → ∃ ad' : Addr, A' = some ad' ∧ w.heap.size + 3 ≤ ad'.block ∧ ad'.block < w'.heap.size ∧ w'.cell? (ad'.add i) = some (.int .i64 x))) := fun v' w' ho hg => by
      rw [hC] at ho hg
      rw [← List.map_append] at ho
      obtain ⟨A', cap', hv', p1, p2, p3, p4⟩ := own_crow ho (by simp [hlen.out])
      have Q : w'.heap[w.heap.size + 1]? = some (.cells #[.bool false, .slice none 0 0] 55 (0, 0)) := (hg.block _ (by show _ < C.heap.size; omega) (by simp)).trans P1
      have c0 := cell_of_row w' (w.heap.size + 1) 0 _ _ _ Q
      have c1 := cell_of_row w' (w.heap.size + 1) 1 _ _ _ Q
      refine ⟨A', cap', hv', (World.cell?_of_block (hg.block w.heap.size (by show _ < C.heap.size; omega) (by simp))).trans P0, by simpa using c0, by simpa using c1, by simp [World.frozen?, Q], by simp [World.frozen?, Q], ?_, ?_, p1, p2, fun i x hx => ?_⟩
      · exact ⟨hg.os.trans hbC.os, hg.tape.trans hbC.tape, hg.output.trans hbC.output, Nat.le_trans hbC.size hg.size, fun q hq => (hg.block q (by show _ < C.heap.size; omega) (by simp)).trans (hbC.block q hq)⟩
      · have := hg.size; have e : C.drew.heap.size = C.heap.size := rfl; omega
      · obtain ⟨ad', q1, _, q2, q3, q4⟩ := p4 i x hx
        have e : C.drew.heap.size = C.heap.size := rfl
        exact ⟨ad', q1, by omega, q3, q4⟩
    have HR : Hid (tenS D k = List.replicate k 0 ++ D) := by
      show _ = _
      unfold tenS
      rw [if_neg (fun e => h0 (by rw [← hlen.out, e]; rfl))]
    clear hC hzC P1 P0 hbC h1
    go_enter Try.func40, Try.ntmps40
    go_wp2
    go_region_law (refine step_append_grows rfl (.tmp 13) (.tmp 15) 53 rfl 3 i0 (.int .i64 0) 1 8 Try.underlying53 hi iz isz iby rfl (by decide) (some ⟨w.heap.size + 2, 0, none⟩) k k ((List.replicate k (0 : Int)).map (.int .i64)) (by simp [Act.eval]) (fun h => by cases h) (by simp) Hholds.out ad len cap (D.map (.int .i64)) (by simp [Act.eval]) Hl.out Hc.out H1c.out (by omega) (by unfold maxLen; omega) (by omega) ?_; intro v' w' hown hgrow; obtain ⟨A', cap', hv', cb, c0, c1, f0, f1, Hend⟩ := Hfin.out v' w' hown hgrow; subst hv'; clear hown hgrow)
    all_goals
      go_wp2
      refine bodyPost_ret (v := .agg #[.bool b, .slice A' (k + len) cap']) (by simp [results, Try.results40, go_sem, *]) rfl ?_
      obtain ⟨q1, q2, q3, q4, q5⟩ := Hend.out
      have hkeep : ∀ q, w.heap.size + 2 ≤ q → ((w'.setCell ⟨w.heap.size + 1, 0, none⟩ (.bool b)).setCell ⟨w.heap.size + 1, 1, none⟩ (.slice A' (k + len) cap')).heap[q]? = w'.heap[q]? := fun q hq => by
        rw [Below.heap_setCell _ _ _ _ (by simp; omega), Below.heap_setCell _ _ _ _ (by simp; omega)]
      have hbel : Below w.heap.size w ((w'.setCell ⟨w.heap.size + 1, 0, none⟩ (.bool b)).setCell ⟨w.heap.size + 1, 1, none⟩ (.slice A' (k + len) cap')) := (q1.setCell (by simp) _).setCell (by simp) _
      obtain ⟨W', hW'⟩ : ∃ W', (w'.setCell ⟨w.heap.size + 1, 0, none⟩ (.bool b)).setCell ⟨w.heap.size + 1, 1, none⟩ (.slice A' (k + len) cap') = W' := ⟨_, rfl⟩
      have hzW' : W'.heap.size = w'.heap.size := by rw [← hW']; simp [World.setCell]
      rw [hW'] at hkeep hbel ⊢
      have hl : (tenS D k).length = k + len := by rw [HR.out]; simp [hlen.out]
      refine ⟨A', cap', by rw [hl], hbel, ⟨by rw [hl]; exact q3, q4, fun i x hx => ?_⟩, fun ad1 hA hne => ?_⟩
      · rw [HR.out] at hx
        obtain ⟨ad', e1, e2, e3, e4⟩ := q5 i x hx
        exact ⟨ad', e1, by omega, (World.cell?_of_block (hkeep _ (by rw [block_add]; omega))).trans e4⟩
      · rw [HR.out] at hne
        obtain ⟨ad', e1, e2, _⟩ := q5 0 _ (List.getElem?_eq_getElem (List.length_pos_iff.2 hne))
        rw [hA] at e1
        cases e1
        omega
end Go.Proofs.Ytcdaipkkddgbeaa
