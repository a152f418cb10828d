/-
  A row that was made and is filled from its beginning on.
  Package engine: the positions that count, and a row of a batch.
-/
import Derived.Test.YtkadahfknccjfaaGreatDoorQData3
import Derived.Test.YtkadahfknccjfaaGreatDoorQVecDa
import Derived.Test.YtkadahfknccjfaaGreatDoorQNewAa
import Derived.Test.YtkadahfknccjfaaGreatDoorQVecMa
import Derived.Test.YtkadahfknccjfaaGreatDoorQBatG0
import Derived.Test.YtkadahfknccjfaaGreatDoorProg
import Derived.Deep.DeepCutAuto
namespace Go.Proofs.YtkadahfknccjfaaGreatDoor
open Go.RowKit
theorem add_off2 (q : Addr) (i : Nat) (h : 0 < i) : q.add i = ⟨q.block, q.off + i, none⟩ := by unfold Addr.add; split <;> simp_all
theorem row_set {g o : Nat} {w : World} {cur : Array Value} {e : TypeId} (v : Value) (h : w.heap[g]? = some (.cells cur e (0, 0))) : (w.setCell ⟨g, o, none⟩ v).heap[g]? = some (.cells (cur.setIfInBounds o v) e (0, 0)) := by
  have hg := (Array.getElem?_eq_some_iff.1 h).1
  rw [heap_setCell_same w g o _ _ v h]
theorem row_sets {g : Nat} {e : TypeId} : ∀ (vs : List Value) (o : Nat) (w : World) (cur : Array Value), w.heap[g]? = some (.cells cur e (0, 0)) → o + vs.length ≤ cur.size →
    ∃ cur', (w.setCells g o vs).heap[g]? = some (.cells cur' e (0, 0)) ∧ cur'.size = cur.size ∧ cur'.toList.take o = cur.toList.take o ∧ cur'.toList.take (o + vs.length) = cur.toList.take o ++ vs
  | [], o, w, cur, h, _ => ⟨cur, h, rfl, rfl, by simp⟩
  | v :: r, o, w, cur, h, hl => by
    rw [List.length_cons] at hl
    obtain ⟨cur', h1, h2, h3, h4⟩ := row_sets r (o + 1) (w.setCell ⟨g, o, none⟩ v) (cur.setIfInBounds o v) (row_set v h) (by simpa using (by omega : o + 1 + r.length ≤ cur.size))
    have h5 : (cur.setIfInBounds o v).toList.take (o + 1) = cur.toList.take o ++ [v] := by
      rw [Array.toList_setIfInBounds, List.take_add_one, List.getElem?_set_self (by simp; omega), List.take_set_of_le (Nat.le_refl _)]
      simp
    refine ⟨cur', h1, by simpa using h2, ?_, ?_⟩
    · have h6 := congrArg (List.take o) h3
      rw [List.take_take, h5] at h6
      have : (cur.toList.take o).length = o := by rw [List.length_take, Array.length_toList]; omega
      simpa [Nat.min_eq_left (Nat.le_succ o), List.take_append, this] using h6
    · rw [List.length_cons, show o + (r.length + 1) = o + 1 + r.length by omega, h4, h5]
      simp
theorem sets_frame {g : Nat} : ∀ (vs : List Value) (o : Nat) (w : World), (w.setCells g o vs).os = w.os ∧ (w.setCells g o vs).tape = w.tape ∧ (w.setCells g o vs).output = w.output ∧ (w.setCells g o vs).heap.size = w.heap.size ∧ ∀ k, k ≠ g → (w.setCells g o vs).heap[k]? = w.heap[k]?
  | [], _, _ => ⟨rfl, rfl, rfl, rfl, fun _ _ => rfl⟩
  | v :: r, o, w => by
    obtain ⟨h1, h2, h3, h4, h5⟩ := sets_frame (g := g) r (o + 1) (w.setCell ⟨g, o, none⟩ v)
    exact ⟨h1, h2, h3, h4.trans (size_setCell _ _ _), fun k hk => (h5 k hk).trans (heap_setCell_other w _ k _ hk)⟩
/-- A block of n values of k cells each, of which the first cells are these. -/
def Filled (t : TypeId) (k n g : Nat) (xs : List Value) (w : World) : Prop := ∃ cur, w.heap[g]? = some (.cells cur t (0, 0)) ∧ cur.size = n * k ∧ cur.toList.take xs.length = xs
theorem Filled.keep {t : TypeId} {k n g : Nat} {xs : List Value} {w w' : World} (h : Filled t k n g xs w) (e : w'.heap[g]? = w.heap[g]?) : Filled t k n g xs w' := by
  obtain ⟨cur, h1, h2⟩ := h
  exact ⟨cur, e.trans h1, h2⟩
theorem Filled.lt {t : TypeId} {k n g : Nat} {xs : List Value} {w : World} (h : Filled t k n g xs w) : g < w.heap.size := by
  obtain ⟨cur, h1, _⟩ := h
  exact (Array.getElem?_eq_some_iff.1 h1).1
theorem Filled.step {t : TypeId} {k n g : Nat} {xs vs : List Value} {w : World} (h : Filled t k n g xs w) (hl : xs.length + vs.length ≤ n * k) : Filled t k n g (xs ++ vs) (w.setCells g xs.length vs) := by
  obtain ⟨cur, h1, h2, h3⟩ := h
  obtain ⟨cur', r1, r2, _, r4⟩ := row_sets vs xs.length w cur h1 (by omega)
  exact ⟨cur', r1, by omega, by rw [List.length_append, r4, h3]⟩
theorem Filled.cell {t : TypeId} {k n g : Nat} {xs : List Value} {w : World} (h : Filled t k n g xs w) {i : Nat} {u : Value} (hu : xs[i]? = some u) : w.cell? ⟨g, i, none⟩ = some u := by
  obtain ⟨cur, h1, h2, h3⟩ := h
  rw [cell_of_row _ _ _ _ _ _ h1]
  rw [← h3, List.getElem?_take] at hu
  split at hu
  · simpa using hu
  · cases hu
theorem Filled.room {t : TypeId} {k n g : Nat} {xs : List Value} {w : World} (h : Filled t k n g xs w) {i : Nat} (hi : i < n * k) : ∃ u, w.cell? ⟨g, i, none⟩ = some u := by
  obtain ⟨cur, h1, h2, h3⟩ := h
  exact ⟨cur[i]'(by omega), by rw [cell_of_row _ _ _ _ _ _ h1]; simp⟩
theorem Filled.frozen {t : TypeId} {k n g : Nat} {xs : List Value} {w : World} (h : Filled t k n g xs w) (i : Nat) : w.frozen? ⟨g, i, none⟩ = false := by
  obtain ⟨cur, h1, _⟩ := h
  simp [World.frozen?, h1]
end Go.Proofs.YtkadahfknccjfaaGreatDoor
namespace Go.Proofs.YtkadahfknccjfaaGreatDoor
open Go.RowKit
/-- The numbers below n. -/
def cntL (n : Nat) : List Value := (List.range n).map fun (i : Nat) => Value.int .i64 i
theorem cntL_len (n : Nat) : (cntL n).length = n := by simp [cntL]
theorem cntL_succ (n : Nat) : cntL (n + 1) = cntL n ++ [.int .i64 n] := by simp [cntL, List.range_succ]
set_option maxRecDepth 100000 in
set_option maxHeartbeats 4000000 in
theorem ecounting_any (CA : Option Addr) (ccap n len : Nat) (w : World) (hn : n ≤ 1024) :
    Calls Tryz.prog 48 #[.agg #[.int .i64 n, .slice CA len ccap, .bool true, .slice none 0 0]] w fun e w' => ∃ g, e = .returned (.slice (some ⟨g, 0, none⟩) n n) ∧ w.heap.size ≤ g ∧ Filled 3 1 n g (cntL n) w' ∧ Below w.heap.size w w' := by
  obtain ⟨i0, hi, iz, isz, iby⟩ := info_parts infoInt0
  obtain ⟨Z, hZ⟩ : ∃ Z, madeCells (Value.cells (.int .i64 0)) (n * i0.size) = Z := ⟨_, rfl⟩
  have hmk : ∀ W : World, (Instr.makeSlice 30 (.int .i64 (n : Int)) (.int .i64 (n : Int))).run Tryz.prog W = .ok (.slice (some ⟨W.heap.size, 0, none⟩) n n) (W.alloc (.cells Z 3)) := fun W => by
    have := run_makeSlice W 30 3 i0 (.int .i64 0) Tryz.underlying30 hi iz .i64 .i64 (n : Int) (n : Int) (by omega) (by omega) (by rw [isz]; simp; omega) (by rw [iby]; omega) (by omega)
    simp only [Int.toNat_natCast] at this
    rw [hZ] at this
    exact this
  have hZs : Z.size = n * 1 := by rw [← hZ, size_madeCells, isz]
  clear hZ
  obtain ⟨W0, hW0⟩ : ∃ W0, (w.alloc (.cells #[.int .i64 n, .slice CA len ccap, .bool true, .slice none 0 0] 32)).alloc (.cells Z 3) = W0 := ⟨_, rfl⟩
  have hbw : Below w.heap.size w W0 := by rw [← hW0]; exact bel2 _ _ _
  have hf0 : Filled 3 1 n (w.heap.size + 1) [] W0 := ⟨Z, by rw [← hW0]; exact blk_new _ _ _ (by simp), hZs, rfl⟩
  have HW0 := Lib.hid hW0
  have Hf0 := Lib.hid hf0
  clear hW0 hf0 hZs
  go_enter Tryz.func48, Tryz.ntmps48
  go_upto_region 4 with (fail)
  rw [HW0.out]
  go_wp2
  go_loopw [15] (fun i wr => ∃ j : Nat, j ≤ n ∧ i = .int .i64 j ∧ Filled 3 1 n (w.heap.size + 1) (cntL j) wr ∧ Below w.heap.size w wr) (fun i _ => n - (intOf i).toNat)
  case atStart => exact ⟨0, Nat.zero_le _, rfl, Hf0.out, hbw⟩
  case round =>
    obtain ⟨j, hj, rfl, hf, hb⟩ := hrel
    by_cases hlt : j < n
    · obtain ⟨u0, hu0⟩ := hf.room (show j < n * 1 by omega)
      have fz := hf.frozen j
      have Hf := Lib.hid hf
      clear hf
      go_wp2
      go_roundw
      case rel =>
        refine ⟨j + 1, by omega, by simp, ?_, hb.setCell (by simp) _⟩
        have h := Hf.out.step (vs := [.int .i64 j]) (by rw [cntL_len]; simp; omega)
        rw [cntL_len, ← cntL_succ] at h
        exact h
      case measure => simp [intOf]; omega
    · obtain rfl : j = n := by omega
      have Hf := Lib.hid hf
      clear hf
      go_wp2
      go_ret
      exact ⟨_, rfl, Nat.le_succ _, Hf.out, hb⟩
theorem vc_len : ∀ L : List VT, (L.flatMap vCells).length = L.length * 5
  | [] => rfl
  | y :: r => by rw [List.flatMap_cons, List.length_append, vc_len r, List.length_cons, Nat.add_mul]; show 5 + _ = _; omega
/-- A row of a batch. -/
def rowL (cs : List VecT) (i : Nat) : List VT := cs.map fun v => atV v i
set_option maxRecDepth 100000 in
set_option maxHeartbeats 8000000 in
theorem erow_any (CA : Option Addr) (ccap n len i : Nat) (cs : List VecT) (B : Nat) (w : World) (hrow : GRow VecT.c 7 B w CA ccap cs) (hin : ∀ v, v ∈ cs → VecT.In B w v) (hB : B ≤ w.heap.size) (hlen : Hid (cs.length = len)) (h120 : len ≤ 120) (hhas : ∀ v, v ∈ cs → v.Has i) :
    Calls Tryz.prog 49 #[.agg #[.int .i64 n, .slice CA len ccap, .bool true, .slice none 0 0], .int .i64 i] w fun e w' => ∃ g, e = .returned (.slice (some ⟨g, 0, none⟩) len len) ∧ w.heap.size ≤ g ∧ Filled 61 5 len g ((rowL cs i).flatMap vCells) w' ∧ Below w.heap.size w w' := by
  obtain ⟨i0, hi, iz, isz, iby⟩ := info_parts infoValue
  obtain ⟨Z, hZ⟩ : ∃ Z, madeCells (Value.cells (.agg #[.int .i64 0, .int .i64 0, .int .i64 0, .string ByteArray.empty, .slice none 0 0])) (len * i0.size) = Z := ⟨_, rfl⟩
  have hmk : ∀ W : World, (Instr.makeSlice 42 (.int .i64 (len : Int)) (.int .i64 (len : Int))).run Tryz.prog W = .ok (.slice (some ⟨W.heap.size, 0, none⟩) len len) (W.alloc (.cells Z 61)) := fun W => by
    have := run_makeSlice W 42 61 i0 _ Tryz.underlying42 hi iz .i64 .i64 (len : Int) (len : Int) (by omega) (by omega) (by rw [isz]; simp; omega) (by rw [iby]; omega) (by omega)
    simp only [Int.toNat_natCast] at this
    rw [hZ] at this
    exact this
  have hZs : Z.size = len * 5 := by rw [← hZ, size_madeCells, isz]
  clear hZ
  obtain ⟨W0, hW0⟩ : ∃ W0, (w.alloc (.cells #[.int .i64 n, .slice CA len ccap, .bool true, .slice none 0 0] 32)).alloc (.cells Z 61) = W0 := ⟨_, rfl⟩
  have hbw : Below w.heap.size w W0 := by rw [← hW0]; exact bel2 _ _ _
  have hf0 : Filled 61 5 len (w.heap.size + 1) [] W0 := ⟨Z, by rw [← hW0]; exact blk_new _ _ _ (by simp), hZs, rfl⟩
  have P0 : W0.heap[w.heap.size]? = some (.cells #[.int .i64 n, .slice CA len ccap, .bool true, .slice none 0 0] 32 (0, 0)) := by rw [← hW0, Below.heap_alloc _ _ _ (by simp)]; exact heap_alloc_new w _
  have p1 := cell_of_row W0 w.heap.size 1 _ _ _ P0
  simp at p1
  have HW0 := Lib.hid hW0
  have Hf0 := Lib.hid hf0
  have Hrow := Lib.hid hrow
  have Hin := Lib.hid hin
  have Hhas := Lib.hid hhas
  have hz00 : w.heap.size + 1 < W0.heap.size := hf0.lt
  have Hz00 := Lib.hid hz00
  clear hW0 hf0 hZs P0 hrow hin hhas hz00
  go_enter Tryz.func49, Tryz.ntmps49
  go_upto_region 2 with (fail)
  rw [HW0.out]
  go_wp2
  go_loopw [15] (fun k wr => ∃ j : Nat, j ≤ len ∧ k = .int .i64 j ∧ Filled 61 5 len (w.heap.size + 1) ((rowL (cs.take j) i).flatMap vCells) wr ∧ Below w.heap.size w wr) (fun k _ => len - (intOf k).toNat)
  case atStart => exact ⟨0, Nat.zero_le _, rfl, Hf0.out, hbw⟩
  case round =>
    clear p1
    obtain ⟨j, hj, rfl, hf, hb⟩ := hrel
    have hS : Same B w wr := Same.mono (Same.of_below hb) hB
    have hl5 : ((rowL (cs.take j) i).flatMap vCells).length = j * 5 := by
      rw [vc_len]
      simp [rowL, hlen.out, hj]
    by_cases hlt : j < len
    · obtain ⟨v, ad, hx, rfl, hab, hat⟩ := (Hrow.out.keep hS).get (show j < cs.length by rw [hlen.out]; exact hlt)
      have d0 : wr.cell? (ad.add (j * 7)) = some (.int .i64 v.t.a.k) := hat 0 _ rfl
      have d1 : wr.cell? ⟨(ad.add (j * 7)).block, (ad.add (j * 7)).off + 1, none⟩ = some (.int .i64 v.t.a.sc) := by rw [← add_off2 _ 1 (by decide)]; exact hat 1 _ rfl
      have d2 : wr.cell? ⟨(ad.add (j * 7)).block, (ad.add (j * 7)).off + 2, none⟩ = some (.slice v.t.a.A v.t.l.length v.t.a.cap) := by rw [← add_off2 _ 2 (by decide)]; exact hat 2 _ rfl
      have d3 : wr.cell? ⟨(ad.add (j * 7)).block, (ad.add (j * 7)).off + 3, none⟩ = some (.slice v.NA v.ns.length v.ncap) := by rw [← add_off2 _ 3 (by decide)]; exact hat 3 _ rfl
      have d4 : wr.cell? ⟨(ad.add (j * 7)).block, (ad.add (j * 7)).off + 4, none⟩ = some (.slice v.IA v.is.length v.icap) := by rw [← add_off2 _ 4 (by decide)]; exact hat 4 _ rfl
      have d5 : wr.cell? ⟨(ad.add (j * 7)).block, (ad.add (j * 7)).off + 5, none⟩ = some (.slice v.SA v.ss.length v.scap) := by rw [← add_off2 _ 5 (by decide)]; exact hat 5 _ rfl
      have d6 : wr.cell? ⟨(ad.add (j * 7)).block, (ad.add (j * 7)).off + 6, none⟩ = some (.slice v.VA v.vs.length v.vcap) := by rw [← add_off2 _ 6 (by decide)]; exact hat 6 _ rfl
      obtain ⟨W1, hW1⟩ : ∃ W1, wr.alloc (.cells #[.int .i64 v.t.a.k, .int .i64 v.t.a.sc, .slice v.t.a.A v.t.l.length v.t.a.cap, .slice v.NA v.ns.length v.ncap, .slice v.IA v.is.length v.icap, .slice v.SA v.ss.length v.scap, .slice v.VA v.vs.length v.vcap] 54) = W1 := ⟨_, rfl⟩
      have hb1 : Below wr.heap.size wr W1 := by rw [← hW1]; exact bel1 _ _
      have hzr := hb.size
      have hb1w : Below w.heap.size w W1 := hb.trans (hb1.mono hzr)
      have hS1 : Same B w W1 := Same.mono (Same.of_below hb1w) hB
      have hz1 := hb1w.size
      have hal := Lib.hid (eat_any v i B W1 ((Hin.out v (mem_of_get? hx)).keep hS1) (by omega) (Hhas.out v (mem_of_get? hx)))
      have hst : rowL (cs.take (j + 1)) i = rowL (cs.take j) i ++ [atV v i] := by unfold rowL; rw [List.take_add_one, hx]; simp
      obtain ⟨X, hX⟩ : ∃ X, atV v i = X := ⟨_, rfl⟩
      rw [hX] at hal hst
      have HW1 := Lib.hid hW1
      have Hf := Lib.hid hf
      have Hl5 := Lib.hid hl5
      have Hst := Lib.hid hst
      have Hb1 := Lib.hid hb1
      clear hW1 hf hl5 hst hx hX hat hb1
      go_wp2_with fail
      rw [HW1.out]
      refine hal.out.mono ?_
      rintro e w2 ⟨rfl, hb2⟩
      have hf2 := Hf.out.keep (((hb2.mono Hb1.out.size).block _ Hf.out.lt).trans (Hb1.out.block _ Hf.out.lt))
      obtain ⟨z0, r0⟩ := hf2.room (show j * 5 < len * 5 by omega)
      obtain ⟨z1, r1⟩ := hf2.room (show j * 5 + 1 < len * 5 by omega)
      obtain ⟨z2, r2⟩ := hf2.room (show j * 5 + 2 < len * 5 by omega)
      obtain ⟨z3, r3⟩ := hf2.room (show j * 5 + 3 < len * 5 by omega)
      obtain ⟨z4, r4⟩ := hf2.room (show j * 5 + 4 < len * 5 by omega)
      have fz := hf2.frozen
      have Hf2 := Lib.hid hf2
      have hb2w : Below w.heap.size w w2 := hb1w.trans (hb2.mono hz1)
      clear hf2
      go_wp2
      go_roundw
      case rel =>
        refine ⟨j + 1, by omega, by simp, ?_, ?_⟩
        · have h := Hf2.out.step (vs := vCells X) (by rw [Hl5.out]; show j * 5 + 5 ≤ _; omega)
          rw [Hl5.out] at h
          rw [Hst.out, List.flatMap_append, List.flatMap_singleton]
          simpa only [World.setCells, vCells, Nat.add_assoc, Nat.reduceAdd] using h
        · exact ((((hb2w.setCell (by simp) _).setCell (by simp) _).setCell (by simp) _).setCell (by simp) _).setCell (by simp) _
      case measure => simp [intOf]; omega
    · obtain rfl : j = len := by omega
      rw [List.take_of_length_le (by rw [hlen.out]; exact Nat.le_refl _)] at hf
      have Hf := Lib.hid hf
      clear hf hl5
      go_wp2
      go_ret
      exact ⟨_, rfl, Nat.le_succ _, Hf.out, hb⟩
end Go.Proofs.YtkadahfknccjfaaGreatDoor
