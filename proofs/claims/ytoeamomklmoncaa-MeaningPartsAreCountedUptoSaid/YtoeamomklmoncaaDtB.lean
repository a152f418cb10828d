/-
  slices.Grow (of nil), slices.Clone at expressions and keys.
-/
import Derived.Test.YtoeamomklmoncaaDtA
import Derived.Test.YtoeamomklmoncaaProg
import Derived.WalkLawsBesides
import Derived.WalkSpells
import Derived.Outline
import Derived.Lib.Hide
import Derived.Lib.AppendZerosOnto
import Derived.Lib.SliceRun
import Derived.OwnWalk
import Derived.Lib.Walk
namespace Go.Proofs.Ytoeamomklmoncaa
open Go.RowKit
theorem infoExpr : (Try.prog.info? 49).map (fun i => (i.zero, i.size, i.bytes)) = some (some (.agg #[.int .i64 0, .int .i64 0, .int .i64 0, .int .i64 0, .int .i64 0, .int .i64 0, .slice none 0 0, .int .i64 0, .int .i64 0, .int .i64 0, .string ByteArray.empty, .slice none 0 0, .slice none 0 0, .slice none 0 0]), 14, 184) := by kernel_rfl
theorem infoKey : (Try.prog.info? 70).map (fun i => (i.zero, i.size, i.bytes)) = some (some (.agg #[.int .i64 0, .int .i64 0, .int .i64 0, .int .i64 0, .int .i64 0, .int .i64 0, .slice none 0 0, .int .i64 0, .int .i64 0, .int .i64 0, .string ByteArray.empty, .slice none 0 0, .slice none 0 0, .slice none 0 0, .bool false, .bool false]), 16, 192) := by kernel_rfl
theorem zeroCells_size (z : Array Value) (n : Nat) : (Builtin.zeroCells z n).size = n * z.size := by simp [Builtin.zeroCells]
theorem grow_zeros {P : Program} (w : World) (t tn e : TypeId) (i : TypeInfo) (z : Value) (sz by' : Nat) (ht : P.underlying t = some (.slice e)) (htn : P.underlying tn = some (.int .i64)) (hi : P.info? e = some i) (iz : i.zero = some z) (isz : i.size = sz) (iby : i.bytes = by') (hzs : z.cells.size = sz) (hsz : 0 < sz) (n : Nat) (h0 : 0 < n) (hn : n * by' ≤ 140737488355328) (hn63 : n ≤ 140737488355328) :
    ∃ (cp : Nat) (C : Array Value), n ≤ cp ∧ cp ≤ maxLen ∧ C.size = cp * sz ∧ ∀ ty, (Builtin.append_ #[t, tn] ty #[.slice none 0 0, .int .i64 (n : Int)]).run P w = .ok (.slice (some ⟨w.heap.size, 0, none⟩) n cp) (w.drew.alloc (.cells C e)) := by
  have hge := grownCap_ge w n 0 e
  refine ⟨grownCap w n 0 e, (([] : List Value).toArray ++ Builtin.zeroCells z.cells n ++ Builtin.zeroCells z.cells (grownCap w n 0 e - n)), hge, grownCap_le_maxLen w n 0 e (by unfold maxLen; omega), ?_, fun ty => ?_⟩
  · simp only [Array.size_append, zeroCells_size, hzs]
    rw [show ([] : List Value).toArray.size = 0 from rfl, Nat.zero_add, ← Nat.add_mul]
    congr 1
    omega
  · have h := Lib.run_append_grow_zeros (P := P) w t tn ty e i z .i64 .i64 ht htn hi iz none 0 0 [] (by simp [Builtin.firstCells]) n h0 (by omega) (by omega) (by simp; omega) (by rw [iby]; omega) (by simp only [Builtin.nextslicecap]; rw [if_pos (by omega), iby, Nat.zero_add]; omega)
    rw [Nat.zero_add] at h
    exact h
set_option maxRecDepth 100000 in
set_option maxHeartbeats 1000000 in
theorem cloneE_any (A : Option Addr) (cap : Nat) (l : List DT) (S : Nat → Prop) (w : World) (hr : DRow S w 14 A cap l) (hf : ∀ x, x ∈ l → x.c.length = 14) (h1 : ∀ x, x ∈ l → ∀ u, u ∈ x.c → u.oneCell' = true) (hn : l.length ≤ 1048576) :
    Calls Try.prog 19 #[.slice A l.length cap] w fun e w' => ∃ v, e = .returned v ∧ w'.ownsRow w.heap.size 49 14 v l.length (l.flatMap DT.c) ∧ Below w.heap.size w w' := by
  obtain ⟨i0, hi, iz, isz, iby⟩ := info_parts infoExpr
  have q : ∀ (w : World) (a : Option Addr) (n c n' c' : Nat), (binOp .eql 25 (.slice a n c) (.slice none n' c')).run Try.prog w = .ok (.bool a.isNone) w := fun w a n c n' c' => Lib.run_eql_slice_nil w _ _ a n c n' c' Try.underlying25
  cases A with
  | none =>
    have hl0 : l = [] := by
      cases l with
      | nil => rfl
      | cons y l => obtain ⟨ad, e, _⟩ := hr.2.2 0 y rfl; cases e
    subst hl0
    clear hr hf h1
    go_enter Try.func19, Try.ntmps19
    go_wp2
    go_ret
    exact ⟨_, rfl, World.ownsRow_nil _ _ _ _, Below.refl _ _⟩
  | some ad =>
    have hsrc := hr.src (by decide) hf
    have hlen := flatD_len hf
    have h1' : ∀ u, u ∈ l.flatMap DT.c → u.oneCell' = true := fun u hu => by
      obtain ⟨x, hx, hux⟩ := List.mem_flatMap.1 hu
      exact h1 x hx u hux
    have Hsrc : Hid (∀ o, SrcAt (w.alloc o) (some ad) (l.flatMap DT.c)) := fun o => by
      rcases hsrc with h | ⟨ad', e, h⟩
      · exact .inl h
      · exact .inr ⟨ad', e, fun j u hu => cell_old (h j u hu) o⟩
    have Hlen := Lib.hid hlen
    have H1 := Lib.hid h1'
    have hb : Hid ((0 + l.length) * 184 ≤ 140737488355328) := by show _ ≤ _; omega
    have hm : Hid (0 + l.length ≤ maxLen) := by show _ ≤ _; unfold maxLen; omega
    clear hsrc hlen h1' hr hf h1
    go_enter Try.func19, Try.ntmps19
    go_wp2_with (at_builtin; refine wpList_append_row _ rfl _ _ 25 rfl w.heap.size 49 i0 _ 14 184 Try.underlying25 hi iz isz iby rfl (by decide) (.slice (some ⟨w.heap.size, 0, none⟩) 0 0) 0 [] rfl (World.ownsRow_made w #[] 0 (Nat.le_refl _) (Nat.zero_le _) rfl) (some ad) l.length cap (l.flatMap DT.c) rfl Hlen.out (Hsrc.out _) H1.out hm.out hb.out (by simp) ?_; intro v' w1 hown1 hg1 hm1)
    go_ret
    refine ⟨v', rfl, by simpa using hown1, ?_⟩
    exact ((Below.refl _ w).alloc (Nat.le_refl _) _).grown hg1 (by simp) (fun k hk => by cases hk; exact Nat.le_refl _)
set_option maxRecDepth 100000 in
set_option maxHeartbeats 1000000 in
theorem growK_nil (n : Nat) (w : World) (hn : n * 192 ≤ 140737488355328) :
    Calls Try.prog 46 #[.slice none 0 0, .int .i64 n] w fun e w' => ∃ v, e = .returned v ∧ w'.ownsRow w.heap.size 70 16 v 0 [] ∧ Below w.heap.size w w' := by
  obtain ⟨i0, hi, iz, isz, iby⟩ := info_parts infoKey
  have h1 : ¬ ((n : Int) < 0) := by omega
  by_cases h0 : n = 0
  · subst h0
    go_enter Try.func46, Try.ntmps46
    go_wp2
    go_ret
    exact ⟨_, rfl, World.ownsRow_nil _ _ _ _, Below.refl _ _⟩
  · obtain ⟨cp, C, hcp, hcm, hC, hrz⟩ := grow_zeros (P := Try.prog) w 29 3 70 i0 _ 16 192 Try.underlying29 Try.underlying3 hi iz isz iby rfl (by decide) n (by omega) hn (by omega)
    have hp : (0 : Int) < (n : Int) := by omega
    have HC := Lib.hid hC
    have Hcm := Lib.hid hcm
    have hcp2 : cp ≤ 9223372036854775807 := by unfold maxLen at hcm; exact hcm
    clear hC hcm
    go_enter Try.func46, Try.ntmps46
    go_wp2_with (at_builtin; refine Lib.wpList_append_run _ rfl _ _ _ _ rfl _ _ rfl rfl _ _ (hrz _) ?_)
    all_goals
      go_ret
      refine ⟨_, rfl, ?_, ?_⟩
      · exact World.ownsRow_made w.drew C cp (Nat.le_refl _) Hcm.out HC.out
      · exact (Below.refl _ _).drew.alloc (Nat.le_refl _) _
set_option maxRecDepth 100000 in
set_option maxHeartbeats 1000000 in
theorem growE_nil (n : Nat) (w : World) (hn : n * 184 ≤ 140737488355328) :
    Calls Try.prog 45 #[.slice none 0 0, .int .i64 n] w fun e w' => ∃ v, e = .returned v ∧ w'.ownsRow w.heap.size 49 14 v 0 [] ∧ Below w.heap.size w w' := by
  obtain ⟨i0, hi, iz, isz, iby⟩ := info_parts infoExpr
  have h1 : ¬ ((n : Int) < 0) := by omega
  by_cases h0 : n = 0
  · subst h0
    go_enter Try.func45, Try.ntmps45
    go_wp2
    go_ret
    exact ⟨_, rfl, World.ownsRow_nil _ _ _ _, Below.refl _ _⟩
  · obtain ⟨cp, C, hcp, hcm, hC, hrz⟩ := grow_zeros (P := Try.prog) w 25 3 49 i0 _ 14 184 Try.underlying25 Try.underlying3 hi iz isz iby rfl (by decide) n (by omega) hn (by omega)
    have hp : (0 : Int) < (n : Int) := by omega
    have HC := Lib.hid hC
    have Hcm := Lib.hid hcm
    have hcp2 : cp ≤ 9223372036854775807 := by unfold maxLen at hcm; exact hcm
    clear hC hcm
    go_enter Try.func45, Try.ntmps45
    go_wp2_with (at_builtin; refine Lib.wpList_append_run _ rfl _ _ _ _ rfl _ _ rfl rfl _ _ (hrz _) ?_)
    all_goals
      go_ret
      refine ⟨_, rfl, ?_, ?_⟩
      · exact World.ownsRow_made w.drew C cp (Nat.le_refl _) Hcm.out HC.out
      · exact (Below.refl _ _).drew.alloc (Nat.le_refl _) _
end Go.Proofs.Ytoeamomklmoncaa
