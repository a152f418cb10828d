/-
  The numbers from 0 on; the expressions of a relation.
-/
import Derived.Test.YtlphgceejghfkaaDtF
namespace Go.Proofs.Ytlphgceejghfkaa
open Go.RowKit
theorem infoInt : (Try.prog.info? 3).map (fun i => (i.zero, i.size, i.bytes)) = some (some (.int .i64 0), 1, 8) := by kernel_rfl
/-- The numbers below n. -/
def nums (n : Nat) : List Value := (List.range n).map fun (i : Nat) => Value.int .i64 (i : Int)
theorem nums_succ (n : Nat) : nums (n + 1) = nums n ++ [.int .i64 (n : Int)] := by simp [nums, List.range_succ]
/-- What the loop has at its head. -/
def NuRel (n : Nat) (w : World) (sv i : Value) (wr : World) : Prop := ∃ j : Nat, j ≤ n ∧ i = .int .i64 j ∧ wr.ownsRow w.heap.size 3 1 sv j (nums j) ∧ Below w.heap.size w wr
def NuPost (n : Nat) (w : World) (e : Ending) (w' : World) : Prop := ∃ v, e = .returned v ∧ w'.ownsRow w.heap.size 3 1 v n (nums n) ∧ Below w.heap.size w w'
set_option maxRecDepth 100000 in
set_option maxHeartbeats 1000000 in
theorem pnumbers_any (n : Nat) (w : World) (hn : n ≤ 1048576) : Calls Try.prog 19 #[.int .i64 n] w (NuPost n w) := by
  obtain ⟨i0, hi, iz, isz, iby⟩ := info_parts infoInt
  go_enter Try.func19, Try.ntmps19
  go_wp2
  go_loopw [3, 6] (fun sv i wr => NuRel n w sv i wr) (fun _ i _ => n - (intOf i).toNat)
  case atStart => exact ⟨0, Nat.zero_le _, rfl, World.ownsRow_nil _ _ _ _, Below.refl _ _⟩
  case round =>
    obtain ⟨j, hj, rfl, hown, hb⟩ := hrel
    have hzr := hb.size
    by_cases hlt : j < n
    · have h3 : Hid (j + 1 ≤ maxLen) := by show _ ≤ _; unfold maxLen; omega
      have h4 : Hid ((j + 1) * 8 ≤ 140737488355328) := by show _ ≤ _; omega
      have h5 : Hid (∀ o, w.heap.size ≤ (wr.alloc o).heap.size) := fun o => by simp; omega
      have Hown := Lib.hid hown
      clear hown
      go_wp2_with (at_builtin; refine wpList_append_row _ rfl _ _ 37 rfl w.heap.size 3 i0 _ 1 8 Try.underlying37 hi iz isz iby rfl (by decide) u3 _ _ rfl (Hown.out.alloc _) (some ⟨wr.heap.size, 0, none⟩) 1 1 [.int .i64 (j : Int)] rfl rfl (new_src _ _ _) (by simp [Value.oneCell']) h3.out h4.out (h5.out _) ?_; intro sv6 w6 hown6 hg6 hm6)
      have hst : NuRel n w sv6 (.int .i64 ((j : Int) + 1)) w6 := ⟨j + 1, by omega, by simp, by rw [nums_succ]; exact hown6, (hb.trans ((bel1 _ _).mono hzr)).grown hg6 (h5.out _) (fun q hq => (Hown.out.lt q hq).1)⟩
      have Hst := Lib.hid hst
      clear hst hown6
      go_roundw
      case rel => exact Hst.out
      case measure => simp [intOf]; omega
    · obtain rfl : j = n := by omega
      have Hown := Lib.hid hown
      clear hown
      go_wp2
      go_ret
      exact ⟨_, rfl, Hown.out, hb⟩
set_option maxRecDepth 100000 in
set_option maxHeartbeats 1000000 in
theorem rall_any (n : Nat) (w : World) (hn : n ≤ 1048576) : Calls Try.prog 28 #[.int .i64 n] w (NuPost n w) := by
  obtain ⟨i0, hi, iz, isz, iby⟩ := info_parts infoInt
  go_enter Try.func28, Try.ntmps28
  go_wp2
  go_loopw [3, 6] (fun sv i wr => NuRel n w sv i wr) (fun _ i _ => n - (intOf i).toNat)
  case atStart => exact ⟨0, Nat.zero_le _, rfl, World.ownsRow_nil _ _ _ _, Below.refl _ _⟩
  case round =>
    obtain ⟨j, hj, rfl, hown, hb⟩ := hrel
    have hzr := hb.size
    by_cases hlt : j < n
    · have h3 : Hid (j + 1 ≤ maxLen) := by show _ ≤ _; unfold maxLen; omega
      have h4 : Hid ((j + 1) * 8 ≤ 140737488355328) := by show _ ≤ _; omega
      have h5 : Hid (∀ o, w.heap.size ≤ (wr.alloc o).heap.size) := fun o => by simp; omega
      have Hown := Lib.hid hown
      clear hown
      go_wp2_with (at_builtin; refine wpList_append_row _ rfl _ _ 37 rfl w.heap.size 3 i0 _ 1 8 Try.underlying37 hi iz isz iby rfl (by decide) u3 _ _ rfl (Hown.out.alloc _) (some ⟨wr.heap.size, 0, none⟩) 1 1 [.int .i64 (j : Int)] rfl rfl (new_src _ _ _) (by simp [Value.oneCell']) h3.out h4.out (h5.out _) ?_; intro sv6 w6 hown6 hg6 hm6)
      have hst : NuRel n w sv6 (.int .i64 ((j : Int) + 1)) w6 := ⟨j + 1, by omega, by simp, by rw [nums_succ]; exact hown6, (hb.trans ((bel1 _ _).mono hzr)).grown hg6 (h5.out _) (fun q hq => (Hown.out.lt q hq).1)⟩
      have Hst := Lib.hid hst
      clear hst hown6
      go_roundw
      case rel => exact Hst.out
      case measure => simp [intOf]; omega
    · obtain rfl : j = n := by omega
      have Hown := Lib.hid hown
      clear hown
      go_wp2
      go_ret
      exact ⟨_, rfl, Hown.out, hb⟩
set_option maxRecDepth 100000 in
set_option maxHeartbeats 1000000 in
theorem mExprs_any (d : DT) (S : Nat → Prop) (w : World) (hd : DT.In S w .rel d) (hS : ∀ k, S k → k < w.heap.size) (hn : d.n ≤ 1048576) :
    Calls Try.prog 40 #[.agg d.c.toArray] w (ExPost (relE d) w) := by
  obtain ⟨a, IA, icap, is, EA, ecap, es, GA, gcap, gs, WA, wcap, ws, KA, kcap, ks, h⟩ := hd.rel
  have hc : d.c = [.int .i64 a.k, .int .i64 a.op, .string a.nm, .bool a.all, .slice a.TA a.tl a.tc, .slice a.RA a.rl a.rc, .slice IA is.length icap, .slice EA es.length ecap, .slice a.SA a.sl a.sc, .slice GA gs.length gcap, .slice WA ws.length wcap, .slice KA ks.length kcap, .int .i64 a.off, .int .i64 a.cnt] := by rw [h.e]; rfl
  obtain ⟨W0, hW0⟩ : ∃ W0, w.alloc (.cells #[.int .i64 a.k, .int .i64 a.op, .string a.nm, .bool a.all, .slice a.TA a.tl a.tc, .slice a.RA a.rl a.rc, .slice IA is.length icap, .slice EA es.length ecap, .slice a.SA a.sl a.sc, .slice GA gs.length gcap, .slice WA ws.length wcap, .slice KA ks.length kcap, .int .i64 a.off, .int .i64 a.cnt] 34) = W0 := ⟨_, rfl⟩
  have hbw : Below w.heap.size w W0 := by rw [← hW0]; exact bel1 _ _
  have hex := mexprsOf_any d S W0 (hd.keep (fun k hk => hbw.block k (hS k hk)) (fun _ h => h)) (fun k hk => Nat.lt_of_lt_of_le (hS k hk) hbw.size) hn
  rw [hc] at hex ⊢
  have Hex := Lib.hid hex
  have HW0 := Lib.hid hW0
  clear hex hW0 hc h hd hS hn
  show Calls _ _ #[.agg #[.int .i64 a.k, .int .i64 a.op, .string a.nm, .bool a.all, .slice a.TA a.tl a.tc, .slice a.RA a.rl a.rc, .slice IA is.length icap, .slice EA es.length ecap, .slice a.SA a.sl a.sc, .slice GA gs.length gcap, .slice WA ws.length wcap, .slice KA ks.length kcap, .int .i64 a.off, .int .i64 a.cnt]] _ _
  go_enter Try.func40, Try.ntmps40
  go_wp2_with fail
  rw [HW0.out]
  refine Hex.out.mono ?_
  rintro e w1 ⟨v, rfl, hown, hb⟩
  go_wp2
  go_ret
  exact ⟨v, rfl, own_base hown hbw.size, hbw.trans (hb.mono hbw.size)⟩
end Go.Proofs.Ytlphgceejghfkaa
