/-
  slices.Concat of two rows at expressions and keys.
-/
import Derived.Test.YtoeamomklmoncaaDtB
namespace Go.Proofs.Ytoeamomklmoncaa
open Go.RowKit
/-- The first j of two. -/
def two {α : Type} (l m : List α) (j : Nat) : List α := if j = 0 then [] else if j = 1 then l else l ++ m
theorem two0 {α : Type} (l m : List α) : two l m 0 = [] := rfl
theorem two1 {α : Type} (l m : List α) : two l m 1 = l := rfl
theorem two2 {α : Type} (l m : List α) : two l m 2 = l ++ m := rfl
def CcRel (l m : List DT) (e sz : Nat) (B0 : Nat) (W0 : World) (sv i : Value) (wr : World) : Prop :=
  ∃ j : Nat, j ≤ 2 ∧ i = .int .i64 j ∧ wr.ownsRow B0 e sz sv (two l m j).length ((two l m j).flatMap DT.c) ∧ Below B0 W0 wr
theorem SrcAt.keep {S : Nat → Prop} {w w' : World} {sz : Nat} {A : Option Addr} {cap : Nat} {l : List DT} (h : DRow S w sz A cap l) (hs : ∀ k, S k → w'.heap[k]? = w.heap[k]?) (hsz : 0 < sz) (hf : ∀ x, x ∈ l → x.c.length = sz) : SrcAt w' A (l.flatMap DT.c) :=
  (h.keep hs (S' := fun _ => True) (fun _ _ => trivial)).src hsz hf
theorem CcRel.step {l m : List DT} {e sz B0 : Nat} {W0 wr w' : World} {sv sv' : Value} {j : Nat} (hB : W0.heap.size = B0) (hj : j < 2) (hb : Below B0 W0 wr) (hown0 : wr.ownsRow B0 e sz sv (two l m j).length ((two l m j).flatMap DT.c)) {k : List DT} (hk : two l m j ++ k = two l m (j + 1))
    (hown : w'.ownsRow B0 e sz sv' ((two l m j).length + k.length) ((two l m j).flatMap DT.c ++ k.flatMap DT.c)) (hg : wr.grownBy w' sv.ownBlock) : CcRel l m e sz B0 W0 sv' (.int .i64 ((j : Int) + 1)) w' := by
  refine ⟨j + 1, by omega, by simp, ?_, hb.grown hg (by rw [← hB]; exact hb.size) (fun q hq => (hown0.lt q hq).1)⟩
  rw [← hk, List.length_append, List.flatMap_append]
  exact hown
set_option maxRecDepth 100000 in
set_option maxHeartbeats 4000000 in
theorem concatE_two (A C : Option Addr) (acap ccap : Nat) (l m : List DT) (b : Nat) (S : Nat → Prop) (w : World) (hr : DRow S w 14 A acap l) (hr2 : DRow S w 14 C ccap m) (hS : ∀ k, S k → k < w.heap.size) (hf : ∀ x, x ∈ l ++ m → x.c.length = 14) (h1 : ∀ x, x ∈ l ++ m → ∀ u, u ∈ x.c → u.oneCell' = true) (hn : l.length + m.length ≤ 1048576)
    (c0 : w.cell? ⟨b, 0, none⟩ = some (.slice A l.length acap)) (c1 : w.cell? ⟨b, 1, none⟩ = some (.slice C m.length ccap)) :
    Calls Try.prog 37 #[.slice (some ⟨b, 0, none⟩) 2 2] w fun e w' => ∃ v, e = .returned v ∧ w'.ownsRow w.heap.size 49 14 v (l ++ m).length ((l ++ m).flatMap DT.c) ∧ Below w.heap.size w w' := by
  obtain ⟨i0, hi, iz, isz, iby⟩ := info_parts infoExpr
  have hbw : b < w.heap.size := cell_lt c0
  obtain ⟨ll, hll⟩ : ∃ n, l.length = n := ⟨_, rfl⟩
  obtain ⟨ml, hml⟩ : ∃ n, m.length = n := ⟨_, rfl⟩
  rw [hll] at c0
  rw [hml] at c1
  have hlm : ll + ml ≤ 1048576 := by rw [← hll, ← hml]; exact hn
  have Hl := Lib.hid (flatD_len (l := l) (c := 14) (fun x hx => hf x (by simp [hx])))
  have Hm := Lib.hid (flatD_len (l := m) (c := 14) (fun x hx => hf x (by simp [hx])))
  have H1l : Hid (∀ u, u ∈ l.flatMap DT.c → u.oneCell' = true) := fun u hu => by
    obtain ⟨x, hx, hux⟩ := List.mem_flatMap.1 hu
    exact h1 x (by simp [hx]) u hux
  have H1m : Hid (∀ u, u ∈ m.flatMap DT.c → u.oneCell' = true) := fun u hu => by
    obtain ⟨x, hx, hux⟩ := List.mem_flatMap.1 hu
    exact h1 x (by simp [hx]) u hux
  have Hsl : Hid (∀ W, Below w.heap.size w W → SrcAt W A (l.flatMap DT.c)) := fun W h => SrcAt.keep hr (fun k hk => h.block k (hS k hk)) (by decide) (fun x hx => hf x (by simp [hx]))
  have Hsm : Hid (∀ W, Below w.heap.size w W → SrcAt W C (m.flatMap DT.c)) := fun W h => SrcAt.keep hr2 (fun k hk => h.block k (hS k hk)) (by decide) (fun x hx => hf x (by simp [hx]))
  have Hll := Lib.hid hll
  have Hml := Lib.hid hml
  have hgr0 := growE_nil (ll + ml) w (by omega)
  rw [Int.natCast_add] at hgr0
  have hgr := Lib.hid hgr0
  clear hgr0
  clear hr hr2 hS hf h1 hn hll hml
  go_enter Try.func37, Try.ntmps37
  go_wp2
  go_loop [3, 11] (fun s i => (s = .int .i64 0 ∧ i = .int .i64 0) ∨ (s = .int .i64 (ll : Int) ∧ i = .int .i64 1) ∨ (s = .int .i64 ((ll : Int) + (ml : Int)) ∧ i = .int .i64 2)) (fun _ i => 2 - (intOf i).toNat)
  case atStart => exact .inl ⟨rfl, rfl⟩
  case round =>
    rcases hrel with ⟨rfl, rfl⟩ | ⟨rfl, rfl⟩ | ⟨rfl, rfl⟩
    · go_wp2
      go_round
      case rel => exact .inr (.inl ⟨by simp, rfl⟩)
      case measure => simp [intOf]
    · go_wp2
      go_round
      case rel => exact .inr (.inr ⟨rfl, rfl⟩)
      case measure => simp [intOf]
    · go_wp2_with fail
      refine hgr.out.mono ?_
      rintro e w1 ⟨v, rfl, hown1, hb1⟩
      have hv0 : CcRel l m 49 14 w.heap.size w v (.int .i64 0) w1 := ⟨0, by omega, rfl, hown1, hb1⟩
      have Hv0 := Lib.hid hv0
      clear hv0 hown1
      go_wp2
      go_loopw [6, 27] (fun sv i wr => CcRel l m 49 14 w.heap.size w sv i wr) (fun _ i _ => 2 - (intOf i).toNat)
      case atStart => exact Hv0.out
      case round =>
        obtain ⟨j, hj, rfl, hown, hb⟩ := hrel
        have d0 := (hb.cell (p := ⟨b, 0, none⟩) hbw).trans c0
        have d1 := (hb.cell (p := ⟨b, 1, none⟩) hbw).trans c1
        have hzr := hb.size
        have Hown := Lib.hid hown
        obtain rfl | rfl | rfl : j = 0 ∨ j = 1 ∨ j = 2 := by omega
        · have hm0 : Hid ((two l m 0).length + ll ≤ maxLen) := by show _ ≤ _; rw [two0]; unfold maxLen; simp; omega
          have hb0 : Hid (((two l m 0).length + ll) * 184 ≤ 140737488355328) := by show _ ≤ _; rw [two0]; simp; omega
          have hl0 : Hid ((l.flatMap DT.c).length = ll * 14) := by show _ = _; rw [Hl.out, Hll.out]
          clear hown
          go_wp2_with (at_builtin; refine wpList_append_row _ rfl _ _ 25 rfl w.heap.size 49 i0 _ 14 184 Try.underlying25 hi iz isz iby rfl (by decide) u6 _ _ rfl Hown.out A ll acap (l.flatMap DT.c) rfl hl0.out (Hsl.out _ hb) H1l.out hm0.out hb0.out hzr ?_; intro v' w2 hown2 hg2 hm2)
          have hst := CcRel.step (j := 0) (k := l) rfl (by omega) hb Hown.out rfl (by rw [Hll.out]; exact hown2) hg2
          have Hst := Lib.hid hst
          clear hst hown2
          go_roundw
          case rel => exact Hst.out
          case measure => simp [intOf]
        · have hm0 : Hid ((two l m 1).length + ml ≤ maxLen) := by show _ ≤ _; rw [two1, Hll.out]; unfold maxLen; omega
          have hb0 : Hid (((two l m 1).length + ml) * 184 ≤ 140737488355328) := by show _ ≤ _; rw [two1, Hll.out]; omega
          have hl0 : Hid ((m.flatMap DT.c).length = ml * 14) := by show _ = _; rw [Hm.out, Hml.out]
          clear hown
          go_wp2_with (at_builtin; refine wpList_append_row _ rfl _ _ 25 rfl w.heap.size 49 i0 _ 14 184 Try.underlying25 hi iz isz iby rfl (by decide) u6 _ _ rfl Hown.out C ml ccap (m.flatMap DT.c) rfl hl0.out (Hsm.out _ hb) H1m.out hm0.out hb0.out hzr ?_; intro v' w2 hown2 hg2 hm2)
          have hst := CcRel.step (j := 1) (k := m) rfl (by omega) hb Hown.out rfl (by rw [Hml.out]; exact hown2) hg2
          have Hst := Lib.hid hst
          clear hst hown2
          go_roundw
          case rel => exact Hst.out
          case measure => simp [intOf]
        · clear hown
          go_wp2
          go_ret
          exact ⟨_, rfl, Hown.out, hb⟩
set_option maxRecDepth 100000 in
set_option maxHeartbeats 4000000 in
theorem concatK_two (A C : Option Addr) (acap ccap : Nat) (l m : List DT) (b : Nat) (S : Nat → Prop) (w : World) (hr : DRow S w 16 A acap l) (hr2 : DRow S w 16 C ccap m) (hS : ∀ k, S k → k < w.heap.size) (hf : ∀ x, x ∈ l ++ m → x.c.length = 16) (h1 : ∀ x, x ∈ l ++ m → ∀ u, u ∈ x.c → u.oneCell' = true) (hn : l.length + m.length ≤ 1048576)
    (c0 : w.cell? ⟨b, 0, none⟩ = some (.slice A l.length acap)) (c1 : w.cell? ⟨b, 1, none⟩ = some (.slice C m.length ccap)) :
    Calls Try.prog 38 #[.slice (some ⟨b, 0, none⟩) 2 2] w fun e w' => ∃ v, e = .returned v ∧ w'.ownsRow w.heap.size 70 16 v (l ++ m).length ((l ++ m).flatMap DT.c) ∧ Below w.heap.size w w' := by
  obtain ⟨i0, hi, iz, isz, iby⟩ := info_parts infoKey
  have hbw : b < w.heap.size := cell_lt c0
  obtain ⟨ll, hll⟩ : ∃ n, l.length = n := ⟨_, rfl⟩
  obtain ⟨ml, hml⟩ : ∃ n, m.length = n := ⟨_, rfl⟩
  rw [hll] at c0
  rw [hml] at c1
  have hlm : ll + ml ≤ 1048576 := by rw [← hll, ← hml]; exact hn
  have Hl := Lib.hid (flatD_len (l := l) (c := 16) (fun x hx => hf x (by simp [hx])))
  have Hm := Lib.hid (flatD_len (l := m) (c := 16) (fun x hx => hf x (by simp [hx])))
  have H1l : Hid (∀ u, u ∈ l.flatMap DT.c → u.oneCell' = true) := fun u hu => by
    obtain ⟨x, hx, hux⟩ := List.mem_flatMap.1 hu
    exact h1 x (by simp [hx]) u hux
  have H1m : Hid (∀ u, u ∈ m.flatMap DT.c → u.oneCell' = true) := fun u hu => by
    obtain ⟨x, hx, hux⟩ := List.mem_flatMap.1 hu
    exact h1 x (by simp [hx]) u hux
  have Hsl : Hid (∀ W, Below w.heap.size w W → SrcAt W A (l.flatMap DT.c)) := fun W h => SrcAt.keep hr (fun k hk => h.block k (hS k hk)) (by decide) (fun x hx => hf x (by simp [hx]))
  have Hsm : Hid (∀ W, Below w.heap.size w W → SrcAt W C (m.flatMap DT.c)) := fun W h => SrcAt.keep hr2 (fun k hk => h.block k (hS k hk)) (by decide) (fun x hx => hf x (by simp [hx]))
  have Hll := Lib.hid hll
  have Hml := Lib.hid hml
  have hgr0 := growK_nil (ll + ml) w (by omega)
  rw [Int.natCast_add] at hgr0
  have hgr := Lib.hid hgr0
  clear hgr0
  clear hr hr2 hS hf h1 hn hll hml
  go_enter Try.func38, Try.ntmps38
  go_wp2
  go_loop [3, 11] (fun s i => (s = .int .i64 0 ∧ i = .int .i64 0) ∨ (s = .int .i64 (ll : Int) ∧ i = .int .i64 1) ∨ (s = .int .i64 ((ll : Int) + (ml : Int)) ∧ i = .int .i64 2)) (fun _ i => 2 - (intOf i).toNat)
  case atStart => exact .inl ⟨rfl, rfl⟩
  case round =>
    rcases hrel with ⟨rfl, rfl⟩ | ⟨rfl, rfl⟩ | ⟨rfl, rfl⟩
    · go_wp2
      go_round
      case rel => exact .inr (.inl ⟨by simp, rfl⟩)
      case measure => simp [intOf]
    · go_wp2
      go_round
      case rel => exact .inr (.inr ⟨rfl, rfl⟩)
      case measure => simp [intOf]
    · go_wp2_with fail
      refine hgr.out.mono ?_
      rintro e w1 ⟨v, rfl, hown1, hb1⟩
      have hv0 : CcRel l m 70 16 w.heap.size w v (.int .i64 0) w1 := ⟨0, by omega, rfl, hown1, hb1⟩
      have Hv0 := Lib.hid hv0
      clear hv0 hown1
      go_wp2
      go_loopw [6, 27] (fun sv i wr => CcRel l m 70 16 w.heap.size w sv i wr) (fun _ i _ => 2 - (intOf i).toNat)
      case atStart => exact Hv0.out
      case round =>
        obtain ⟨j, hj, rfl, hown, hb⟩ := hrel
        have d0 := (hb.cell (p := ⟨b, 0, none⟩) hbw).trans c0
        have d1 := (hb.cell (p := ⟨b, 1, none⟩) hbw).trans c1
        have hzr := hb.size
        have Hown := Lib.hid hown
        obtain rfl | rfl | rfl : j = 0 ∨ j = 1 ∨ j = 2 := by omega
        · have hm0 : Hid ((two l m 0).length + ll ≤ maxLen) := by show _ ≤ _; rw [two0]; unfold maxLen; simp; omega
          have hb0 : Hid (((two l m 0).length + ll) * 192 ≤ 140737488355328) := by show _ ≤ _; rw [two0]; simp; omega
          have hl0 : Hid ((l.flatMap DT.c).length = ll * 16) := by show _ = _; rw [Hl.out, Hll.out]
          clear hown
          go_wp2_with (at_builtin; refine wpList_append_row _ rfl _ _ 29 rfl w.heap.size 70 i0 _ 16 192 Try.underlying29 hi iz isz iby rfl (by decide) u6 _ _ rfl Hown.out A ll acap (l.flatMap DT.c) rfl hl0.out (Hsl.out _ hb) H1l.out hm0.out hb0.out hzr ?_; intro v' w2 hown2 hg2 hm2)
          have hst := CcRel.step (j := 0) (k := l) rfl (by omega) hb Hown.out rfl (by rw [Hll.out]; exact hown2) hg2
          have Hst := Lib.hid hst
          clear hst hown2
          go_roundw
          case rel => exact Hst.out
          case measure => simp [intOf]
        · have hm0 : Hid ((two l m 1).length + ml ≤ maxLen) := by show _ ≤ _; rw [two1, Hll.out]; unfold maxLen; omega
          have hb0 : Hid (((two l m 1).length + ml) * 192 ≤ 140737488355328) := by show _ ≤ _; rw [two1, Hll.out]; omega
          have hl0 : Hid ((m.flatMap DT.c).length = ml * 16) := by show _ = _; rw [Hm.out, Hml.out]
          clear hown
          go_wp2_with (at_builtin; refine wpList_append_row _ rfl _ _ 29 rfl w.heap.size 70 i0 _ 16 192 Try.underlying29 hi iz isz iby rfl (by decide) u6 _ _ rfl Hown.out C ml ccap (m.flatMap DT.c) rfl hl0.out (Hsm.out _ hb) H1m.out hm0.out hb0.out hzr ?_; intro v' w2 hown2 hg2 hm2)
          have hst := CcRel.step (j := 1) (k := m) rfl (by omega) hb Hown.out rfl (by rw [Hml.out]; exact hown2) hg2
          have Hst := Lib.hid hst
          clear hst hown2
          go_roundw
          case rel => exact Hst.out
          case measure => simp [intOf]
        · clear hown
          go_wp2
          go_ret
          exact ⟨_, rfl, Hown.out, hb⟩
end Go.Proofs.Ytoeamomklmoncaa
