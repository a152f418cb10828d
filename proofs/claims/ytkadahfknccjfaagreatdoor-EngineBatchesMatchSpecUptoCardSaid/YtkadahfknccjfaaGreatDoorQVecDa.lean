/-
  Vectors in memory; small functions of package engine and of its reference.
  Vectors: a value of a vector, of package engine and of its reference.
  Vectors: a value of a vector, of package engine.
  Vectors: their form, in plain words.
-/
import Derived.Test.YtkadahfknccjfaaGreatDoorQCmpB
namespace Go.Proofs.YtkadahfknccjfaaGreatDoor
open Go.RowKit
structure VecT where
  t : FT
  NA : Option Addr
  ncap : Nat
  ns : List Int
  IA : Option Addr
  icap : Nat
  is : List Int
  SA : Option Addr
  scap : Nat
  ss : List ByteArray
  VA : Option Addr
  vcap : Nat
  vs : List VT
structure VecT.In (B : Nat) (w : World) (v : VecT) : Prop where
  t : FT.In B w v.t
  ns : CRow (.int .u64) B w v.NA v.ncap v.ns
  nb : ∀ x, x ∈ v.ns → 0 ≤ x ∧ x ≤ 18446744073709551615
  is : CRow (.int .i64) B w v.IA v.icap v.is
  ib : ∀ x, x ∈ v.is → I64 x
  ss : CRow .string B w v.SA v.scap v.ss
  sb : ∀ x, x ∈ v.ss → x.size ≤ maxLen
  vs : VT.Rows B w v.VA v.vcap v.vs
theorem VecT.In.keep {B : Nat} {w w' : World} {v : VecT} (h : VecT.In B w v) (hs : Same B w w') : VecT.In B w' v := ⟨h.t.keep hs, h.ns.keep hs, h.nb, h.is.keep hs, h.ib, h.ss.keep hs, h.sb, h.vs.keep hs⟩
/-- Which list of a vector has the values of a type. -/
def kindS (k : Int) : Int := if k = 4 then 4 else if k = 6 ∨ k = 7 then 6 else 2
set_option maxRecDepth 100000 in
theorem ekind_any (k sc : Int) (A : Option Addr) (len cap : Nat) (w : World) : Calls Tryz.prog 56 #[.agg #[.int .i64 k, .int .i64 sc, .slice A len cap]] w fun e w' => e = .returned (.int .i64 (kindS k)) ∧ Below w.heap.size w w' := by
  by_cases h4 : k = 4
  · subst h4
    go_enter Tryz.func56, Tryz.ntmps56
    go_wp2
    go_ret
    exact ⟨rfl, bel1 _ _⟩
  by_cases h6 : k = 6
  · subst h6
    go_enter Tryz.func56, Tryz.ntmps56
    go_wp2
    go_ret
    exact ⟨rfl, bel1 _ _⟩
  by_cases h7 : k = 7
  · subst h7
    go_enter Tryz.func56, Tryz.ntmps56
    go_wp2
    go_ret
    exact ⟨rfl, bel1 _ _⟩
  have hf := Lib.hid (show kindS k = 2 by unfold kindS; rw [if_neg h4, if_neg (by omega)])
  have e4 : (k == 4) = false := by simpa using h4
  have e6 : (k == 6) = false := by simpa using h6
  have e7 : (k == 7) = false := by simpa using h7
  clear h4 h6 h7
  go_enter Tryz.func56, Tryz.ntmps56
  go_wp2
  go_ret
  exact ⟨by rw [hf.out]; rfl, bel1 _ _⟩
/-- Is a value zero? -/
def zeroB (k n sc : Int) (s : ByteArray) (len : Nat) : Bool := (k == 0) && ((n == 0) && ((sc == 0) && (s.toList.isEmpty && (len == 0))))
set_option maxRecDepth 100000 in
set_option maxHeartbeats 1000000 in
theorem ezero_any (k n sc : Int) (s : ByteArray) (A : Option Addr) (len cap : Nat) (w : World) (hl : len ≤ 9223372036854775807) : Calls Tryz.prog 87 #[.agg #[.int .i64 k, .int .i64 n, .int .i64 sc, .string s, .slice A len cap]] w fun e w' => e = .returned (.bool (zeroB k n sc s len)) ∧ Below w.heap.size w w' := by
  by_cases h0 : k = 0
  · subst h0
    by_cases h1 : n = 0
    · subst h1
      by_cases h2 : sc = 0
      · subst h2
        by_cases h3 : s.size = 0
        · have he : s.toList = [] := toList_empty h3
          by_cases h4 : len = 0
          · subst h4
            have hf := Lib.hid (show zeroB 0 0 0 s 0 = true by simp [zeroB, he])
            go_enter Tryz.func87, Tryz.ntmps87
            go_wp2
            go_ret
            exact ⟨by rw [hf.out]; rfl, bel1 _ _⟩
          · have e4 : ((len : Int) == 0) = false := by simp; omega
            have hf := Lib.hid (show zeroB 0 0 0 s len = false by simp [zeroB, he, h4])
            go_enter Tryz.func87, Tryz.ntmps87
            go_wp2
            go_ret
            exact ⟨by rw [hf.out]; rfl, bel1 _ _⟩
        · have he : s.toList.isEmpty = false := toList_isEmpty h3
          have hf := Lib.hid (show zeroB 0 0 0 s len = false by simp [zeroB]; simp at he; exact fun h => absurd h he)
          go_enter Tryz.func87, Tryz.ntmps87
          go_wp2
          go_ret
          exact ⟨by rw [hf.out]; rfl, bel1 _ _⟩
      · have e2 : (sc == 0) = false := by simpa using h2
        have hf := Lib.hid (show zeroB 0 0 sc s len = false by simp [zeroB, h2])
        clear h2
        go_enter Tryz.func87, Tryz.ntmps87
        go_wp2
        go_ret
        exact ⟨by rw [hf.out]; rfl, bel1 _ _⟩
    · have e1 : (n == 0) = false := by simpa using h1
      have hf := Lib.hid (show zeroB 0 n sc s len = false by simp [zeroB, h1])
      clear h1
      go_enter Tryz.func87, Tryz.ntmps87
      go_wp2
      go_ret
      exact ⟨by rw [hf.out]; rfl, bel1 _ _⟩
  · have e0 : (k == 0) = false := by simpa using h0
    have hf := Lib.hid (show zeroB k n sc s len = false by simp [zeroB, h0])
    clear h0
    go_enter Tryz.func87, Tryz.ntmps87
    go_wp2
    go_ret
    exact ⟨by rw [hf.out]; rfl, bel1 _ _⟩
set_option maxRecDepth 100000 in
theorem rnull_any (k n sc : Int) (s : ByteArray) (A : Option Addr) (len cap : Nat) (w : World) : Calls Tryz.prog 62 #[.agg #[.int .i64 k, .int .i64 n, .int .i64 sc, .string s, .slice A len cap]] w fun e w' => e = .returned (.bool (k == 0)) ∧ Below w.heap.size w w' := by
  go_enter Tryz.func62, Tryz.ntmps62
  go_wp2
  go_ret
  exact ⟨rfl, bel1 _ _⟩
end Go.Proofs.YtkadahfknccjfaaGreatDoor
namespace Go.Proofs.YtkadahfknccjfaaGreatDoor
open Go.RowKit
/-- Is value i of a vector null? -/
def nullB (ns : List Int) (i : Nat) : Bool := bits BinOp.and IntKind.u64 (ns.getD (i / 64) 0 / 2 ^ (i % 64)) 1 == 1
def zeroV : VT := .node ⟨0, 0, 0, ⟨#[]⟩, none, 0⟩ []
/-- Value i of a vector. -/
def atK (nul : Bool) (k sc : Int) (s : ByteArray) (x : VT) (n : Int) : VT :=
  if nul = true then zeroV else if k = 4 then .node ⟨4, 0, 0, s, none, 0⟩ [] else if k = 6 ∨ k = 7 then x else .node ⟨k, n, sc, ⟨#[]⟩, none, 0⟩ []
def atV (v : VecT) (i : Nat) : VT := atK (nullB v.ns i) v.t.a.k v.t.a.sc (v.ss.getD i ⟨#[]⟩) (v.vs.getD i zeroV) (v.is.getD i 0)
/-- Is there a value i? -/
def VecT.Has (v : VecT) (i : Nat) : Prop := i < 1024 ∧ i / 64 < v.ns.length ∧ (kindS v.t.a.k = 4 → i < v.ss.length) ∧ (kindS v.t.a.k = 6 → i < v.vs.length) ∧ (kindS v.t.a.k = 2 → i < v.is.length)
theorem getD_of {α : Type} {l : List α} {i : Nat} {x d : α} (h : l[i]? = some x) : l.getD i d = x := by rw [List.getD_eq_getElem?_getD, h]; rfl
def vecAgg (v : VecT) : Value := .agg #[.int .i64 v.t.a.k, .int .i64 v.t.a.sc, .slice v.t.a.A v.t.l.length v.t.a.cap, .slice v.NA v.ns.length v.ncap, .slice v.IA v.is.length v.icap, .slice v.SA v.ss.length v.scap, .slice v.VA v.vs.length v.vcap]
def atA (x : VT) : Value := .agg #[.int .i64 x.a.k, .int .i64 x.a.n, .int .i64 x.a.sc, .string x.a.s, .slice x.a.A x.l.length x.a.cap]
end Go.Proofs.YtkadahfknccjfaaGreatDoor
namespace Go.Proofs.YtkadahfknccjfaaGreatDoor
open Go.RowKit
set_option maxRecDepth 100000 in
set_option maxHeartbeats 2000000 in
theorem eat_any (v : VecT) (i B : Nat) (w : World) (hv : VecT.In B w v) (hB : B ≤ w.heap.size) (hi : v.Has i) :
    Calls Tryz.prog 67 #[.agg #[.int .i64 v.t.a.k, .int .i64 v.t.a.sc, .slice v.t.a.A v.t.l.length v.t.a.cap, .slice v.NA v.ns.length v.ncap, .slice v.IA v.is.length v.icap, .slice v.SA v.ss.length v.scap, .slice v.VA v.vs.length v.vcap], .int .i64 (i : Int)] w fun e w' => e = .returned (.agg #[.int .i64 (atV v i).a.k, .int .i64 (atV v i).a.n, .int .i64 (atV v i).a.sc, .string (atV v i).a.s, .slice (atV v i).a.A (atV v i).l.length (atV v i).a.cap]) ∧ Below w.heap.size w w' := by
  obtain ⟨t, NA, ncap, ns, IA, icap, is, SA, scap, ss, VA, vcap, vs⟩ := v
  obtain ⟨⟨id, nm, nd, k, sc, A, cap⟩, fl⟩ := t
  obtain ⟨hi0, hi1, hi4, hi6, hi2⟩ := hi
  obtain ⟨ht, hns, hnb, his, hib, hss, hsb, hvs⟩ := hv
  simp only [FT.a_node, FT.l_node] at hi0 hi1 hi4 hi6 hi2 hns hnb his hib hss hsb hvs ⊢
  have hnl : ns.length ≤ 9223372036854775807 := Nat.le_trans hns.1 hns.2.1
  have hil : is.length ≤ 9223372036854775807 := Nat.le_trans his.1 his.2.1
  have hsl : ss.length ≤ 9223372036854775807 := Nat.le_trans hss.1 hss.2.1
  have hvl : vs.length ≤ 9223372036854775807 := Nat.le_trans hvs.1.1 hvs.1.2.1
  obtain ⟨nx, nad, hnx, rfl, hnbk, hnc⟩ := hns.get hi1
  obtain ⟨X, hX⟩ : ∃ X, atV ⟨.node ⟨id, nm, nd, k, sc, A, cap⟩ fl, some nad, ncap, ns, IA, icap, is, SA, scap, ss, VA, vcap, vs⟩ i = X := ⟨_, rfl⟩
  rw [hX]
  have hnu : nullB ns i = (bits BinOp.and IntKind.u64 (nx / 2 ^ (i % 64)) 1 == 1) := by unfold nullB; rw [getD_of hnx]
  replace hX : atK (nullB ns i) k sc (ss.getD i ⟨#[]⟩) (vs.getD i zeroV) (is.getD i 0) = X := hX
  rw [hnu] at hX
  unfold atK at hX
  clear hnu
  obtain ⟨hn0, hn1⟩ := hnb nx (mem_of_get? hnx)
  have hnc2 := fun o o2 => cell_old (cell_old hnc o) o2
  clear hnc hnb hib hsb hnx
  cases hnull : (bits BinOp.and IntKind.u64 (nx / 2 ^ (i % 64)) 1 == 1)
  · rw [hnull, if_neg (by simp)] at hX
    obtain ⟨W0, hW0⟩ : ∃ W0, (w.alloc (.cells #[.int .i64 k, .int .i64 sc, .slice A fl.length cap, .slice (some nad) ns.length ncap, .slice IA is.length icap, .slice SA ss.length scap, .slice VA vs.length vcap] 54)).alloc (.cells #[.int .i64 0, .int .i64 0, .int .i64 0, .string ⟨#[]⟩, .slice none 0 0] 61) = W0 := ⟨_, rfl⟩
    have hbw : Below w.heap.size w W0 := by rw [← hW0]; exact bel2 _ _ _
    have hz0 : W0.heap.size = w.heap.size + 2 := by rw [← hW0]; simp
    have P0 : W0.heap[w.heap.size]? = some (.cells #[.int .i64 k, .int .i64 sc, .slice A fl.length cap, .slice (some nad) ns.length ncap, .slice IA is.length icap, .slice SA ss.length scap, .slice VA vs.length vcap] 54 (0, 0)) := by rw [← hW0, Below.heap_alloc _ _ _ (by simp)]; exact heap_alloc_new w _
    have P1 : W0.heap[w.heap.size + 1]? = some (.cells #[.int .i64 0, .int .i64 0, .int .i64 0, .string ⟨#[]⟩, .slice none 0 0] 61 (0, 0)) := by
      rw [← hW0]
      have := heap_alloc_new (w.alloc (.cells #[.int .i64 k, .int .i64 sc, .slice A fl.length cap, .slice (some nad) ns.length ncap, .slice IA is.length icap, .slice SA ss.length scap, .slice VA vs.length vcap] 54)) (.cells #[.int .i64 0, .int .i64 0, .int .i64 0, .string ⟨#[]⟩, .slice none 0 0] 61)
      simpa using this
    have hk : Hid (∀ W, Below W0.heap.size W0 W → W.cell? ⟨w.heap.size, 0, none⟩ = some (.int .i64 k) ∧ W.cell? ⟨w.heap.size, 1, none⟩ = some (.int .i64 sc) ∧ W.cell? ⟨w.heap.size, 2, none⟩ = some (.slice A fl.length cap) ∧ W.cell? ⟨w.heap.size, 3, none⟩ = some (.slice (some nad) ns.length ncap) ∧ W.cell? ⟨w.heap.size, 4, none⟩ = some (.slice IA is.length icap) ∧ W.cell? ⟨w.heap.size, 5, none⟩ = some (.slice SA ss.length scap) ∧ W.cell? ⟨w.heap.size, 6, none⟩ = some (.slice VA vs.length vcap) ∧ W.cell? ⟨w.heap.size + 1, 0, none⟩ = some (.int .i64 0) ∧ W.cell? ⟨w.heap.size + 1, 1, none⟩ = some (.int .i64 0) ∧ W.cell? ⟨w.heap.size + 1, 2, none⟩ = some (.int .i64 0) ∧ W.cell? ⟨w.heap.size + 1, 3, none⟩ = some (.string ⟨#[]⟩) ∧ W.cell? ⟨w.heap.size + 1, 4, none⟩ = some (.slice none 0 0) ∧ W.frozen? ⟨w.heap.size + 1, 0, none⟩ = false ∧ W.frozen? ⟨w.heap.size + 1, 1, none⟩ = false ∧ W.frozen? ⟨w.heap.size + 1, 2, none⟩ = false ∧ W.frozen? ⟨w.heap.size + 1, 3, none⟩ = false ∧ W.frozen? ⟨w.heap.size + 1, 4, none⟩ = false) := fun W h => by
      have Q0 := (h.block w.heap.size (by omega)).trans P0
      have Q1 := (h.block (w.heap.size + 1) (by omega)).trans P1
      exact ⟨cell_of_row W w.heap.size 0 _ _ _ Q0, cell_of_row W w.heap.size 1 _ _ _ Q0, cell_of_row W w.heap.size 2 _ _ _ Q0, cell_of_row W w.heap.size 3 _ _ _ Q0, cell_of_row W w.heap.size 4 _ _ _ Q0, cell_of_row W w.heap.size 5 _ _ _ Q0, cell_of_row W w.heap.size 6 _ _ _ Q0, cell_of_row W (w.heap.size + 1) 0 _ _ _ Q1, cell_of_row W (w.heap.size + 1) 1 _ _ _ Q1, cell_of_row W (w.heap.size + 1) 2 _ _ _ Q1, cell_of_row W (w.heap.size + 1) 3 _ _ _ Q1, cell_of_row W (w.heap.size + 1) 4 _ _ _ Q1, by simp [World.frozen?, Q1], by simp [World.frozen?, Q1], by simp [World.frozen?, Q1], by simp [World.frozen?, Q1], by simp [World.frozen?, Q1]⟩
    have hkd := Lib.hid (ekind_any k sc A fl.length cap W0)
    have HW0 := Lib.hid hW0
    have Hz0 := Lib.hid hz0
    clear hW0 hz0 P0 P1
    by_cases h4 : k = 4
    · subst h4
      rw [if_pos rfl] at hX
      have hi4' := hi4 rfl
      go_enter Tryz.func67, Tryz.ntmps67
      go_wp2_with fail
      rw [HW0.out]
      refine hkd.out.mono ?_
      rintro e w1 ⟨rfl, hb1⟩
      obtain ⟨p0, p1, p2, p3, p4, p5, p6, q0, q1, q2, q3, q4, f0, f1, f2, f3, f4⟩ := hk.out w1 hb1
      have hbF : Below w.heap.size w w1 := hbw.trans (hb1.mono (by have := Hz0.out; omega))
      have hS1 : Same B w w1 := Same.mono (Same.of_below hbF) hB
      clear hnc2
      obtain ⟨sx, sad, hsx, rfl, _, hsc⟩ := (hss.keep hS1).get hi4'
      have HR : Hid (X = .node ⟨4, 0, 0, sx, none, 0⟩ []) := by rw [← hX, getD_of hsx]; rfl
      clear hX hsx hns his hss hvs ht hi4 hi6 hi2
      have hks : kindS 4 = 4 := rfl
      go_wp2
      refine bodyPost_ret (v := .agg #[.int .i64 4, .int .i64 0, .int .i64 0, .string sx, .slice none 0 0]) (by simp [results, Tryz.results67, go_sem, *]) rfl ?_
      exact ⟨by rw [HR.out] <;> rfl, by repeat (first | exact hbF | refine Below.setCell ?_ (by simp) _ | refine Below.drew ?_)⟩
    have e4 : (k == 4) = false := by simpa using h4
    rw [if_neg h4] at hX
    by_cases h6 : k = 6
    · subst h6
      rw [if_pos (.inl rfl)] at hX
      have hi6' := hi6 rfl
      go_enter Tryz.func67, Tryz.ntmps67
      go_wp2_with fail
      rw [HW0.out]
      refine hkd.out.mono ?_
      rintro e w1 ⟨rfl, hb1⟩
      obtain ⟨p0, p1, p2, p3, p4, p5, p6, q0, q1, q2, q3, q4, f0, f1, f2, f3, f4⟩ := hk.out w1 hb1
      have hbF : Below w.heap.size w w1 := hbw.trans (hb1.mono (by have := Hz0.out; omega))
      have hS1 : Same B w w1 := Same.mono (Same.of_below hbF) hB
      clear hnc2
      obtain ⟨vx, vad, hvx, rfl, _, x0, x1, x2, x3, x4⟩ := (hvs.1.keep hS1).get hi6'
      have HR : Hid (X = vx) := by rw [← hX, getD_of hvx]; rfl
      clear hX hvx hns his hss hvs ht hi4 hi6 hi2
      have hks : kindS 6 = 6 := rfl
      go_wp2
      refine bodyPost_ret (v := .agg #[.int .i64 vx.a.k, .int .i64 vx.a.n, .int .i64 vx.a.sc, .string vx.a.s, .slice vx.a.A vx.l.length vx.a.cap]) (by simp [results, Tryz.results67, go_sem, *]) rfl ?_
      exact ⟨by rw [HR.out] <;> rfl, by repeat (first | exact hbF | refine Below.setCell ?_ (by simp) _ | refine Below.drew ?_)⟩
    by_cases h7 : k = 7
    · subst h7
      rw [if_pos (.inr rfl)] at hX
      have hi6' := hi6 rfl
      go_enter Tryz.func67, Tryz.ntmps67
      go_wp2_with fail
      rw [HW0.out]
      refine hkd.out.mono ?_
      rintro e w1 ⟨rfl, hb1⟩
      obtain ⟨p0, p1, p2, p3, p4, p5, p6, q0, q1, q2, q3, q4, f0, f1, f2, f3, f4⟩ := hk.out w1 hb1
      have hbF : Below w.heap.size w w1 := hbw.trans (hb1.mono (by have := Hz0.out; omega))
      have hS1 : Same B w w1 := Same.mono (Same.of_below hbF) hB
      clear hnc2
      obtain ⟨vx, vad, hvx, rfl, _, x0, x1, x2, x3, x4⟩ := (hvs.1.keep hS1).get hi6'
      have HR : Hid (X = vx) := by rw [← hX, getD_of hvx]; rfl
      clear hX hvx hns his hss hvs ht hi4 hi6 hi2
      have hks : kindS 7 = 6 := rfl
      go_wp2
      refine bodyPost_ret (v := .agg #[.int .i64 vx.a.k, .int .i64 vx.a.n, .int .i64 vx.a.sc, .string vx.a.s, .slice vx.a.A vx.l.length vx.a.cap]) (by simp [results, Tryz.results67, go_sem, *]) rfl ?_
      exact ⟨by rw [HR.out] <;> rfl, by repeat (first | exact hbF | refine Below.setCell ?_ (by simp) _ | refine Below.drew ?_)⟩
    rw [if_neg (by omega)] at hX
    have hks : kindS k = 2 := by unfold kindS; rw [if_neg h4, if_neg (by omega)]
    have hi2' := hi2 hks
    go_enter Tryz.func67, Tryz.ntmps67
    go_wp2_with fail
    rw [HW0.out]
    refine hkd.out.mono ?_
    rintro e w1 ⟨rfl, hb1⟩
    obtain ⟨p0, p1, p2, p3, p4, p5, p6, q0, q1, q2, q3, q4, f0, f1, f2, f3, f4⟩ := hk.out w1 hb1
    have hbF : Below w.heap.size w w1 := hbw.trans (hb1.mono (by have := Hz0.out; omega))
    have hS1 : Same B w w1 := Same.mono (Same.of_below hbF) hB
    clear hnc2
    obtain ⟨ix, iad, hix, rfl, _, hic⟩ := (his.keep hS1).get hi2'
    have HR : Hid (X = .node ⟨k, ix, sc, ⟨#[]⟩, none, 0⟩ []) := by rw [← hX, getD_of hix]; rfl
    clear hX hix hns his hss hvs ht hi4 hi6 hi2 h4 h6 h7
    go_wp2_with fail
    (generalize hA0 : Act.mk _ _ = A0; refine wp_region_still_tail 12 (by kernel_rfl) (by kernel_rfl) ?_; simp only [List.take_succ_cons, List.take_zero, List.drop_succ_cons, List.drop_zero]; (iterate 12 (refine st_want (by rw [← hA0]; rfl) (fun K hK => ?_); subst hA0; go_simp; generalize hA0 : Act.mk _ _ = A0; refine hK A0 ?_; clear hK K)); refine wpStill_nil ?_; subst hA0)
    change wpList _ _ _ _ _ w1.drew
    go_wp2
    refine bodyPost_ret (v := .agg #[.int .i64 k, .int .i64 ix, .int .i64 sc, .string ⟨#[]⟩, .slice none 0 0]) (by simp [results, Tryz.results67, go_sem, *]) rfl ?_
    exact ⟨by rw [HR.out] <;> rfl, by repeat (first | exact hbF | refine Below.setCell ?_ (by simp) _ | refine Below.drew ?_)⟩
  · rw [hnull, if_pos rfl] at hX
    have HR : Hid (X = zeroV) := hX.symm
    clear hX hns his hss hvs ht hi4 hi6 hi2
    go_enter Tryz.func67, Tryz.ntmps67
    go_wp2
    refine bodyPost_ret (v := .agg #[.int .i64 0, .int .i64 0, .int .i64 0, .string ⟨#[]⟩, .slice none 0 0]) (by simp [results, Tryz.results67, go_sem, *]) rfl ?_
    exact ⟨by rw [HR.out] <;> rfl, bel2 _ _ _⟩
end Go.Proofs.YtkadahfknccjfaaGreatDoor
namespace Go.Proofs.YtkadahfknccjfaaGreatDoor
open Go.RowKit
/-- Is value i as it must be? -/
def okI (nul : Bool) (K : Int) (x : VT) (s : ByteArray) (n : Int) : Bool :=
  if K = 4 then (!nul || s.toList.isEmpty) else if K = 6 then (if nul = true then zeroB x.a.k x.a.n x.a.sc x.a.s x.l.length else !(x.a.k == 0)) else (!nul || (n == 0))
def lastB (ns : List Int) (size : Nat) : Bool := (size % 64 == 0) || (ns.getD ((size + 63) / 64 - 1) 0 / 2 ^ (size % 64) == 0)
def okAt (v : VecT) (i : Nat) : Bool := okI (nullB v.ns i) (kindS v.t.a.k) (v.vs.getD i zeroV) (v.ss.getD i ⟨#[]⟩) (v.is.getD i 0)
def okFrom (v : VecT) (size : Nat) : Nat → Bool
  | 0 => true
  | f + 1 => okAt v (size - (f + 1)) && okFrom v size f
/-- Has a vector the form of one of so many values? -/
def formS (v : VecT) (size : Nat) : Bool :=
  (v.is.length == (if kindS v.t.a.k = 2 then size else 0)) && ((v.ss.length == (if kindS v.t.a.k = 4 then size else 0)) && ((v.vs.length == (if kindS v.t.a.k = 6 then size else 0)) && ((v.ns.length == (size + 63) / 64) && (lastB v.ns size && okFrom v size size))))
theorem okFrom_step (v : VecT) (size j : Nat) (h : j < size) : okFrom v size (size - j) = (okAt v j && okFrom v size (size - (j + 1))) := by
  obtain ⟨f, hf⟩ : ∃ f, size - j = f + 1 := ⟨size - j - 1, by omega⟩
  rw [hf, okFrom, show size - (f + 1) = j by omega, show f = size - (j + 1) by omega]
end Go.Proofs.YtkadahfknccjfaaGreatDoor
