/-
  The reference of package value: order, texts, rows of digits compared.
  The reference of package value: wide numbers (WideB at a seat without package engine).
  The reference of package value: wide numbers times powers of ten (WideC at a seat without package engine).
-/
import Derived.Test.YthijagpnpcpcbaaGreatQSoB
import Derived.Test.YthijagpnpcpcbaaGreatQCopyB
import Derived.Deep.QuietTactic
import Derived.BigQuiet
import Derived.Deep.RegionLawGrows
import Derived.Laws.OwnMore
namespace Go.Proofs.YthijagpnpcpcbaaGreat
open Go.RowKit
theorem below_dN (w : World) (q : Nat) : Below w.heap.size w (w.drewN q) := ⟨rfl, rfl, rfl, Nat.le_refl _, fun _ _ => rfl⟩
theorem rorder_any (a b : Int) (w : World) : Calls Tryz.prog 88 #[.int .i64 a, .int .i64 b] w fun e w' => e = .returned (.int .i64 (ordI a b)) ∧ w = w' := by
  by_cases h : a < b
  · have e : ordI a b = -1 := by unfold ordI; rw [if_pos h]
    rw [e]
    go_enter Tryz.func88, Tryz.ntmps88
    go_wp2
    go_ret
    exact ⟨rfl, rfl⟩
  · by_cases h2 : b < a
    · have e : ordI a b = 1 := by unfold ordI; rw [if_neg h, if_pos h2]
      rw [e]
      go_enter Tryz.func88, Tryz.ntmps88
      go_wp2
      go_ret
      exact ⟨rfl, rfl⟩
    · have e : ordI a b = 0 := by unfold ordI; rw [if_neg h, if_neg h2]
      rw [e]
      go_enter Tryz.func88, Tryz.ntmps88
      go_wp2
      go_ret
      exact ⟨rfl, rfl⟩
theorem rorder_q (a b : Int) (w : World) : Calls Tryz.prog 88 #[.int .i64 a, .int .i64 b] w fun e w' => e = .returned (.int .i64 (ordI a b)) ∧ w' = w :=
  (rorder_any a b w).mono fun _ _ h => ⟨h.1, h.2.symm⟩
theorem drop_cons {α : Type} {l : List α} {j : Nat} (h : j < l.length) : l.drop j = l[j] :: l.drop (j + 1) := List.drop_eq_getElem_cons h
theorem cmpL_end (l r : List UInt8) (j : Nat) (h : l.length = j ∨ r.length = j) (hl : j ≤ l.length) (hr : j ≤ r.length) : cmpL (l.drop j) (r.drop j) = ordI l.length r.length := by
  unfold ordI
  by_cases h1 : j < l.length
  · have h2 : r.length = j := by omega
    rw [List.drop_of_length_le (l := r) (i := j) (by omega), drop_cons h1, if_neg (by omega), if_pos (by omega)]
    rfl
  · rw [List.drop_of_length_le (l := l) (i := j) (by omega)]
    by_cases h2 : j < r.length
    · rw [drop_cons h2, if_pos (by omega)]
      rfl
    · rw [List.drop_of_length_le (l := r) (i := j) (by omega), if_neg (by omega), if_neg (by omega)]
      rfl
theorem cmpL_at (s t : ByteArray) (j : Nat) (h1 : j < s.size) (h2 : j < t.size) : cmpL (s.data.toList.drop j) (t.data.toList.drop j) = orC (ordI (s[j].toNat : Int) (t[j].toNat : Int)) (cmpL (s.data.toList.drop (j + 1)) (t.data.toList.drop (j + 1))) := by
  have e1 : j < s.data.toList.length := by rw [Array.length_toList]; exact h1
  have e2 : j < t.data.toList.length := by rw [Array.length_toList]; exact h2
  rw [drop_cons e1, drop_cons e2]
  simp only [cmpL]
  rfl
set_option maxRecDepth 100000 in
set_option maxHeartbeats 1000000 in
theorem rtexts_any (s t : ByteArray) (w : World) (hs : s.size ≤ maxLen) (_ht : t.size ≤ maxLen) : Calls Tryz.prog 90 #[.string s, .string t] w fun e w' => e = .returned (.int .i64 (cmpL s.data.toList t.data.toList)) ∧ Below w.heap.size w w' := by
  unfold maxLen at hs _ht
  have ho := Lib.hid (fun a b W => rorder_any a b W)
  obtain ⟨C, hC⟩ : ∃ C, cmpL s.data.toList t.data.toList = C := ⟨_, rfl⟩
  rw [hC]
  have HC : Hid (cmpL (s.data.toList.drop 0) (t.data.toList.drop 0) = C) := hC
  clear hC
  go_enter Tryz.func90, Tryz.ntmps90
  go_wp2
  go_loopw [5] (fun i wr => ∃ j : Nat, j ≤ s.size ∧ j ≤ t.size ∧ i = .int .i64 j ∧ Below w.heap.size w wr ∧ cmpL (s.data.toList.drop j) (t.data.toList.drop j) = C) (fun i _ => s.size - (intOf i).toNat)
  case atStart => exact ⟨0, Nat.zero_le _, Nat.zero_le _, rfl, Below.refl _ _, HC.out⟩
  case round =>
    obtain ⟨j, hj, hj2, rfl, hbr, hc⟩ := hrel
    have Hc := Lib.hid hc
    clear hc
    by_cases hlt : j < s.size
    · by_cases hlt2 : j < t.size
      · have hat := cmpL_at s t j hlt hlt2
        rw [Hc.out] at hat
        obtain ⟨c, hcc⟩ : ∃ c : Nat, s[j].toNat = c := ⟨_, rfl⟩
        obtain ⟨d, hdd⟩ : ∃ c : Nat, t[j].toNat = c := ⟨_, rfl⟩
        rw [hcc, hdd] at hat
        have Hat := Lib.hid hat
        have b1 : c < 256 := by rw [← hcc]; exact s[j].toNat_lt
        have b2 : d < 256 := by rw [← hdd]; exact t[j].toNat_lt
        clear hat
        by_cases hcd : c = d
        · subst hcd
          go_wp2_with fail
          go_quiet (fail)
          go_wp2
          go_roundw
          case rel =>
            refine ⟨j + 1, by omega, by omega, by go_num, hbr.trans ((below_dN _ _).mono hbr.size), ?_⟩
            have := Hat.out
            unfold ordI orC at this
            simpa using this.symm
          case measure => simp [intOf]; omega
        · have hne : ((c : Int) != (d : Int)) = true := by simp; omega
          have w1 : IntKind.i64.wrap (c : Int) = (c : Int) := IntWalk.i64_in _ ⟨by omega, by omega⟩
          have w2 : IntKind.i64.wrap (d : Int) = (d : Int) := IntWalk.i64_in _ ⟨by omega, by omega⟩
          go_wp2_with fail
          go_quiet (fail)
          generalize hW2 : World.drewN _ _ = W2
          have hb2 : Below wr.heap.size wr W2 := by rw [← hW2]; exact below_dN _ _
          clear hW2
          go_wp2_with fail
          go_quiet ((go_at_call 88; exact Calls.quiet_of_same (rorder_q _ _ _)))
          go_wp2_with fail
          go_ret
          refine ⟨?_, hbr.trans ((hb2.trans ((below_dN _ _).mono hb2.size)).mono hbr.size)⟩
          have := Hat.out
          have e : ordI (c : Int) (d : Int) ≠ 0 := by unfold ordI; repeat' split <;> omega
          unfold orC at this
          rw [if_neg e] at this
          rw [this]
          rfl
      · have e := cmpL_end s.data.toList t.data.toList j (.inr (by rw [Array.length_toList]; show t.size = j; omega)) (by rw [Array.length_toList]; exact hj) (by rw [Array.length_toList]; exact hj2)
        rw [Hc.out, Array.length_toList, Array.length_toList] at e
        have He : Hid (C = ordI s.size t.size) := e
        clear e
        go_wp2_with fail
        refine (ho.out _ _ _).mono ?_
        rintro e w' ⟨rfl, rfl⟩
        go_wp2
        go_ret
        exact ⟨by rw [He.out]; rfl, hbr⟩
    · have e := cmpL_end s.data.toList t.data.toList j (.inl (by rw [Array.length_toList]; show s.size = j; omega)) (by rw [Array.length_toList]; exact hj) (by rw [Array.length_toList]; exact hj2)
      rw [Hc.out, Array.length_toList, Array.length_toList] at e
      have He : Hid (C = ordI s.size t.size) := e
      clear e
      go_wp2_with fail
      refine (ho.out _ _ _).mono ?_
      rintro e w' ⟨rfl, rfl⟩
      go_wp2
      go_ret
      exact ⟨by rw [He.out]; rfl, hbr⟩
/-- What most says. -/
def MostOk (D E : List Int) (r : Int) : Prop :=
  (D.length ≠ E.length ∧ r = (D.length : Int) - (E.length : Int)) ∨ (D.length = E.length ∧ ((D = E ∧ r = 0) ∨ ∃ (i : Nat) (x y : Int), D[i]? = some x ∧ E[i]? = some y ∧ x ≠ y ∧ r = x - y ∧ D.drop (i + 1) = E.drop (i + 1)))
/-- Digits. -/
def Dig (D : List Int) : Prop := ∀ x, x ∈ D → 0 ≤ x ∧ x ≤ 9
set_option maxRecDepth 100000 in
set_option maxHeartbeats 1000000 in
theorem rmost_any (A A2 : Option Addr) (cap cap2 len len2 : Nat) (D E : List Int) (B : Nat) (w : World) (h1 : CRow (.int .i64) B w A cap D) (h2 : CRow (.int .i64) B w A2 cap2 E) (hB : B ≤ w.heap.size) (hlen : Hid (D.length = len)) (hlen2 : Hid (E.length = len2)) (hd : Dig D) (he : Dig E) :
    Calls Tryz.prog 130 #[.slice A len cap, .slice A2 len2 cap2] w fun e w' => ∃ r : Int, e = .returned (.int .i64 r) ∧ -9223372036854775807 ≤ r ∧ r ≤ 9223372036854775807 ∧ MostOk D E r ∧ Below w.heap.size w w' := by
  have hll : len ≤ 9223372036854775807 := by rw [← hlen.out]; exact Nat.le_trans h1.1 h1.2.1
  have hll2 : len2 ≤ 9223372036854775807 := by rw [← hlen2.out]; exact Nat.le_trans h2.1 h2.2.1
  by_cases hne : len = len2
  · subst hne
    have Hd := Lib.hid hd
    have He := Lib.hid he
    have H1 := Lib.hid h1
    have H2 := Lib.hid h2
    clear hd he h1 h2
    go_enter Tryz.func130, Tryz.ntmps130
    go_wp2
    go_loopw [5] (fun i wr => ∃ j : Nat, j ≤ len ∧ i = .int .i64 ((j : Int) - 1) ∧ Below w.heap.size w wr ∧ D.drop j = E.drop j) (fun i _ => (intOf i + 1).toNat)
    case atStart => exact ⟨len, Nat.le_refl _, rfl, Below.refl _ _, by rw [List.drop_eq_nil_of_le (by rw [hlen.out]; exact Nat.le_refl _), List.drop_eq_nil_of_le (by rw [hlen2.out]; exact Nat.le_refl _)]⟩
    case round =>
      obtain ⟨j, hj, rfl, hbr, hdr⟩ := hrel
      have Hdr := Lib.hid hdr
      clear hdr
      by_cases hlt : 0 < j
      · obtain ⟨j, rfl⟩ : ∃ i, j = i + 1 := ⟨j - 1, by omega⟩
        rw [show ((j + 1 : Nat) : Int) - 1 = (j : Int) by omega]
        have hSr := Same.mono (Same.of_below hbr) hB
        obtain ⟨x, ad, hx, rfl, hb, d0⟩ := (H1.out.keep hSr).get (show j < D.length by rw [hlen.out]; omega)
        obtain ⟨y, ad2, hy, rfl, hb2, c0⟩ := (H2.out.keep hSr).get (show j < E.length by rw [hlen2.out]; omega)
        have hxd := Hd.out x (List.mem_of_getElem? hx)
        have hye := He.out y (List.mem_of_getElem? hy)
        have Hx := Lib.hid hx
        have Hy := Lib.hid hy
        have hjl : j < len := by omega
        clear hx hy
        by_cases hxy : x = y
        · subst hxy
          go_wp2_with fail
          go_quiet (fail)
          go_wp2
          go_roundw
          case rel =>
            refine ⟨j, by omega, rfl, hbr.trans ((below_dN _ _).mono hbr.size), ?_⟩
            obtain ⟨q1, q2⟩ := List.getElem?_eq_some_iff.1 Hx.out
            obtain ⟨q3, q4⟩ := List.getElem?_eq_some_iff.1 Hy.out
            rw [drop_cons q1, drop_cons q3, q2, q4, Hdr.out]
          case measure => simp [intOf]
        · have hne : (x != y) = true := by simpa using hxy
          have w1 : IntKind.i64.wrap (x - y) = x - y := IntWalk.i64_in _ ⟨by omega, by omega⟩
          have Hne := Lib.hid hxy
          clear hxy
          go_wp2_with fail
          go_quiet (fail)
          generalize hW2 : World.drewN _ _ = W2
          have hb2 : Below wr.heap.size wr W2 := by rw [← hW2]; exact below_dN _ _
          clear hW2
          have e0 := (hb2.cell (block_lt_of_cell d0)).trans d0
          have e1 := (hb2.cell (block_lt_of_cell c0)).trans c0
          clear d0 c0
          go_wp2_with fail
          go_quiet (fail)
          go_wp2_with fail
          go_ret
          exact ⟨x - y, rfl, by omega, by omega, .inr ⟨by rw [hlen.out, hlen2.out], .inr ⟨j, x, y, Hx.out, Hy.out, Hne.out, rfl, Hdr.out⟩⟩, hbr.trans ((hb2.trans ((below_dN _ _).mono hb2.size)).mono hbr.size)⟩
      · obtain rfl : j = 0 := by omega
        go_wp2
        go_ret
        exact ⟨0, rfl, by omega, by omega, .inr ⟨by rw [hlen.out, hlen2.out], .inl ⟨Hdr.out, rfl⟩⟩, hbr⟩
  · have hne2 : ((len : Int) != (len2 : Int)) = true := by simp; omega
    have w1 : IntKind.i64.wrap ((len : Int) - (len2 : Int)) = (len : Int) - (len2 : Int) := IntWalk.i64_in _ ⟨by omega, by omega⟩
    have Hne := Lib.hid hne
    clear hne hd he h1 h2
    go_enter Tryz.func130, Tryz.ntmps130
    go_wp2
    go_ret
    exact ⟨(len : Int) - (len2 : Int), rfl, by omega, by omega, .inl ⟨by rw [hlen.out, hlen2.out]; exact Hne.out, by rw [hlen.out, hlen2.out]⟩, Below.refl _ _⟩
end Go.Proofs.YthijagpnpcpcbaaGreat
namespace Go.Proofs.YthijagpnpcpcbaaGreat
open Go.RowKit
/-- The digits of a number, the least first. -/
def digF : Nat → Int → List Int
  | 0, _ => []
  | f + 1, m => if m = 0 then [] else ((m.tmod 10).natAbs : Int) :: digF f (m.tdiv 10)
def digs (n : Int) : List Int := digF 19 n
theorem digF_zero (f : Nat) : digF f 0 = [] := by cases f <;> rfl
theorem digF_succ {f : Nat} {m : Int} (h : m ≠ 0) : digF (f + 1) m = ((m.tmod 10).natAbs : Int) :: digF f (m.tdiv 10) := by rw [digF, if_neg h]
theorem own_crow {α : Type} {f : α → Value} {w : World} {base n : Nat} {e : TypeId} {v : Value} {u : List α} (h : w.ownsRow base e 1 v n (u.map f)) (hn : u.length = n) : ∃ (A : Option Addr) (cap : Nat), v = .slice A n cap ∧ n ≤ cap ∧ cap ≤ maxLen ∧ (A = none → n = 0 ∧ cap = 0) ∧
    ∀ (i : Nat) (x : α), u[i]? = some x → ∃ ad : Addr, A = some ad ∧ v.ownBlock = some ad.block ∧ base ≤ ad.block ∧ ad.block < w.heap.size ∧ w.cell? (ad.add i) = some (f x) := by
  rcases h.2 with ⟨rfl, rfl⟩ | ⟨g, cap, cur, rfl, hb, hg, h1, h2, h3, h4⟩
  · refine ⟨none, 0, rfl, Nat.le_refl _, Nat.zero_le _, fun _ => ⟨rfl, rfl⟩, fun i x hx => ?_⟩
    have := (List.getElem?_eq_some_iff.1 hx).1
    omega
  · refine ⟨some ⟨g, 0, none⟩, cap, rfl, h1, h2, (fun h => by cases h), fun i x hx => ⟨⟨g, 0, none⟩, rfl, rfl, hb, (Array.getElem?_eq_some_iff.1 hg).1, ?_⟩⟩
    exact h.cells (g := g) rfl i (f x) (by rw [List.getElem?_map, hx]; rfl)
theorem infoInt : (Tryz.prog.info? 3).map (fun i => (i.zero, i.size, i.bytes)) = some (some (.int .i64 0), 1, 8) := by kernel_rfl
/-- What wideOf has at the head of its loop. -/
def WdRel (n : Int) (B0 : Nat) (W0 : World) (sv m : Value) (wr : World) : Prop :=
  ∃ (D : List Int) (mm : Int) (f : Nat), m = .int .i64 mm ∧ I64 mm ∧ mm.natAbs < 10 ^ f ∧ f + D.length = 19 ∧ D ++ digF f mm = digs n ∧ wr.ownsRow B0 3 1 sv D.length (D.map (.int .i64)) ∧ Below B0 W0 wr
theorem WdRel.step {n : Int} {B0 : Nat} {W0 wr w3 : World} {sv sv' : Value} {D : List Int} {mm x q : Int} {f : Nat} (hB0 : W0.heap.size = B0) (hz : mm ≠ 0) (hmm : I64 mm) (hf : mm.natAbs < 10 ^ f) (hfl : f + D.length = 19) (hD : D ++ digF f mm = digs n)
    (hown : wr.ownsRow B0 3 1 sv D.length (D.map (.int .i64))) (hb : Below B0 W0 wr) (o : Obj) (hx : x = ((mm.tmod 10).natAbs : Int)) (hq : q = mm.tdiv 10)
    (hown' : w3.ownsRow B0 3 1 sv' (D.length + 1) (D.map (.int .i64) ++ [.int .i64 x])) (hg : (wr.alloc o).grownBy w3 sv.ownBlock) : WdRel n B0 W0 sv' (.int .i64 q) w3 := by
  subst hx hq
  obtain ⟨f, rfl⟩ : ∃ g, f = g + 1 := ⟨f - 1, by
    rcases Nat.eq_zero_or_pos f with h | h
    · subst h; simp at hf; omega
    · omega⟩
  refine ⟨D ++ [((mm.tmod 10).natAbs : Int)], mm.tdiv 10, f, rfl, ?_, ?_, by simp; omega, by rw [List.append_assoc, ← hD, digF_succ hz]; rfl, by simpa using hown', ?_⟩
  · have h1 : (mm.tdiv 10).natAbs ≤ mm.natAbs := by rw [Int.natAbs_tdiv]; exact Nat.div_le_self _ _
    obtain ⟨h2, h3⟩ := hmm
    by_cases h0 : 0 ≤ mm
    · have := Int.tdiv_nonneg h0 (show (0 : Int) ≤ 10 by omega)
      exact ⟨by omega, by omega⟩
    · have e : mm.tdiv 10 = -((-mm).tdiv 10) := by rw [Int.neg_tdiv, Int.neg_neg]
      have := Int.tdiv_nonneg (show 0 ≤ -mm by omega) (show (0 : Int) ≤ 10 by omega)
      exact ⟨by omega, by omega⟩
  · rw [Int.natAbs_tdiv]
    rw [Nat.pow_succ] at hf
    exact Nat.div_lt_of_lt_mul (by rw [Nat.mul_comm]; exact hf)
  · have hol := hown.lt
    refine ⟨hg.os.trans hb.os, hg.tape.trans hb.tape, hg.output.trans hb.output, by have := hb.size; have := hg.size; simp at this; omega, fun k hk => ?_⟩
    have h1 : k < wr.heap.size := by have := hb.size; omega
    rw [hg.block k (by simp; omega) (fun e => by have := (hol k e.symm).1; omega), Below.heap_alloc _ _ _ h1, hb.block k hk]
def WidePost (b : Bool) (D : List Int) (w : World) (e : Ending) (w' : World) : Prop :=
  ∃ (A : Option Addr) (cap : Nat), e = .returned (.agg #[.bool b, .slice A D.length cap]) ∧ Below w.heap.size w w' ∧ CRow (.int .i64) w'.heap.size w' A cap D ∧ ∀ ad, A = some ad → D ≠ [] → w.heap.size ≤ ad.block
set_option maxRecDepth 100000 in
set_option maxHeartbeats 1000000 in
theorem rwideOf_any (n : Int) (w : World) (hn : I64 n) : Calls Tryz.prog 132 #[.int .i64 n] w (WidePost (decide (n < 0)) (digs n) w) := by
  obtain ⟨hn1, hn2⟩ := hn
  obtain ⟨i0, hi, iz, isz, iby⟩ := info_parts infoInt
  obtain ⟨W0, hW0⟩ : ∃ W0, w.alloc (.cells #[.bool false, .slice none 0 0] 153) = W0 := ⟨_, rfl⟩
  have hbw : Below w.heap.size w W0 := by rw [← hW0]; exact bel1 _ _
  have hz0 : W0.heap.size = w.heap.size + 1 := by rw [← hW0]; simp
  have P0 : W0.heap[w.heap.size]? = some (.cells #[.bool false, .slice none 0 0] 153 (0, 0)) := by rw [← hW0]; exact heap_alloc_new w _
  have HP0 := Lib.hid P0
  have HW0 := Lib.hid hW0
  have Hz0 := Lib.hid hz0
  clear hW0 hz0 P0
  go_enter Tryz.func132, Tryz.ntmps132
  go_wp2
  rw [HW0.out]
  go_loopw [3, 4] (fun sv m wr => WdRel n (w.heap.size + 1) W0 sv m wr) (fun _ m _ => (intOf m).natAbs)
  case atStart => exact ⟨[], n, 19, rfl, ⟨hn1, hn2⟩, by omega, rfl, rfl, World.ownsRow_nil _ _ _ _, Below.refl _ _⟩
  case round =>
    obtain ⟨D, mm, f, rfl, hmm, hf, hfl, hD, hown, hbr⟩ := hrel
    by_cases hz : mm = 0
    · subst hz
      rw [digF_zero, List.append_nil] at hD
      subst hD
      have Q0 : wr.heap[w.heap.size]? = some (.cells #[.bool false, .slice none 0 0] 153 (0, 0)) := (hbr.block _ (by omega)).trans HP0.out
      have c0 := cell_of_row wr w.heap.size 0 _ _ _ Q0
      have c1 := cell_of_row wr w.heap.size 1 _ _ _ Q0
      have f0 : wr.frozen? ⟨w.heap.size, 0, none⟩ = false := by simp [World.frozen?, Q0]
      have f1 : wr.frozen? ⟨w.heap.size, 1, none⟩ = false := by simp [World.frozen?, Q0]
      simp at c0 c1
      obtain ⟨A, cap, rfl, h1, h2, h3, h4⟩ := own_crow hown rfl
      obtain ⟨len, hlen⟩ : ∃ len, (digs n).length = len := ⟨_, rfl⟩
      rw [hlen] at h1 ⊢
      have H4 := Lib.hid h4
      have Hlen := Lib.hid hlen
      clear Q0 hown h4 hlen h3
      go_wp2
      refine bodyPost_ret (v := .agg #[.bool (decide (n < 0)), .slice A len cap]) (by simp [results, Tryz.results132, go_sem, *]) rfl ?_
      have hbel : Below w.heap.size w ((wr.setCell ⟨w.heap.size, 0, none⟩ (.bool (decide (n < 0)))).setCell ⟨w.heap.size, 1, none⟩ (.slice A len cap)) := ((hbw.trans (hbr.mono (by omega))).setCell (by simp) _).setCell (by simp) _
      have hkeep : ∀ q, w.heap.size < q → ((wr.setCell ⟨w.heap.size, 0, none⟩ (.bool (decide (n < 0)))).setCell ⟨w.heap.size, 1, none⟩ (.slice A len cap)).heap[q]? = wr.heap[q]? := fun q hq => by
        rw [Below.heap_setCell _ _ _ _ (by simp; omega), Below.heap_setCell _ _ _ _ (by simp; omega)]
      obtain ⟨W', hW'⟩ : ∃ W', (wr.setCell ⟨w.heap.size, 0, none⟩ (.bool (decide (n < 0)))).setCell ⟨w.heap.size, 1, none⟩ (.slice A len cap) = W' := ⟨_, rfl⟩
      have hzW' : W'.heap.size = wr.heap.size := by rw [← hW']; simp [World.setCell]
      rw [hW'] at hkeep hbel ⊢
      refine ⟨A, cap, by rw [Hlen.out], hbel, ⟨by rw [Hlen.out]; exact h1, h2, fun i x hx => ?_⟩, fun ad hA hne => ?_⟩
      · obtain ⟨ad, e1, _, e2, e3, e4⟩ := H4.out i x hx
        exact ⟨ad, e1, by omega, (World.cell?_of_block (hkeep _ (by rw [block_add]; omega))).trans e4⟩
      · obtain ⟨ad', e1, _, e2, _⟩ := H4.out 0 ((digs n)[0]'(List.length_pos_iff.2 hne)) (List.getElem?_eq_getElem _)
        rw [hA] at e1
        cases e1
        omega
    · have n0 : (mm != 0) = true := by simpa using hz
      obtain ⟨b1, b2⟩ := hmm
      have b3 : mm.tmod 10 < 10 := Int.tmod_lt_of_pos _ (by omega)
      have b4 : -10 < mm.tmod 10 := Int.lt_tmod_of_pos _ (by omega)
      have Hf := Lib.hid hf
      have HD := Lib.hid hD
      have Hown := Lib.hid hown
      have h3 : Hid (D.length + 1 ≤ maxLen) := by show _ ≤ _; unfold maxLen; omega
      have h4 : Hid ((D.length + 1) * 8 ≤ 140737488355328) := by show _ ≤ _; omega
      have h5 : Hid (∀ o, w.heap.size + 1 ≤ (wr.alloc o).heap.size) := fun o => by have := hbr.size; have := Hz0.out; simp; omega
      have hdl : Hid ((mm.tdiv 10).natAbs < mm.natAbs) := by show _ < _; rw [Int.natAbs_tdiv]; exact Nat.div_lt_self (by omega) (by decide)
      clear hf hD hown
      by_cases hlt : mm < 0
      · by_cases hr : mm.tmod 10 < 0
        · skip
          have Hex : Hid (-(mm.tmod 10) = ((mm.tmod 10).natAbs : Int)) := by show _ = _; omega
          have Heq : Hid (mm.tdiv 10 = mm.tdiv 10) := by show _ = _; rfl
          have h6 : Hid (∀ u', u' ∈ [Value.int .i64 (-(mm.tmod 10))] → u'.oneCell' = true) := fun u' h => by simp at h; rw [h]; rfl
          go_wp2_with (at_builtin; refine wpList_append_own2 _ rfl _ _ 39 rfl (w.heap.size + 1) 3 i0 _ 1 8 Tryz.underlying39 hi iz isz iby rfl (by decide) _ D.length (D.map (.int .i64)) rfl (Hown.out.alloc _) ⟨wr.heap.size, 0, none⟩ 1 1 [.int .i64 (-(mm.tmod 10))] rfl (by decide) rfl (fun q u' h => new_cells _ _ _ q u' h) h6.out h3.out h4.out (h5.out _) ?_; intro sv' w3 hown3 hg3 hm3)
          have Hst := Lib.hid (WdRel.step Hz0.out hz ⟨b1, b2⟩ Hf.out hfl HD.out Hown.out hbr _ Hex.out Heq.out hown3 hg3)
          clear hown3 hg3 hm3
          go_wp2
          go_roundw
          case rel => exact Hst.out
          case measure => have h := hdl.out; rw [← Heq.out] at h; exact h
        · skip
          have Hex : Hid (mm.tmod 10 = ((mm.tmod 10).natAbs : Int)) := by show _ = _; omega
          have Heq : Hid (mm.tdiv 10 = mm.tdiv 10) := by show _ = _; rfl
          have h6 : Hid (∀ u', u' ∈ [Value.int .i64 (mm.tmod 10)] → u'.oneCell' = true) := fun u' h => by simp at h; rw [h]; rfl
          go_wp2_with (at_builtin; refine wpList_append_own2 _ rfl _ _ 39 rfl (w.heap.size + 1) 3 i0 _ 1 8 Tryz.underlying39 hi iz isz iby rfl (by decide) _ D.length (D.map (.int .i64)) rfl (Hown.out.alloc _) ⟨wr.heap.size, 0, none⟩ 1 1 [.int .i64 (mm.tmod 10)] rfl (by decide) rfl (fun q u' h => new_cells _ _ _ q u' h) h6.out h3.out h4.out (h5.out _) ?_; intro sv' w3 hown3 hg3 hm3)
          have Hst := Lib.hid (WdRel.step Hz0.out hz ⟨b1, b2⟩ Hf.out hfl HD.out Hown.out hbr _ Hex.out Heq.out hown3 hg3)
          clear hown3 hg3 hm3
          go_wp2
          go_roundw
          case rel => exact Hst.out
          case measure => have h := hdl.out; rw [← Heq.out] at h; exact h
      · skip
        have Hex : Hid (mm % 10 = ((mm.tmod 10).natAbs : Int)) := by show _ = _; (rw [Int.tmod_eq_emod_of_nonneg (by omega)]; omega)
        have Heq : Hid (mm / 10 = mm.tdiv 10) := by show _ = _; (rw [Int.tdiv_eq_ediv_of_nonneg (by omega)])
        have h6 : Hid (∀ u', u' ∈ [Value.int .i64 (mm % 10)] → u'.oneCell' = true) := fun u' h => by simp at h; rw [h]; rfl
        go_wp2_with (at_builtin; refine wpList_append_own2 _ rfl _ _ 39 rfl (w.heap.size + 1) 3 i0 _ 1 8 Tryz.underlying39 hi iz isz iby rfl (by decide) _ D.length (D.map (.int .i64)) rfl (Hown.out.alloc _) ⟨wr.heap.size, 0, none⟩ 1 1 [.int .i64 (mm % 10)] rfl (by decide) rfl (fun q u' h => new_cells _ _ _ q u' h) h6.out h3.out h4.out (h5.out _) ?_; intro sv' w3 hown3 hg3 hm3)
        have Hst := Lib.hid (WdRel.step Hz0.out hz ⟨b1, b2⟩ Hf.out hfl HD.out Hown.out hbr _ Hex.out Heq.out hown3 hg3)
        clear hown3 hg3 hm3
        go_wp2
        go_roundw
        case rel => exact Hst.out
        case measure => have h := hdl.out; rw [← Heq.out] at h; exact h
end Go.Proofs.YthijagpnpcpcbaaGreat
namespace Go.Proofs.YthijagpnpcpcbaaGreat
open Go.RowKit
theorem new_cells2 (w : World) (cs : Array Value) (t : TypeId) (n : Nat) (hn : w.heap.size = n) (j : Nat) (u : Value) (h : cs.toList[j]? = some u) : (w.alloc (.cells cs t)).cell? ((⟨n, 0, none⟩ : Addr).add j) = some u := by
  subst hn
  exact new_cells w cs t j u h
def tenS (D : List Int) (k : Nat) : List Int := if D = [] then [] else List.replicate k 0 ++ D
set_option maxRecDepth 100000 in
set_option maxHeartbeats 1000000 in
theorem rtens_any (b : Bool) (A : Option Addr) (cap k len : Nat) (D : List Int) (B : Nat) (w : World) (h1 : CRow (.int .i64) B w A cap D) (_hB : B ≤ w.heap.size) (hk : k ≤ 12) (hD : len ≤ 100) (hlen : Hid (D.length = len)) :
    Calls Tryz.prog 131 #[.agg #[.bool b, .slice A len cap], .int .i64 (k : Int)] w (WidePost b (tenS D k) w) := by
  obtain ⟨i0, hi, iz, isz, iby⟩ := info_parts infoInt
  by_cases h0 : len = 0
  · subst h0
    obtain rfl : D = [] := List.eq_nil_of_length_eq_zero hlen.out
    go_enter Tryz.func131, Tryz.ntmps131
    go_wp2
    refine bodyPost_ret (v := .agg #[.bool b, .slice A 0 cap]) (by simp [results, Tryz.results131, go_sem, *]) rfl ?_
    exact ⟨A, cap, rfl, bel2 _ _ _, ⟨Nat.zero_le _, h1.2.1, fun i x hx => by simp [tenS] at hx⟩, fun ad _ h => absurd (by simp [tenS]) h⟩
  · have e0 : ((len : Int) == 0) = false := by simp; omega
    obtain ⟨x0, ad, _, rfl, hb, _⟩ := h1.get (show 0 < D.length by rw [hlen.out]; omega)
    obtain ⟨Z, hZ⟩ : ∃ Z, madeCells (Value.cells (.int .i64 0)) (k * i0.size) = Z := ⟨_, rfl⟩
    have hmk : ∀ W : World, (Instr.makeSlice 39 (.int .i64 (k : Int)) (.int .i64 (k : Int))).run Tryz.prog W = .ok (.slice (some ⟨W.heap.size, 0, none⟩) k k) (W.alloc (.cells Z 3)) := fun W => by
      have := run_makeSlice W 39 3 i0 (.int .i64 0) Tryz.underlying39 hi iz .i64 .i64 (k : Int) (k : Int) (by omega) (by omega) (by rw [isz]; simp; omega) (by rw [iby]; omega) (by omega)
      simp only [Int.toNat_natCast] at this
      rw [hZ] at this
      exact this
    have hZl : Z.toList = (List.replicate k (0 : Int)).map (.int .i64) := by rw [← hZ, isz, Nat.mul_one]; have := toList_madeCells_one (.int .i64 0) k; rw [List.map_replicate]; exact this
    clear hZ
    obtain ⟨C, hC⟩ : ∃ C, ((w.alloc (.cells #[.bool b, .slice (some ad) len cap] 153)).alloc (.cells #[.bool false, .slice none 0 0] 153)).alloc (.cells Z 3) = C := ⟨_, rfl⟩
    have hbC : Below w.heap.size w C := by rw [← hC]; exact bel3 _ _ _ _
    have hzC : C.heap.size = w.heap.size + 3 := by rw [← hC]; simp
    have P1 : C.heap[w.heap.size + 1]? = some (.cells #[.bool false, .slice none 0 0] 153 (0, 0)) := by
      rw [← hC, Below.heap_alloc _ _ _ (by simp)]
      have := heap_alloc_new (w.alloc (.cells #[.bool b, .slice (some ad) len cap] 153)) (.cells #[.bool false, .slice none 0 0] 153)
      simpa using this
    have P0 : C.cell? ⟨w.heap.size, 0, none⟩ = some (.bool b) := by rw [← hC]; exact cell_old (cell_old (by rw [cell_new]; rfl) _) _
    have Hholds : Hid (∀ b', some (⟨w.heap.size + 2, 0, none⟩ : Addr) = some b' → ∀ (j : Nat) u, ((List.replicate k (0 : Int)).map (Value.int .i64))[j]? = some u → (((w.alloc (.cells #[.bool b, .slice (some ad) len cap] 153)).alloc (.cells #[.bool false, .slice none 0 0] 153)).alloc (.cells Z 3)).drew.cell? (b'.add j) = some u) := fun b' hb' j u hu => by
      cases hb'
      exact new_cells2 _ _ _ _ (by simp) j u (by rw [hZl]; exact hu)
    have Hc : Hid (∀ (j : Nat) u, (D.map (Value.int .i64))[j]? = some u → (((w.alloc (.cells #[.bool b, .slice (some ad) len cap] 153)).alloc (.cells #[.bool false, .slice none 0 0] 153)).alloc (.cells Z 3)).drew.cell? (ad.add j) = some u) := fun j u hu => by
      rw [List.getElem?_map] at hu
      obtain ⟨x, hx, rfl⟩ := Option.map_eq_some_iff.1 hu
      obtain ⟨ad', e, _, hat⟩ := h1.2.2 j x hx
      cases e
      exact cell_old (cell_old (cell_old hat _) _) _
    have H1c : Hid (∀ u, u ∈ D.map (Value.int .i64) → u.oneCell' = true) := fun u hu => by
      obtain ⟨x, _, rfl⟩ := List.mem_map.1 hu
      rfl
    have Hl : Hid ((D.map (Value.int .i64)).length = len * 1) := by show _ = _; simp [hlen.out]
    have Hfin : Hid (∀ v' w', w'.ownsRow (((w.alloc (.cells #[.bool b, .slice (some ad) len cap] 153)).alloc (.cells #[.bool false, .slice none 0 0] 153)).alloc (.cells Z 3)).drew.heap.size 3 1 v' (k + len) ((List.replicate k (0 : Int)).map (Value.int .i64) ++ D.map (Value.int .i64)) → (((w.alloc (.cells #[.bool b, .slice (some ad) len cap] 153)).alloc (.cells #[.bool false, .slice none 0 0] 153)).alloc (.cells Z 3)).drew.grownBy w' none →
        ∃ A' cap', v' = .slice A' (k + len) cap' ∧ w'.cell? ⟨w.heap.size, 0, none⟩ = some (.bool b) ∧ w'.cell? ⟨w.heap.size + 1, 0, none⟩ = some (.bool false) ∧ w'.cell? ⟨w.heap.size + 1, 1, none⟩ = some (.slice none 0 0) ∧ w'.frozen? ⟨w.heap.size + 1, 0, none⟩ = false ∧ w'.frozen? ⟨w.heap.size + 1, 1, none⟩ = false ∧
          Hid (Below w.heap.size w w' ∧ w.heap.size + 3 ≤ w'.heap.size ∧ k + len ≤ cap' ∧ cap' ≤ maxLen ∧ ∀ (i : Nat) x, (List.replicate k (0 : Int) ++ D)[i]? = some x → ∃ ad' : Addr, A' = some ad' ∧ w.heap.size + 3 ≤ ad'.block ∧ ad'.block < w'.heap.size ∧ w'.cell? (ad'.add i) = some (.int .i64 x))) := fun v' w' ho hg => by
      rw [hC] at ho hg
      rw [← List.map_append] at ho
      obtain ⟨A', cap', hv', p1, p2, p3, p4⟩ := own_crow ho (by simp [hlen.out])
      have Q : w'.heap[w.heap.size + 1]? = some (.cells #[.bool false, .slice none 0 0] 153 (0, 0)) := (hg.block _ (by show _ < C.heap.size; omega) (by simp)).trans P1
      have c0 := cell_of_row w' (w.heap.size + 1) 0 _ _ _ Q
      have c1 := cell_of_row w' (w.heap.size + 1) 1 _ _ _ Q
      refine ⟨A', cap', hv', (World.cell?_of_block (hg.block w.heap.size (by show _ < C.heap.size; omega) (by simp))).trans P0, by simpa using c0, by simpa using c1, by simp [World.frozen?, Q], by simp [World.frozen?, Q], ?_, ?_, p1, p2, fun i x hx => ?_⟩
      · exact ⟨hg.os.trans hbC.os, hg.tape.trans hbC.tape, hg.output.trans hbC.output, Nat.le_trans hbC.size hg.size, fun q hq => (hg.block q (by show _ < C.heap.size; omega) (by simp)).trans (hbC.block q hq)⟩
      · have := hg.size; have e : C.drew.heap.size = C.heap.size := rfl; omega
      · obtain ⟨ad', q1, _, q2, q3, q4⟩ := p4 i x hx
        have e : C.drew.heap.size = C.heap.size := rfl
        exact ⟨ad', q1, by omega, q3, q4⟩
    have HR : Hid (tenS D k = List.replicate k 0 ++ D) := by
      show _ = _
      unfold tenS
      rw [if_neg (fun e => h0 (by rw [← hlen.out, e]; rfl))]
    clear hC hzC P1 P0 hbC h1
    go_enter Tryz.func131, Tryz.ntmps131
    go_wp2
    go_region_law (refine step_append_grows rfl (.tmp 13) (.tmp 15) 39 rfl 3 i0 (.int .i64 0) 1 8 Tryz.underlying39 hi iz isz iby rfl (by decide) (some ⟨w.heap.size + 2, 0, none⟩) k k ((List.replicate k (0 : Int)).map (.int .i64)) (by simp [Act.eval]) (fun h => by cases h) (by simp) Hholds.out ad len cap (D.map (.int .i64)) (by simp [Act.eval]) Hl.out Hc.out H1c.out (by omega) (by unfold maxLen; omega) (by omega) ?_; intro v' w' hown hgrow; obtain ⟨A', cap', hv', cb, c0, c1, f0, f1, Hend⟩ := Hfin.out v' w' hown hgrow; subst hv'; clear hown hgrow)
    all_goals
      go_wp2
      refine bodyPost_ret (v := .agg #[.bool b, .slice A' (k + len) cap']) (by simp [results, Tryz.results131, go_sem, *]) rfl ?_
      obtain ⟨q1, q2, q3, q4, q5⟩ := Hend.out
      have hkeep : ∀ q, w.heap.size + 2 ≤ q → ((w'.setCell ⟨w.heap.size + 1, 0, none⟩ (.bool b)).setCell ⟨w.heap.size + 1, 1, none⟩ (.slice A' (k + len) cap')).heap[q]? = w'.heap[q]? := fun q hq => by
        rw [Below.heap_setCell _ _ _ _ (by simp; omega), Below.heap_setCell _ _ _ _ (by simp; omega)]
      have hbel : Below w.heap.size w ((w'.setCell ⟨w.heap.size + 1, 0, none⟩ (.bool b)).setCell ⟨w.heap.size + 1, 1, none⟩ (.slice A' (k + len) cap')) := (q1.setCell (by simp) _).setCell (by simp) _
      obtain ⟨W', hW'⟩ : ∃ W', (w'.setCell ⟨w.heap.size + 1, 0, none⟩ (.bool b)).setCell ⟨w.heap.size + 1, 1, none⟩ (.slice A' (k + len) cap') = W' := ⟨_, rfl⟩
      have hzW' : W'.heap.size = w'.heap.size := by rw [← hW']; simp [World.setCell]
      rw [hW'] at hkeep hbel ⊢
      have hl : (tenS D k).length = k + len := by rw [HR.out]; simp [hlen.out]
      refine ⟨A', cap', by rw [hl], hbel, ⟨by rw [hl]; exact q3, q4, fun i x hx => ?_⟩, fun ad1 hA hne => ?_⟩
      · rw [HR.out] at hx
        obtain ⟨ad', e1, e2, e3, e4⟩ := q5 i x hx
        exact ⟨ad', e1, by omega, (World.cell?_of_block (hkeep _ (by rw [block_add]; omega))).trans e4⟩
      · rw [HR.out] at hne
        obtain ⟨ad', e1, e2, _⟩ := q5 0 _ (List.getElem?_eq_getElem (List.length_pos_iff.2 hne))
        rw [hA] at e1
        cases e1
        omega
end Go.Proofs.YthijagpnpcpcbaaGreat

