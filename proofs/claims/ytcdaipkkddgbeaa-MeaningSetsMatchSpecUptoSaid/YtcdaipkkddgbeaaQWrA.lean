/-
  The reference of package value: order, texts, rows of digits compared.
-/
import Derived.Test.YtcdaipkkddgbeaaQSoB
import Derived.Test.YtcdaipkkddgbeaaQGrw
import Derived.Test.YtcdaipkkddgbeaaQStill
import Derived.Test.YtcdaipkkddgbeaaQRefA0
import Derived.Deep.QuietTactic
import Derived.BigQuiet
namespace Go.Proofs.Ytcdaipkkddgbeaa
open Go.RowKit
theorem below_dN (w : World) (q : Nat) : Below w.heap.size w (w.drewN q) := ⟨rfl, rfl, rfl, Nat.le_refl _, fun _ _ => rfl⟩
theorem rorder_any (a b : Int) (w : World) : Calls Try.prog 21 #[.int .i64 a, .int .i64 b] w fun e w' => e = .returned (.int .i64 (ordI a b)) ∧ w = w' := by
  by_cases h : a < b
  · have e : ordI a b = -1 := by unfold ordI; rw [if_pos h]
    rw [e]
    go_enter Try.func21, Try.ntmps21
    go_wp2
    go_ret
    exact ⟨rfl, rfl⟩
  · by_cases h2 : b < a
    · have e : ordI a b = 1 := by unfold ordI; rw [if_neg h, if_pos h2]
      rw [e]
      go_enter Try.func21, Try.ntmps21
      go_wp2
      go_ret
      exact ⟨rfl, rfl⟩
    · have e : ordI a b = 0 := by unfold ordI; rw [if_neg h, if_neg h2]
      rw [e]
      go_enter Try.func21, Try.ntmps21
      go_wp2
      go_ret
      exact ⟨rfl, rfl⟩
theorem rorder_q (a b : Int) (w : World) : Calls Try.prog 21 #[.int .i64 a, .int .i64 b] w fun e w' => e = .returned (.int .i64 (ordI a b)) ∧ w' = w :=
  (rorder_any a b w).mono fun _ _ h => ⟨h.1, h.2.symm⟩
theorem drop_cons {α : Type} {l : List α} {j : Nat} (h : j < l.length) : l.drop j = l[j] :: l.drop (j + 1) := List.drop_eq_getElem_cons h
theorem cmpL_end (l r : List UInt8) (j : Nat) (h : l.length = j ∨ r.length = j) (hl : j ≤ l.length) (hr : j ≤ r.length) : cmpL (l.drop j) (r.drop j) = ordI l.length r.length := by
  unfold ordI
  by_cases h1 : j < l.length
  · have h2 : r.length = j := by omega
    rw [List.drop_of_length_le (l := r) (i := j) (by omega), drop_cons h1, if_neg (by omega), if_pos (by omega)]
    rfl
  · rw [List.drop_of_length_le (l := l) (i := j) (by omega)]
    by_cases h2 : j < r.length
    · rw [drop_cons h2, if_pos (by omega)]
      rfl
    · rw [List.drop_of_length_le (l := r) (i := j) (by omega), if_neg (by omega), if_neg (by omega)]
      rfl
theorem cmpL_at (s t : ByteArray) (j : Nat) (h1 : j < s.size) (h2 : j < t.size) : cmpL (s.data.toList.drop j) (t.data.toList.drop j) = orC (ordI (s[j].toNat : Int) (t[j].toNat : Int)) (cmpL (s.data.toList.drop (j + 1)) (t.data.toList.drop (j + 1))) := by
  have e1 : j < s.data.toList.length := by rw [Array.length_toList]; exact h1
  have e2 : j < t.data.toList.length := by rw [Array.length_toList]; exact h2
  rw [drop_cons e1, drop_cons e2]
  simp only [cmpL]
  rfl
set_option maxRecDepth 100000 in
set_option maxHeartbeats 1000000 in
theorem rtexts_any (s t : ByteArray) (w : World) (hs : s.size ≤ maxLen) (_ht : t.size ≤ maxLen) : Calls Try.prog 23 #[.string s, .string t] w fun e w' => e = .returned (.int .i64 (cmpL s.data.toList t.data.toList)) ∧ Below w.heap.size w w' := by
  unfold maxLen at hs _ht
  have ho := Lib.hid (fun a b W => rorder_any a b W)
  obtain ⟨C, hC⟩ : ∃ C, cmpL s.data.toList t.data.toList = C := ⟨_, rfl⟩
  rw [hC]
  have HC : Hid (cmpL (s.data.toList.drop 0) (t.data.toList.drop 0) = C) := hC
  clear hC
  go_enter Try.func23, Try.ntmps23
  go_wp2
  go_loopw [5] (fun i wr => ∃ j : Nat, j ≤ s.size ∧ j ≤ t.size ∧ i = .int .i64 j ∧ Below w.heap.size w wr ∧ cmpL (s.data.toList.drop j) (t.data.toList.drop j) = C) (fun i _ => s.size - (intOf i).toNat)
  case atStart => exact ⟨0, Nat.zero_le _, Nat.zero_le _, rfl, Below.refl _ _, HC.out⟩
  case round =>
    obtain ⟨j, hj, hj2, rfl, hbr, hc⟩ := hrel
    have Hc := Lib.hid hc
    clear hc
    by_cases hlt : j < s.size
    · by_cases hlt2 : j < t.size
      · have hat := cmpL_at s t j hlt hlt2
        rw [Hc.out] at hat
        obtain ⟨c, hcc⟩ : ∃ c : Nat, s[j].toNat = c := ⟨_, rfl⟩
        obtain ⟨d, hdd⟩ : ∃ c : Nat, t[j].toNat = c := ⟨_, rfl⟩
        rw [hcc, hdd] at hat
        have Hat := Lib.hid hat
        have b1 : c < 256 := by rw [← hcc]; exact s[j].toNat_lt
        have b2 : d < 256 := by rw [← hdd]; exact t[j].toNat_lt
        clear hat
        by_cases hcd : c = d
        · subst hcd
          go_wp2_with fail
          go_quiet (fail)
          go_wp2
          go_roundw
          case rel =>
            refine ⟨j + 1, by omega, by omega, by go_num, hbr.trans ((below_dN _ _).mono hbr.size), ?_⟩
            have := Hat.out
            unfold ordI orC at this
            simpa using this.symm
          case measure => simp [intOf]; omega
        · have hne : ((c : Int) != (d : Int)) = true := by simp; omega
          have w1 : IntKind.i64.wrap (c : Int) = (c : Int) := IntWalk.i64_in _ ⟨by omega, by omega⟩
          have w2 : IntKind.i64.wrap (d : Int) = (d : Int) := IntWalk.i64_in _ ⟨by omega, by omega⟩
          go_wp2_with fail
          go_quiet (fail)
          generalize hW2 : World.drewN _ _ = W2
          have hb2 : Below wr.heap.size wr W2 := by rw [← hW2]; exact below_dN _ _
          clear hW2
          go_wp2_with fail
          go_quiet ((go_at_call 21; exact Calls.quiet_of_same (rorder_q _ _ _)))
          go_wp2_with fail
          go_ret
          refine ⟨?_, hbr.trans ((hb2.trans ((below_dN _ _).mono hb2.size)).mono hbr.size)⟩
          have := Hat.out
          have e : ordI (c : Int) (d : Int) ≠ 0 := by unfold ordI; repeat' split <;> omega
          unfold orC at this
          rw [if_neg e] at this
          rw [this]
          rfl
      · have e := cmpL_end s.data.toList t.data.toList j (.inr (by rw [Array.length_toList]; show t.size = j; omega)) (by rw [Array.length_toList]; exact hj) (by rw [Array.length_toList]; exact hj2)
        rw [Hc.out, Array.length_toList, Array.length_toList] at e
        have He : Hid (C = ordI s.size t.size) := e
        clear e
        go_wp2_with fail
        refine (ho.out _ _ _).mono ?_
        rintro e w' ⟨rfl, rfl⟩
        go_wp2
        go_ret
        exact ⟨by rw [He.out]; rfl, hbr⟩
    · have e := cmpL_end s.data.toList t.data.toList j (.inl (by rw [Array.length_toList]; show s.size = j; omega)) (by rw [Array.length_toList]; exact hj) (by rw [Array.length_toList]; exact hj2)
      rw [Hc.out, Array.length_toList, Array.length_toList] at e
      have He : Hid (C = ordI s.size t.size) := e
      clear e
      go_wp2_with fail
      refine (ho.out _ _ _).mono ?_
      rintro e w' ⟨rfl, rfl⟩
      go_wp2
      go_ret
      exact ⟨by rw [He.out]; rfl, hbr⟩
/-- What most says. -/
def MostOk (D E : List Int) (r : Int) : Prop :=
  (D.length ≠ E.length ∧ r = (D.length : Int) - (E.length : Int)) ∨ (D.length = E.length ∧ ((D = E ∧ r = 0) ∨ ∃ (i : Nat) (x y : Int), D[i]? = some x ∧ E[i]? = some y ∧ x ≠ y ∧ r = x - y ∧ D.drop (i + 1) = E.drop (i + 1)))
/-- Digits. -/
def Dig (D : List Int) : Prop := ∀ x, x ∈ D → 0 ≤ x ∧ x ≤ 9
set_option maxRecDepth 100000 in
set_option maxHeartbeats 1000000 in
theorem rmost_any (A A2 : Option Addr) (cap cap2 len len2 : Nat) (D E : List Int) (B : Nat) (w : World) (h1 : CRow (.int .i64) B w A cap D) (h2 : CRow (.int .i64) B w A2 cap2 E) (hB : B ≤ w.heap.size) (hlen : Hid (D.length = len)) (hlen2 : Hid (E.length = len2)) (hd : Dig D) (he : Dig E) :
    Calls Try.prog 39 #[.slice A len cap, .slice A2 len2 cap2] w fun e w' => ∃ r : Int, e = .returned (.int .i64 r) ∧ -9223372036854775807 ≤ r ∧ r ≤ 9223372036854775807 ∧ MostOk D E r ∧ Below w.heap.size w w' := by
  have hll : len ≤ 9223372036854775807 := by rw [← hlen.out]; exact Nat.le_trans h1.1 h1.2.1
  have hll2 : len2 ≤ 9223372036854775807 := by rw [← hlen2.out]; exact Nat.le_trans h2.1 h2.2.1
  by_cases hne : len = len2
  · subst hne
    have Hd := Lib.hid hd
    have He := Lib.hid he
    have H1 := Lib.hid h1
    have H2 := Lib.hid h2
    clear hd he h1 h2
    go_enter Try.func39, Try.ntmps39
    go_wp2
    go_loopw [5] (fun i wr => ∃ j : Nat, j ≤ len ∧ i = .int .i64 ((j : Int) - 1) ∧ Below w.heap.size w wr ∧ D.drop j = E.drop j) (fun i _ => (intOf i + 1).toNat)
    case atStart => exact ⟨len, Nat.le_refl _, rfl, Below.refl _ _, by rw [List.drop_eq_nil_of_le (by rw [hlen.out]; exact Nat.le_refl _), List.drop_eq_nil_of_le (by rw [hlen2.out]; exact Nat.le_refl _)]⟩
    case round =>
      obtain ⟨j, hj, rfl, hbr, hdr⟩ := hrel
      have Hdr := Lib.hid hdr
      clear hdr
      by_cases hlt : 0 < j
      · obtain ⟨j, rfl⟩ : ∃ i, j = i + 1 := ⟨j - 1, by omega⟩
        rw [show ((j + 1 : Nat) : Int) - 1 = (j : Int) by omega]
        have hSr := Same.mono (Same.of_below hbr) hB
        obtain ⟨x, ad, hx, rfl, hb, d0⟩ := (H1.out.keep hSr).get (show j < D.length by rw [hlen.out]; omega)
        obtain ⟨y, ad2, hy, rfl, hb2, c0⟩ := (H2.out.keep hSr).get (show j < E.length by rw [hlen2.out]; omega)
        have hxd := Hd.out x (List.mem_of_getElem? hx)
        have hye := He.out y (List.mem_of_getElem? hy)
        have Hx := Lib.hid hx
        have Hy := Lib.hid hy
        have hjl : j < len := by omega
        clear hx hy
        by_cases hxy : x = y
        · subst hxy
          go_wp2_with fail
          go_quiet (fail)
          go_wp2
          go_roundw
          case rel =>
            refine ⟨j, by omega, rfl, hbr.trans ((below_dN _ _).mono hbr.size), ?_⟩
            obtain ⟨q1, q2⟩ := List.getElem?_eq_some_iff.1 Hx.out
            obtain ⟨q3, q4⟩ := List.getElem?_eq_some_iff.1 Hy.out
            rw [drop_cons q1, drop_cons q3, q2, q4, Hdr.out]
          case measure => simp [intOf]
        · have hne : (x != y) = true := by simpa using hxy
          have w1 : IntKind.i64.wrap (x - y) = x - y := IntWalk.i64_in _ ⟨by omega, by omega⟩
          have Hne := Lib.hid hxy
          clear hxy
          go_wp2_with fail
          go_quiet (fail)
          generalize hW2 : World.drewN _ _ = W2
          have hb2 : Below wr.heap.size wr W2 := by rw [← hW2]; exact below_dN _ _
          clear hW2
          have e0 := (hb2.cell (block_lt_of_cell d0)).trans d0
          have e1 := (hb2.cell (block_lt_of_cell c0)).trans c0
          clear d0 c0
          go_wp2_with fail
          go_quiet (fail)
          go_wp2_with fail
          go_ret
          exact ⟨x - y, rfl, by omega, by omega, .inr ⟨by rw [hlen.out, hlen2.out], .inr ⟨j, x, y, Hx.out, Hy.out, Hne.out, rfl, Hdr.out⟩⟩, hbr.trans ((hb2.trans ((below_dN _ _).mono hb2.size)).mono hbr.size)⟩
      · obtain rfl : j = 0 := by omega
        go_wp2
        go_ret
        exact ⟨0, rfl, by omega, by omega, .inr ⟨by rw [hlen.out, hlen2.out], .inl ⟨Hdr.out, rfl⟩⟩, hbr⟩
  · have hne2 : ((len : Int) != (len2 : Int)) = true := by simp; omega
    have w1 : IntKind.i64.wrap ((len : Int) - (len2 : Int)) = (len : Int) - (len2 : Int) := IntWalk.i64_in _ ⟨by omega, by omega⟩
    have Hne := Lib.hid hne
    clear hne hd he h1 h2
    go_enter Try.func39, Try.ntmps39
    go_wp2
    go_ret
    exact ⟨(len : Int) - (len2 : Int), rfl, by omega, by omega, .inl ⟨by rw [hlen.out, hlen2.out]; exact Hne.out, by rw [hlen.out, hlen2.out]⟩, Below.refl _ _⟩
end Go.Proofs.Ytcdaipkkddgbeaa
