/-
  cmp.Or; slices.CompareFunc at a function that compares values.
-/
import Derived.Test.YtcdaipkkddgbeaaQData3
import Derived.Test.YtcdaipkkddgbeaaQSoK
namespace Go.Proofs.Ytcdaipkkddgbeaa
open Go.RowKit
/-- The first that is not 0. -/
def orL : List Int → Int
  | [] => 0
  | x :: r => orC x (orL r)
set_option maxRecDepth 100000 in
set_option maxHeartbeats 1000000 in
theorem cmpOr_any (bk n cap : Nat) (L : List Int) (w : World) (hn : L.length = n) (hm : n ≤ 1000) (hc : ∀ j x, L[j]? = some x → w.cell? ⟨bk, j, none⟩ = some (.int .i64 x)) :
    Calls Try.prog 45 #[.slice (some ⟨bk, 0, none⟩) n cap] w fun e w' => e = .returned (.int .i64 (orL L)) ∧ w' = w := by
  have Hc := Lib.hid hc
  have Hn := Lib.hid hn
  clear hc hn
  go_enter Try.func45, Try.ntmps45
  go_wp2
  go_loop [8] (fun i => ∃ j : Nat, j ≤ n ∧ i = .int .i64 j ∧ Hid (orL (L.drop j) = orL L)) (fun i => n - (intOf i).toNat)
  case atStart => exact ⟨0, Nat.zero_le _, rfl, rfl⟩
  case round =>
    obtain ⟨j, hj, rfl, hO⟩ := hrel
    by_cases hlt : j < n
    · obtain ⟨x, hx⟩ : ∃ x, L[j]? = some x := ⟨_, List.getElem?_eq_getElem (by rw [Hn.out]; exact hlt)⟩
      have c1 := Hc.out j x hx
      have hd := drop_of_get? hx
      by_cases h0 : x = 0
      · subst h0
        have hO2 : Hid (orL (L.drop (j + 1)) = orL L) := by
          have := hO.out
          rw [hd] at this
          exact this
        clear hx hd
        go_wp2
        go_round
        case rel => exact ⟨j + 1, by omega, by go_num, hO2⟩
        case measure => simp [intOf]; omega
      · have hO2 : Hid (x = orL L) := by
          have := hO.out
          have e : orL (x :: L.drop (j + 1)) = x := by show orC x _ = x; unfold orC; rw [if_neg h0]
          rw [hd, e] at this
          exact this
        have hb : (x != 0) = true := by simpa using h0
        clear hx hd
        go_wp2
        go_ret
        exact ⟨by rw [← hO2.out]; rfl, rfl⟩
    · have hO2 : Hid (0 = orL L) := by
        have := hO.out
        rw [List.drop_eq_nil_of_le (by rw [Hn.out]; omega)] at this
        exact this
      go_wp2
      go_ret
      exact ⟨by rw [← hO2.out]; rfl, rfl⟩
theorem drop_len {l : List VT} {j : Nat} (h : l.length ≤ j) : l.drop j = [] := List.drop_eq_nil_of_le h
/-- A function value that compares values of a list with values of another. -/
abbrev cmpVF : Value := .func (.func 37) #[] #[]
set_option maxRecDepth 100000 in
set_option maxHeartbeats 2000000 in
theorem compareFunc_any (A1 A2 : Option Addr) (c1 c2 B : Nat) (l r : List VT) (w : World) (h1 : VT.Rows B w A1 c1 l) (h2 : VT.Rows B w A2 c2 r) (hB : B ≤ w.heap.size)
    (ih : ∀ x y (W : World), x ∈ l → VT.In B W x → VT.In B W y → B ≤ W.heap.size → Calls Try.prog 37 #[.agg #[.int .i64 x.a.k, .int .i64 x.a.n, .int .i64 x.a.sc, .string x.a.s, .slice x.a.A x.l.length x.a.cap], .agg #[.int .i64 y.a.k, .int .i64 y.a.n, .int .i64 y.a.sc, .string y.a.s, .slice y.a.A y.l.length y.a.cap]] W fun e w' => e = .returned (.int .i64 (cmpV x y)) ∧ Below W.heap.size W w') :
    Calls Try.prog 36 #[.slice A1 l.length c1, .slice A2 r.length c2, cmpVF] w fun e w' => e = .returned (.int .i64 (cmpVs l r)) ∧ Below w.heap.size w w' := by
  obtain ⟨n, hn⟩ : ∃ n, l.length = n := ⟨_, rfl⟩
  obtain ⟨m, hm⟩ : ∃ m, r.length = m := ⟨_, rfl⟩
  have hn2 : n ≤ 9223372036854775807 := by rw [← hn]; exact Nat.le_trans h1.1.1 h1.1.2.1
  have hm2 : m ≤ 9223372036854775807 := by rw [← hm]; exact Nat.le_trans h2.1.1 h2.1.2.1
  rw [hn, hm]
  have Hn := Lib.hid hn
  have Hm := Lib.hid hm
  have H1 := Lib.hid h1
  have H2 := Lib.hid h2
  have Ih := Lib.hid ih
  clear hn hm h1 h2 ih
  go_enter Try.func36, Try.ntmps36
  go_wp2
  go_loopw [13] (fun i wr => ∃ j : Nat, j ≤ n ∧ j ≤ m ∧ i = .int .i64 j ∧ Below w.heap.size w wr ∧ Hid (cmpVs (l.drop j) (r.drop j) = cmpVs l r)) (fun i _ => n - (intOf i).toNat)
  case atStart => exact ⟨0, Nat.zero_le _, Nat.zero_le _, rfl, Below.refl _ _, rfl⟩
  case round =>
    obtain ⟨j, hj, hjm, rfl, hb, hO⟩ := hrel
    by_cases hlt : j < n
    · have hS := Same.mono (Same.of_below hb) hB
      obtain ⟨x, ad, hx, rfl, hab, d0, d1, d2, d3, d4⟩ := (H1.out.1.keep hS).get (show j < l.length by rw [Hn.out]; exact hlt)
      have hdx := drop_of_get? hx
      by_cases hlm : j < m
      · obtain ⟨y, ad2, hy, rfl, hab2, g0, g1, g2, g3, g4⟩ := (H2.out.1.keep hS).get (show j < r.length by rw [Hm.out]; exact hlm)
        have hdy := drop_of_get? hy
        have hszr : B ≤ wr.heap.size := Nat.le_trans hB hb.size
        have gA : ∀ o, VT.At (wr.alloc o) (ad2.add (j * 5)) y := fun o => VT.At.keep ⟨g0, g1, g2, g3, g4⟩ ((Same.refl B wr).alloc hszr o) (by rw [block_add]; exact hab2)
        have a0 := fun o => (gA o).1
        have a1 := fun o => (gA o).2.1
        have a2 := fun o => (gA o).2.2.1
        have a3 := fun o => (gA o).2.2.2.1
        have a4 := fun o => (gA o).2.2.2.2
        obtain ⟨W5, hW5⟩ : ∃ W5, (wr.alloc (.cells #[.int .i64 x.a.k, .int .i64 x.a.n, .int .i64 x.a.sc, .string x.a.s, .slice x.a.A x.l.length x.a.cap] 33)).alloc (.cells #[.int .i64 y.a.k, .int .i64 y.a.n, .int .i64 y.a.sc, .string y.a.s, .slice y.a.A y.l.length y.a.cap] 33) = W5 := ⟨_, rfl⟩
        have hb5 : Below wr.heap.size wr W5 := by rw [← hW5]; exact ((Below.refl _ _).alloc (Nat.le_refl _) _).alloc (by simp) _
        have hbw5 := hb.trans (hb5.mono hb.size)
        have hS5 := Same.mono (Same.of_below hbw5) hB
        have hcp := Lib.hid (Ih.out x y W5 (mem_of_get? hx) ((H1.out.2 x (mem_of_get? hx)).keep hS5) ((H2.out.2 y (mem_of_get? hy)).keep hS5) (Nat.le_trans hB hbw5.size))
        have hsg := cmpV_sgn x y
        have hO2 : Hid (orC (cmpV x y) (cmpVs (l.drop (j + 1)) (r.drop (j + 1))) = cmpVs l r) := by
          have := hO.out
          rw [hdx, hdy] at this
          exact this
        have HW5 := Lib.hid hW5
        generalize cmpV x y = c at *
        clear hW5 hx hy hdx hdy hS hS5 hO gA g0 g1 g2 g3 g4
        by_cases h0 : c = 0
        · subst h0
          have hO3 : Hid (cmpVs (l.drop (j + 1)) (r.drop (j + 1)) = cmpVs l r) := hO2.out
          clear hO2 hsg
          go_wp2_with fail
          rw [HW5.out]
          refine hcp.out.mono ?_
          rintro e w6 ⟨rfl, hb6⟩
          have hb66 := hbw5.trans (hb6.mono hbw5.size)
          clear hcp
          go_wp2
          go_roundw
          case rel => exact ⟨j + 1, by omega, by omega, by go_num, hb66, hO3⟩
          case measure => simp [intOf]; omega
        · have hO3 : Hid (c = cmpVs l r) := by
            have := hO2.out
            unfold orC at this
            rw [if_neg h0] at this
            exact this
          have hne : (c != 0) = true := by simpa using h0
          clear hO2 hsg
          go_wp2_with fail
          rw [HW5.out]
          refine hcp.out.mono ?_
          rintro e w6 ⟨rfl, hb6⟩
          have hb66 := hbw5.trans (hb6.mono hbw5.size)
          clear hcp
          go_wp2
          go_ret
          exact ⟨by rw [← hO3.out]; rfl, hb66⟩
      · obtain rfl : j = m := by omega
        have hO2 : Hid (1 = cmpVs l r) := by
          have := hO.out
          rw [hdx, drop_len (l := r) (by rw [Hm.out]; exact Nat.le_refl _)] at this
          exact this
        have hb5 : ∀ o, Below w.heap.size w (wr.alloc o) := fun o => hb.trans (((Below.refl _ wr).alloc (Nat.le_refl _) o).mono hb.size)
        have Hb5 := Lib.hid hb5
        clear hx hdx hS hO hb5
        go_wp2
        go_ret
        exact ⟨by rw [← hO2.out]; rfl, Hb5.out _⟩
    · obtain rfl : j = n := by omega
      have hO1 := hO.out
      rw [drop_len (l := l) (by rw [Hn.out]; exact Nat.le_refl _)] at hO1
      by_cases hlm : j < m
      · have hO2 : Hid (-1 = cmpVs l r) := by
          rw [List.drop_eq_getElem_cons (show j < r.length by rw [Hm.out]; exact hlm)] at hO1
          exact hO1
        clear hO1 hO
        go_wp2
        go_ret
        exact ⟨by rw [← hO2.out]; rfl, hb⟩
      · have hO2 : Hid (0 = cmpVs l r) := by
          rw [drop_len (l := r) (by rw [Hm.out]; omega)] at hO1
          exact hO1
        clear hO1 hO
        go_wp2
        go_ret
        exact ⟨by rw [← hO2.out]; rfl, hb⟩
end Go.Proofs.Ytcdaipkkddgbeaa
