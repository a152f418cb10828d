/-
  The reference of package value: wide numbers compared.
-/
import Derived.Test.YtcdaipkkddgbeaaQWrD
import Derived.Deep.DeepCutAuto
namespace Go.Proofs.Ytcdaipkkddgbeaa
open Go.RowKit
/-- What digits say, the least first. -/
def valL : List Int → Int
  | [] => 0
  | d :: r => d + 10 * valL r
theorem Dig.tail {x : Int} {l : List Int} (h : Dig (x :: l)) : Dig l := fun y hy => h y (by simp [hy])
theorem val_bound : ∀ {D : List Int}, Dig D → 0 ≤ valL D ∧ valL D < (10 : Int) ^ D.length
  | [], _ => ⟨Int.le_refl _, by decide⟩
  | x :: l, h => by
    obtain ⟨h1, h2⟩ := val_bound h.tail
    obtain ⟨h3, h4⟩ := h x (by simp)
    rw [List.length_cons, Int.pow_succ]
    show 0 ≤ x + 10 * valL l ∧ x + 10 * valL l < _
    omega
theorem val_low : ∀ {D : List Int}, Dig D → D ≠ [] → D.getLast? ≠ some 0 → (10 : Int) ^ (D.length - 1) ≤ valL D
  | [], _, h, _ => absurd rfl h
  | [x], h, _, hl => by
    obtain ⟨h3, h4⟩ := h x (by simp)
    have : x ≠ 0 := fun e => hl (by rw [e]; rfl)
    show (10 : Int) ^ 0 ≤ x + 10 * 0
    rw [Int.pow_zero]
    omega
  | x :: y :: l, h, _, hl => by
    have h1 := val_low h.tail (by simp) (by rw [List.getLast?_cons_cons] at hl; exact hl)
    obtain ⟨h3, h4⟩ := h x (by simp)
    rw [show (x :: y :: l).length - 1 = ((y :: l).length - 1) + 1 by simp, Int.pow_succ]
    show _ ≤ x + 10 * valL (y :: l)
    omega
theorem val_split : ∀ {D : List Int} {i : Nat} {x : Int}, D[i]? = some x → valL D = valL (D.take i) + (10 : Int) ^ i * (x + 10 * valL (D.drop (i + 1)))
  | [], i, x, h => by simp at h
  | d :: l, 0, x, h => by
    simp at h
    subst h
    simp [valL]
  | d :: l, i + 1, x, h => by
    have ih := val_split (D := l) (i := i) (by simpa using h)
    show d + 10 * valL l = d + 10 * valL (l.take i) + _
    rw [ih, Int.pow_succ, List.drop_succ_cons, Int.mul_add, ← Int.mul_assoc, Int.mul_comm 10 ((10 : Int) ^ i)]
    omega
theorem Dig.take {D : List Int} (h : Dig D) (i : Nat) : Dig (D.take i) := fun x hx => h x (List.mem_of_mem_take hx)
theorem pow_pos10 (i : Nat) : (0 : Int) < (10 : Int) ^ i := Int.pow_pos (by decide)
theorem most_lt {D E : List Int} {i : Nat} {x y : Int} (hD : Dig D) (hE : Dig E) (hx : D[i]? = some x) (hy : E[i]? = some y) (hlt : x < y) (hd : D.drop (i + 1) = E.drop (i + 1)) : valL D < valL E := by
  rw [val_split hx, val_split hy, hd]
  obtain ⟨a1, a2⟩ := val_bound (hD.take i)
  obtain ⟨b1, b2⟩ := val_bound (hE.take i)
  have li : i < D.length := (List.getElem?_eq_some_iff.1 hx).1
  rw [List.length_take, Nat.min_eq_left (by omega)] at a2
  have hp := pow_pos10 i
  generalize (10 : Int) ^ i = P at *
  generalize valL (E.drop (i + 1)) = t
  have h1 : P * (x + 10 * t + 1) ≤ P * (y + 10 * t) := Int.mul_le_mul_of_nonneg_left (by omega) (by omega)
  rw [Int.mul_add P (x + 10 * t) 1] at h1
  omega
theorem len_lt {D E : List Int} (hD : Dig D) (hE : Dig E) (hl : E.getLast? ≠ some 0) (h : D.length < E.length) : valL D < valL E := by
  have h1 := (val_bound hD).2
  have h2 := val_low hE (fun e => by rw [e] at h; simp at h) hl
  have h3 : (10 : Int) ^ D.length ≤ (10 : Int) ^ (E.length - 1) := by
    have := Nat.pow_le_pow_right (show 0 < 10 by decide) (show D.length ≤ E.length - 1 by omega)
    exact_mod_cast this
  omega
theorem ordI_of_lt {a b : Int} (h : a < b) : ordI a b = -1 := by unfold ordI; rw [if_pos h]
theorem ordI_of_gt {a b : Int} (h : b < a) : ordI a b = 1 := by unfold ordI; rw [if_neg (by omega), if_pos h]
theorem ordI_self (a : Int) : ordI a a = 0 := by unfold ordI; rw [if_neg (by omega), if_neg (by omega)]
theorem most_ok {D E : List Int} {r : Int} (h : MostOk D E r) (hD : Dig D) (hE : Dig E) (lD : D.getLast? ≠ some 0) (lE : E.getLast? ≠ some 0) : ordI r 0 = ordI (valL D) (valL E) := by
  rcases h with ⟨hne, rfl⟩ | ⟨_, ⟨rfl, rfl⟩ | ⟨i, x, y, hx, hy, hne, rfl, hd⟩⟩
  · by_cases hl : D.length < E.length
    · rw [ordI_of_lt (len_lt hD hE lE hl), ordI_of_lt (by omega)]
    · rw [ordI_of_gt (len_lt hE hD lD (by omega)), ordI_of_gt (by omega)]
  · rw [ordI_self, ordI_self]
  · by_cases hl : x < y
    · rw [ordI_of_lt (most_lt hD hE hx hy hl hd), ordI_of_lt (by omega)]
    · rw [ordI_of_gt (most_lt hE hD hy hx (by omega) hd.symm), ordI_of_gt (by omega)]
theorem digF_dig : ∀ (f : Nat) (m : Int), Dig (digF f m)
  | 0, _ => fun x hx => by cases hx
  | f + 1, m => by
    rw [digF]
    split
    · exact fun x hx => by cases hx
    · intro x hx
      rcases List.mem_cons.1 hx with rfl | hx
      · rw [Int.natAbs_tmod, show Int.natAbs 10 = 10 from rfl]
        omega
      · exact digF_dig f _ x hx
theorem digF_val : ∀ (f : Nat) (m : Int), m.natAbs < 10 ^ f → valL (digF f m) = (m.natAbs : Int)
  | 0, m, h => by
    have : m.natAbs = 0 := by simpa using h
    rw [this]
    rfl
  | f + 1, m, h => by
    rw [digF]
    split
    · subst m; rfl
    · have h2 : (m.tdiv 10).natAbs < 10 ^ f := by
        rw [Int.natAbs_tdiv]
        rw [Nat.pow_succ] at h
        exact Nat.div_lt_of_lt_mul (by rw [Nat.mul_comm]; exact h)
      show ((m.tmod 10).natAbs : Int) + 10 * valL _ = _
      rw [digF_val f _ h2, Int.natAbs_tmod, Int.natAbs_tdiv]
      show ((m.natAbs % 10 : Nat) : Int) + 10 * ((m.natAbs / 10 : Nat) : Int) = _
      omega
theorem digF_last : ∀ (f : Nat) (m : Int), m.natAbs < 10 ^ f → (digF f m).getLast? ≠ some 0
  | 0, m, _ => by simp [digF]
  | f + 1, m, h => by
    rw [digF]
    split
    · simp
    · rename_i hm
      have h2 : (m.tdiv 10).natAbs < 10 ^ f := by
        rw [Int.natAbs_tdiv]
        rw [Nat.pow_succ] at h
        exact Nat.div_lt_of_lt_mul (by rw [Nat.mul_comm]; exact h)
      have ih := digF_last f _ h2
      cases hr : digF f (m.tdiv 10) with
      | nil =>
        have hv := digF_val f _ h2
        rw [hr, Int.natAbs_tdiv] at hv
        have e : m.natAbs / 10 = 0 := by
          have : (0 : Int) = ((m.natAbs / 10 : Nat) : Int) := hv
          omega
        rw [Int.natAbs_tmod]
        show some ((m.natAbs % 10 : Nat) : Int) ≠ some 0
        intro e2
        have e3 : ((m.natAbs % 10 : Nat) : Int) = 0 := Option.some.inj e2
        omega
      | cons y l =>
        rw [List.getLast?_cons_cons, ← hr]
        exact ih
theorem val_tens (k : Nat) (D : List Int) : valL (tenS D k) = valL D * (10 : Int) ^ k := by
  unfold tenS
  split
  · subst D; simp [valL]
  · induction k with
    | zero => simp
    | succ k ih =>
      rw [List.replicate_succ, List.cons_append]
      show 0 + 10 * valL _ = _
      rw [ih, Int.pow_succ]
      generalize valL D = a
      generalize (10 : Int) ^ k = P
      rw [Int.zero_add, Int.mul_comm P 10, Int.mul_left_comm]
theorem dig_tens {k : Nat} {D : List Int} (h : Dig D) : Dig (tenS D k) := by
  unfold tenS
  split
  · exact fun x hx => by cases hx
  · intro x hx
    rcases List.mem_append.1 hx with hx | hx
    · rw [(List.mem_replicate.1 hx).2]; omega
    · exact h x hx
theorem last_tens {k : Nat} {D : List Int} (h : D.getLast? ≠ some 0) : (tenS D k).getLast? ≠ some 0 := by
  unfold tenS
  split
  · simp
  · rename_i hD
    cases hl : D.getLast? with
    | none => exact absurd (List.getLast?_eq_none_iff.1 hl) hD
    | some x =>
      rw [List.getLast?_append, hl]
      rw [hl] at h
      exact h
/-- Digits of which the last is not 0. -/
def Can (D : List Int) : Prop := Dig D ∧ D.getLast? ≠ some 0
theorem can_tw {n : Int} (sc : Int) (hn : I64 n) : Can (twS n sc) ∧ valL (twS n sc) = (n.natAbs : Int) * (10 : Int) ^ (12 - sc).toNat := by
  have h : n.natAbs < 10 ^ 19 := by obtain ⟨h1, h2⟩ := hn; omega
  exact ⟨⟨dig_tens (digF_dig _ _), last_tens (digF_last _ _ h)⟩, by unfold twS; rw [val_tens]; unfold digs; rw [digF_val _ _ h]⟩
/-- What compareWide says. -/
def cmpW (b : Bool) (D : List Int) (b2 : Bool) (E : List Int) : Int :=
  if b = b2 then (if b = true then ordI (valL E) (valL D) else ordI (valL D) (valL E)) else if b = true then -1 else 1
theorem cmpW_mag {n m sc sd : Int} (hn : I64 n) (hm : I64 m) (h1 : inSc sc = true) (h2 : inSc sd = true) : cmpW (decide (n < 0)) (twS n sc) (decide (m < 0)) (twS m sd) = ordI (mag n sc) (mag m sd) := by
  have e1 := (can_tw sc hn).2
  have e2 := (can_tw sd hm).2
  unfold cmpW mag
  rw [if_pos h1, if_pos h2, e1, e2]
  have p1 := pow_pos10 (12 - sc).toNat
  have p2 := pow_pos10 (12 - sd).toNat
  generalize (10 : Int) ^ (12 - sc).toNat = P at *
  generalize (10 : Int) ^ (12 - sd).toNat = Q at *
  have neg : ∀ (a p : Int), a < 0 → 0 < p → a * p < 0 := fun a p ha hp => Int.mul_neg_of_neg_of_pos ha hp
  have pos : ∀ (a p : Int), 0 ≤ a → 0 < p → 0 ≤ a * p := fun a p ha hp => Int.mul_nonneg ha (by omega)
  have abs1 : ∀ (a p : Int), a < 0 → (a.natAbs : Int) * p = -(a * p) := fun a p ha => by
    rw [show (a.natAbs : Int) = -a by omega, Int.neg_mul]
  have abs2 : ∀ (a p : Int), 0 ≤ a → (a.natAbs : Int) * p = a * p := fun a p ha => by
    rw [show (a.natAbs : Int) = a by omega]
  by_cases hn0 : n < 0
  · by_cases hm0 : m < 0
    · rw [decide_eq_true hn0, decide_eq_true hm0, if_pos rfl, if_pos rfl, abs1 n P hn0, abs1 m Q hm0]
      unfold ordI
      repeat' split
      all_goals omega
    · have a1 := neg n P hn0 p1
      have a2 := pos m Q (by omega) p2
      rw [decide_eq_true hn0, decide_eq_false hm0, if_neg (by decide), if_pos rfl, ordI_of_lt (by omega)]
  · by_cases hm0 : m < 0
    · have a1 := pos n P (by omega) p1
      have a2 := neg m Q hm0 p2
      rw [decide_eq_false hn0, decide_eq_true hm0, if_neg (by decide), if_neg (by decide), ordI_of_gt (by omega)]
    · rw [decide_eq_false hn0, decide_eq_false hm0, if_pos rfl, if_neg (by decide), abs2 n P (by omega), abs2 m Q (by omega)]
theorem ordI_swap (a b : Int) : ordI b a = -ordI a b := ord_neg a b
set_option maxRecDepth 100000 in
set_option maxHeartbeats 1000000 in
theorem rcompareWide_any (b b2 : Bool) (A A2 : Option Addr) (cap cap2 len len2 : Nat) (D E : List Int) (B : Nat) (w : World) (h1 : CRow (.int .i64) B w A cap D) (h2 : CRow (.int .i64) B w A2 cap2 E) (hB : B ≤ w.heap.size) (hlen : Hid (D.length = len)) (hlen2 : Hid (E.length = len2)) (cD : Can D) (cE : Can E) :
    Calls Try.prog 32 #[.agg #[.bool b, .slice A len cap], .agg #[.bool b2, .slice A2 len2 cap2]] w fun e w' => e = .returned (.int .i64 (cmpW b D b2 E)) ∧ Below w.heap.size w w' := by
  obtain ⟨W0, hW0⟩ : ∃ W0, (w.alloc (.cells #[.bool b, .slice A len cap] 55)).alloc (.cells #[.bool b2, .slice A2 len2 cap2] 55) = W0 := ⟨_, rfl⟩
  have hbw : Below w.heap.size w W0 := by rw [← hW0]; exact bel2 _ _ _
  have hz0 : w.heap.size + 1 < W0.heap.size := by rw [← hW0]; simp
  have p0 : W0.cell? ⟨w.heap.size, 0, none⟩ = some (.bool b) := by rw [← hW0]; simp
  have p1 : W0.cell? ⟨w.heap.size, 1, none⟩ = some (.slice A len cap) := by rw [← hW0]; simp
  have q0 : W0.cell? ⟨w.heap.size + 1, 0, none⟩ = some (.bool b2) := by rw [← hW0]; simp
  have q1 : W0.cell? ⟨w.heap.size + 1, 1, none⟩ = some (.slice A2 len2 cap2) := by rw [← hW0]; simp
  have hS0 := Same.mono (Same.of_below hbw) hB
  have hm := Lib.hid (rmost_any A A2 cap cap2 len len2 D E B W0 (h1.keep hS0) (h2.keep hS0) (by omega) hlen hlen2 cD.1 cE.1)
  have HW0 := Lib.hid hW0
  have CD := Lib.hid cD
  have CE := Lib.hid cE
  obtain ⟨C, hC⟩ : ∃ C, cmpW b D b2 E = C := ⟨_, rfl⟩
  rw [hC]
  have HC := Lib.hid hC
  clear hW0 h1 h2 hS0 hC cD cE
  go_enter Try.func32, Try.ntmps32
  go_upto_region 1 with (fail)
  rw [HW0.out]
  by_cases hbb : b = b2
  · subst hbb
    go_wp2_with fail
    refine hm.out.mono ?_
    rintro e w1 ⟨r, rfl, r1, r2, hok, hb1⟩
    have q0 := (hb1.cell (p := ⟨w.heap.size, 0, none⟩) (by show w.heap.size < _; omega)).trans p0
    have ho := most_ok hok CD.out.1 CE.out.1 CD.out.2 CE.out.2
    have hcc := HC.out
    unfold cmpW at hcc
    rw [if_pos rfl, ordI_swap (valL D), ← ho] at hcc
    have w2 : IntKind.i64.wrap (-r) = -r := IntWalk.i64_in _ ⟨by omega, by omega⟩
    have hbf := hbw.trans (hb1.mono (by omega))
    clear p0 p1 q1 ho hok hm hbw hz0
    have Hbf := Lib.hid hbf
    clear hbf hb1
    rcases Int.lt_trichotomy r 0 with hr | hr | hr
    · have w3 : ¬ (-r < 0) := by omega
      have w4 : 0 < -r := by omega
      rw [ordI_of_lt hr] at hcc
      have Hcc := Lib.hid hcc
      clear hcc
      cases b
      · go_wp2
        go_ret
        exact ⟨by rw [← Hcc.out]; rfl, Hbf.out⟩
      · go_wp2
        go_ret
        exact ⟨by rw [← Hcc.out]; rfl, Hbf.out⟩
    · subst hr
      rw [ordI_self] at hcc
      have Hcc := Lib.hid hcc
      clear hcc
      cases b
      · go_wp2
        go_ret
        exact ⟨by rw [← Hcc.out]; rfl, Hbf.out⟩
      · go_wp2
        go_ret
        exact ⟨by rw [← Hcc.out]; rfl, Hbf.out⟩
    · have w3 : -r < 0 := by omega
      have w4 : ¬ r < 0 := by omega
      rw [ordI_of_gt hr] at hcc
      have Hcc := Lib.hid hcc
      clear hcc
      cases b
      · go_wp2
        go_ret
        exact ⟨by rw [← Hcc.out]; rfl, Hbf.out⟩
      · go_wp2
        go_ret
        exact ⟨by rw [← Hcc.out]; rfl, Hbf.out⟩
  · have hcc := HC.out
    unfold cmpW at hcc
    rw [if_neg hbb] at hcc
    have Hcc := Lib.hid hcc
    clear hcc hm
    cases b
    · cases b2
      · exact absurd rfl hbb
      · go_wp2
        go_ret
        exact ⟨by rw [← Hcc.out]; rfl, hbw⟩
    · cases b2
      · go_wp2
        go_ret
        exact ⟨by rw [← Hcc.out]; rfl, hbw⟩
      · exact absurd rfl hbb
end Go.Proofs.Ytcdaipkkddgbeaa
