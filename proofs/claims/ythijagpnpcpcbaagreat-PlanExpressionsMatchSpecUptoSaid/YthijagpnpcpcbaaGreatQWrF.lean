/-
  The reference of package value: Decimals times 10^12 (WideD at a seat without package engine).
  The reference of package value: wide numbers compared.
  The reference of package value: Decimals compared.
-/
import Derived.Test.YthijagpnpcpcbaaGreatQWrC
import Derived.Deep.RegionWith
import Derived.Laws.Runes
import Derived.Deep.RegionHeld3
import Derived.Deep.DeepCutAuto
namespace Go.Proofs.YthijagpnpcpcbaaGreat
open Go.RowKit
def twS (n sc : Int) : List Int := tenS (digs n) (12 - sc).toNat
theorem digF_len : ∀ (f : Nat) (m : Int), (digF f m).length ≤ f
  | 0, _ => Nat.le_refl _
  | f + 1, m => by
    rw [digF]
    split
    · exact Nat.zero_le _
    · have := digF_len f (m.tdiv 10); simp; omega
set_option maxRecDepth 100000 in
set_option maxHeartbeats 2000000 in
theorem rtwelve_any (x : VT) (w : World) (hn : I64 x.a.n) (h0 : 0 ≤ x.a.sc) (h12 : x.a.sc ≤ 12) :
    Calls Tryz.prog 118 #[.agg #[.int .i64 x.a.k, .int .i64 x.a.n, .int .i64 x.a.sc, .string x.a.s, .slice x.a.A x.l.length x.a.cap]] w (WidePost (decide (x.a.n < 0)) (twS x.a.n x.a.sc) w) := by
  obtain ⟨⟨k, n, sc, s, A, cap⟩, l⟩ := x
  simp only [VT.a_node, VT.l_node] at hn h0 h12 ⊢
  obtain ⟨len, hlen⟩ : ∃ n, l.length = n := ⟨_, rfl⟩
  rw [hlen]
  clear hlen
  obtain ⟨e12, he12⟩ : ∃ e : Nat, (12 - sc).toNat = e := ⟨_, rfl⟩
  have esc : (12 : Int) - sc = (e12 : Int) := by omega
  have hle : e12 ≤ 12 := by omega
  have HR := Lib.hid (show twS n sc = tenS (digs n) e12 by unfold twS; rw [he12])
  obtain ⟨D, hD⟩ : ∃ D, digs n = D := ⟨_, rfl⟩
  have hDl : D.length ≤ 100 := by rw [← hD]; exact Nat.le_trans (digF_len 19 n) (by omega)
  obtain ⟨dl, hdl⟩ : ∃ q, D.length = q := ⟨_, rfl⟩
  rw [hdl] at hDl
  have Hdl := Lib.hid hdl
  have Hwo := fun W => rwideOf_any n W hn
  rw [hD] at Hwo HR
  have HWo : Hid (∀ W, Calls Tryz.prog 132 #[.int .i64 n] W fun e w' => ∃ (A : Option Addr) (cap : Nat), e = .returned (.agg #[.bool (decide (n < 0)), .slice A dl cap]) ∧ Below W.heap.size W w' ∧ CRow (.int .i64) w'.heap.size w' A cap D ∧ ∀ ad, A = some ad → D ≠ [] → W.heap.size ≤ ad.block) := fun W => by
    have := Hwo W
    unfold WidePost at this
    rw [hdl] at this
    exact this
  obtain ⟨W0, hW0⟩ : ∃ W0, (w.alloc (.cells #[.int .i64 k, .int .i64 n, .int .i64 sc, .string s, .slice A len cap] 27)).alloc (.cells #[.bool false, .slice none 0 0] 153) = W0 := ⟨_, rfl⟩
  have hbw : Below w.heap.size w W0 := by rw [← hW0]; exact bel2 _ _ _
  have hz0 : W0.heap.size = w.heap.size + 2 := by rw [← hW0]; simp
  have p1 : W0.cell? ⟨w.heap.size, 1, none⟩ = some (.int .i64 n) := by rw [← hW0]; simp
  have p2 : W0.cell? ⟨w.heap.size, 2, none⟩ = some (.int .i64 sc) := by rw [← hW0]; simp
  have P1 : W0.heap[w.heap.size + 1]? = some (.cells #[.bool false, .slice none 0 0] 153 (0, 0)) := by
    rw [← hW0]
    have := heap_alloc_new (w.alloc (.cells #[.int .i64 k, .int .i64 n, .int .i64 sc, .string s, .slice A len cap] 27)) (.cells #[.bool false, .slice none 0 0] 153)
    simpa using this
  have Hk : Hid (∀ W, Below W0.heap.size W0 W → W.cell? ⟨w.heap.size, 1, none⟩ = some (.int .i64 n) ∧ W.cell? ⟨w.heap.size, 2, none⟩ = some (.int .i64 sc) ∧
      W.cell? ⟨w.heap.size + 1, 0, none⟩ = some (.bool false) ∧ W.cell? ⟨w.heap.size + 1, 1, none⟩ = some (.slice none 0 0) ∧ W.frozen? ⟨w.heap.size + 1, 0, none⟩ = false ∧ W.frozen? ⟨w.heap.size + 1, 1, none⟩ = false) := fun W h => by
    have Q := (h.block (w.heap.size + 1) (by omega)).trans P1
    have c0 := cell_of_row W (w.heap.size + 1) 0 _ _ _ Q
    have c1 := cell_of_row W (w.heap.size + 1) 1 _ _ _ Q
    exact ⟨(h.cell (p := ⟨w.heap.size, 1, none⟩) (by show w.heap.size < _; omega)).trans p1, (h.cell (p := ⟨w.heap.size, 2, none⟩) (by show w.heap.size < _; omega)).trans p2, by simpa using c0, by simpa using c1, by simp [World.frozen?, Q], by simp [World.frozen?, Q]⟩
  have HW0 := Lib.hid hW0
  have Hz0 := Lib.hid hz0
  have Hdd : Below W0.heap.size W0 W0.drew := (Below.refl _ _).drew
  clear hW0 hz0 P1 p1 p2 Hwo hD hdl he12 hn
  go_enter Tryz.func118, Tryz.ntmps118
  go_wp2
  rw [HW0.out]
  have hwr : IntKind.i64.wrap (e12 : Int) = (e12 : Int) := wrap_small _ (by omega) (by omega)
  obtain ⟨c1, c2, g0, g1, f0, f1⟩ := Hk.out W0 (Below.refl _ _)
  go_region_with (first
    | (go_at_call 132; (with_reducible refine (HWo.out _).mono ?_); rintro e w1 ⟨A1, cap1, rfl, hb1, hr1, hu1⟩; obtain ⟨a1, a2, a3, a4, a5, a6⟩ := Hk.out w1 ((Below.drew (Below.refl _ _)).trans (hb1.mono (Nat.le_refl _))))
    | (go_at_call 131; (with_reducible refine (rtens_any _ A1 cap1 e12 dl D _ _ hr1 (Nat.le_refl _) hle hDl Hdl).mono ?_); rintro e w2 ⟨A2, cap2, rfl, hb2, hr2, hu2⟩; obtain ⟨b1, b2, b3, b4, b5, b6⟩ := Hk.out w2 (((Below.drew (Below.refl _ _)).trans (hb1.mono (Nat.le_refl _))).trans (hb2.mono hb1.size))))
  all_goals
    have hbb : Below w.heap.size w w2 := hbw.trans ((((Below.drew (Below.refl _ _)).trans (hb1.mono (Nat.le_refl _))).trans (hb2.mono hb1.size)).mono (by have := Hz0.out; show w.heap.size ≤ W0.heap.size; omega))
    have hzz : w.heap.size + 2 ≤ w2.heap.size := by have h := hb1.size; have h' := hb2.size; have := Hz0.out; have e : W0.drew.heap.size = W0.heap.size := rfl; omega
    go_wp2
    refine bodyPost_ret (v := .agg #[.bool (decide (n < 0)), .slice A2 (tenS D e12).length cap2]) (by simp [results, Tryz.results118, go_sem, *]) rfl ?_
    have hkeep : ∀ q, q ≠ w.heap.size + 1 → ((w2.setCell ⟨w.heap.size + 1, 0, none⟩ (.bool (decide (n < 0)))).setCell ⟨w.heap.size + 1, 1, none⟩ (.slice A2 (tenS D e12).length cap2)).heap[q]? = w2.heap[q]? := fun q hq => by
      rw [Below.heap_setCell _ _ _ _ (by simp; omega), Below.heap_setCell _ _ _ _ (by simp; omega)]
    have hbel : Below w.heap.size w ((w2.setCell ⟨w.heap.size + 1, 0, none⟩ (.bool (decide (n < 0)))).setCell ⟨w.heap.size + 1, 1, none⟩ (.slice A2 (tenS D e12).length cap2)) := (hbb.setCell (by simp) _).setCell (by simp) _
    obtain ⟨W', hW'⟩ : ∃ W', (w2.setCell ⟨w.heap.size + 1, 0, none⟩ (.bool (decide (n < 0)))).setCell ⟨w.heap.size + 1, 1, none⟩ (.slice A2 (tenS D e12).length cap2) = W' := ⟨_, rfl⟩
    have hzW' : W'.heap.size = w2.heap.size := by rw [← hW']; simp [World.setCell]
    rw [hW'] at hkeep hbel ⊢
    rw [HR.out]
    have hlow : ∀ ad, A2 = some ad → tenS D e12 ≠ [] → w.heap.size + 2 ≤ ad.block := fun ad hA hne => by
      have h := hu2 ad hA hne
      have h' := hb1.size
      have e : W0.drew.heap.size = W0.heap.size := rfl
      have := Hz0.out
      omega
    refine ⟨A2, cap2, rfl, hbel, ⟨hr2.1, hr2.2.1, fun i x hx => ?_⟩, fun ad hA hne => by have := hlow ad hA hne; omega⟩
    obtain ⟨ad', e1, e2, e4⟩ := hr2.2.2 i x hx
    have hb := hlow ad' e1 (fun e => by rw [e] at hx; simp at hx)
    exact ⟨ad', e1, by omega, (World.cell?_of_block (hkeep _ (by rw [block_add]; omega))).trans e4⟩
end Go.Proofs.YthijagpnpcpcbaaGreat
namespace Go.Proofs.YthijagpnpcpcbaaGreat
open Go.RowKit
/-- What digits say, the least first. -/
def valL : List Int → Int
  | [] => 0
  | d :: r => d + 10 * valL r
theorem Dig.tail {x : Int} {l : List Int} (h : Dig (x :: l)) : Dig l := fun y hy => h y (by simp [hy])
theorem val_bound : ∀ {D : List Int}, Dig D → 0 ≤ valL D ∧ valL D < (10 : Int) ^ D.length
  | [], _ => ⟨Int.le_refl _, by decide⟩
  | x :: l, h => by
    obtain ⟨h1, h2⟩ := val_bound h.tail
    obtain ⟨h3, h4⟩ := h x (by simp)
    rw [List.length_cons, Int.pow_succ]
    show 0 ≤ x + 10 * valL l ∧ x + 10 * valL l < _
    omega
theorem val_low : ∀ {D : List Int}, Dig D → D ≠ [] → D.getLast? ≠ some 0 → (10 : Int) ^ (D.length - 1) ≤ valL D
  | [], _, h, _ => absurd rfl h
  | [x], h, _, hl => by
    obtain ⟨h3, h4⟩ := h x (by simp)
    have : x ≠ 0 := fun e => hl (by rw [e]; rfl)
    show (10 : Int) ^ 0 ≤ x + 10 * 0
    rw [Int.pow_zero]
    omega
  | x :: y :: l, h, _, hl => by
    have h1 := val_low h.tail (by simp) (by rw [List.getLast?_cons_cons] at hl; exact hl)
    obtain ⟨h3, h4⟩ := h x (by simp)
    rw [show (x :: y :: l).length - 1 = ((y :: l).length - 1) + 1 by simp, Int.pow_succ]
    show _ ≤ x + 10 * valL (y :: l)
    omega
theorem val_split : ∀ {D : List Int} {i : Nat} {x : Int}, D[i]? = some x → valL D = valL (D.take i) + (10 : Int) ^ i * (x + 10 * valL (D.drop (i + 1)))
  | [], i, x, h => by simp at h
  | d :: l, 0, x, h => by
    simp at h
    subst h
    simp [valL]
  | d :: l, i + 1, x, h => by
    have ih := val_split (D := l) (i := i) (by simpa using h)
    show d + 10 * valL l = d + 10 * valL (l.take i) + _
    rw [ih, Int.pow_succ, List.drop_succ_cons, Int.mul_add, ← Int.mul_assoc, Int.mul_comm 10 ((10 : Int) ^ i)]
    omega
theorem Dig.take {D : List Int} (h : Dig D) (i : Nat) : Dig (D.take i) := fun x hx => h x (List.mem_of_mem_take hx)
theorem pow_pos10 (i : Nat) : (0 : Int) < (10 : Int) ^ i := Int.pow_pos (by decide)
theorem most_lt {D E : List Int} {i : Nat} {x y : Int} (hD : Dig D) (hE : Dig E) (hx : D[i]? = some x) (hy : E[i]? = some y) (hlt : x < y) (hd : D.drop (i + 1) = E.drop (i + 1)) : valL D < valL E := by
  rw [val_split hx, val_split hy, hd]
  obtain ⟨a1, a2⟩ := val_bound (hD.take i)
  obtain ⟨b1, b2⟩ := val_bound (hE.take i)
  have li : i < D.length := (List.getElem?_eq_some_iff.1 hx).1
  rw [List.length_take, Nat.min_eq_left (by omega)] at a2
  have hp := pow_pos10 i
  generalize (10 : Int) ^ i = P at *
  generalize valL (E.drop (i + 1)) = t
  have h1 : P * (x + 10 * t + 1) ≤ P * (y + 10 * t) := Int.mul_le_mul_of_nonneg_left (by omega) (by omega)
  rw [Int.mul_add P (x + 10 * t) 1] at h1
  omega
theorem len_lt {D E : List Int} (hD : Dig D) (hE : Dig E) (hl : E.getLast? ≠ some 0) (h : D.length < E.length) : valL D < valL E := by
  have h1 := (val_bound hD).2
  have h2 := val_low hE (fun e => by rw [e] at h; simp at h) hl
  have h3 : (10 : Int) ^ D.length ≤ (10 : Int) ^ (E.length - 1) := by
    have := Nat.pow_le_pow_right (show 0 < 10 by decide) (show D.length ≤ E.length - 1 by omega)
    exact_mod_cast this
  omega
theorem ordI_of_lt {a b : Int} (h : a < b) : ordI a b = -1 := by unfold ordI; rw [if_pos h]
theorem ordI_of_gt {a b : Int} (h : b < a) : ordI a b = 1 := by unfold ordI; rw [if_neg (by omega), if_pos h]
theorem ordI_self (a : Int) : ordI a a = 0 := by unfold ordI; rw [if_neg (by omega), if_neg (by omega)]
theorem most_ok {D E : List Int} {r : Int} (h : MostOk D E r) (hD : Dig D) (hE : Dig E) (lD : D.getLast? ≠ some 0) (lE : E.getLast? ≠ some 0) : ordI r 0 = ordI (valL D) (valL E) := by
  rcases h with ⟨hne, rfl⟩ | ⟨_, ⟨rfl, rfl⟩ | ⟨i, x, y, hx, hy, hne, rfl, hd⟩⟩
  · by_cases hl : D.length < E.length
    · rw [ordI_of_lt (len_lt hD hE lE hl), ordI_of_lt (by omega)]
    · rw [ordI_of_gt (len_lt hE hD lD (by omega)), ordI_of_gt (by omega)]
  · rw [ordI_self, ordI_self]
  · by_cases hl : x < y
    · rw [ordI_of_lt (most_lt hD hE hx hy hl hd), ordI_of_lt (by omega)]
    · rw [ordI_of_gt (most_lt hE hD hy hx (by omega) hd.symm), ordI_of_gt (by omega)]
theorem digF_dig : ∀ (f : Nat) (m : Int), Dig (digF f m)
  | 0, _ => fun x hx => by cases hx
  | f + 1, m => by
    rw [digF]
    split
    · exact fun x hx => by cases hx
    · intro x hx
      rcases List.mem_cons.1 hx with rfl | hx
      · rw [Int.natAbs_tmod, show Int.natAbs 10 = 10 from rfl]
        omega
      · exact digF_dig f _ x hx
theorem digF_val : ∀ (f : Nat) (m : Int), m.natAbs < 10 ^ f → valL (digF f m) = (m.natAbs : Int)
  | 0, m, h => by
    have : m.natAbs = 0 := by simpa using h
    rw [this]
    rfl
  | f + 1, m, h => by
    rw [digF]
    split
    · subst m; rfl
    · have h2 : (m.tdiv 10).natAbs < 10 ^ f := by
        rw [Int.natAbs_tdiv]
        rw [Nat.pow_succ] at h
        exact Nat.div_lt_of_lt_mul (by rw [Nat.mul_comm]; exact h)
      show ((m.tmod 10).natAbs : Int) + 10 * valL _ = _
      rw [digF_val f _ h2, Int.natAbs_tmod, Int.natAbs_tdiv]
      show ((m.natAbs % 10 : Nat) : Int) + 10 * ((m.natAbs / 10 : Nat) : Int) = _
      omega
theorem digF_last : ∀ (f : Nat) (m : Int), m.natAbs < 10 ^ f → (digF f m).getLast? ≠ some 0
  | 0, m, _ => by simp [digF]
  | f + 1, m, h => by
    rw [digF]
    split
    · simp
    · rename_i hm
      have h2 : (m.tdiv 10).natAbs < 10 ^ f := by
        rw [Int.natAbs_tdiv]
        rw [Nat.pow_succ] at h
        exact Nat.div_lt_of_lt_mul (by rw [Nat.mul_comm]; exact h)
      have ih := digF_last f _ h2
      cases hr : digF f (m.tdiv 10) with
      | nil =>
        have hv := digF_val f _ h2
        rw [hr, Int.natAbs_tdiv] at hv
        have e : m.natAbs / 10 = 0 := by
          have : (0 : Int) = ((m.natAbs / 10 : Nat) : Int) := hv
          omega
        rw [Int.natAbs_tmod]
        show some ((m.natAbs % 10 : Nat) : Int) ≠ some 0
        intro e2
        have e3 : ((m.natAbs % 10 : Nat) : Int) = 0 := Option.some.inj e2
        omega
      | cons y l =>
        rw [List.getLast?_cons_cons, ← hr]
        exact ih
theorem val_tens (k : Nat) (D : List Int) : valL (tenS D k) = valL D * (10 : Int) ^ k := by
  unfold tenS
  split
  · subst D; simp [valL]
  · induction k with
    | zero => simp
    | succ k ih =>
      rw [List.replicate_succ, List.cons_append]
      show 0 + 10 * valL _ = _
      rw [ih, Int.pow_succ]
      generalize valL D = a
      generalize (10 : Int) ^ k = P
      rw [Int.zero_add, Int.mul_comm P 10, Int.mul_left_comm]
theorem dig_tens {k : Nat} {D : List Int} (h : Dig D) : Dig (tenS D k) := by
  unfold tenS
  split
  · exact fun x hx => by cases hx
  · intro x hx
    rcases List.mem_append.1 hx with hx | hx
    · rw [(List.mem_replicate.1 hx).2]; omega
    · exact h x hx
theorem last_tens {k : Nat} {D : List Int} (h : D.getLast? ≠ some 0) : (tenS D k).getLast? ≠ some 0 := by
  unfold tenS
  split
  · simp
  · rename_i hD
    cases hl : D.getLast? with
    | none => exact absurd (List.getLast?_eq_none_iff.1 hl) hD
    | some x =>
      rw [List.getLast?_append, hl]
      rw [hl] at h
      exact h
/-- Digits of which the last is not 0. -/
def Can (D : List Int) : Prop := Dig D ∧ D.getLast? ≠ some 0
theorem can_tw {n : Int} (sc : Int) (hn : I64 n) : Can (twS n sc) ∧ valL (twS n sc) = (n.natAbs : Int) * (10 : Int) ^ (12 - sc).toNat := by
  have h : n.natAbs < 10 ^ 19 := by obtain ⟨h1, h2⟩ := hn; omega
  exact ⟨⟨dig_tens (digF_dig _ _), last_tens (digF_last _ _ h)⟩, by unfold twS; rw [val_tens]; unfold digs; rw [digF_val _ _ h]⟩
/-- What compareWide says. -/
def cmpW (b : Bool) (D : List Int) (b2 : Bool) (E : List Int) : Int :=
  if b = b2 then (if b = true then ordI (valL E) (valL D) else ordI (valL D) (valL E)) else if b = true then -1 else 1
theorem cmpW_mag {n m sc sd : Int} (hn : I64 n) (hm : I64 m) (h1 : inSc sc = true) (h2 : inSc sd = true) : cmpW (decide (n < 0)) (twS n sc) (decide (m < 0)) (twS m sd) = ordI (mag n sc) (mag m sd) := by
  have e1 := (can_tw sc hn).2
  have e2 := (can_tw sd hm).2
  unfold cmpW mag
  rw [if_pos h1, if_pos h2, e1, e2]
  have p1 := pow_pos10 (12 - sc).toNat
  have p2 := pow_pos10 (12 - sd).toNat
  generalize (10 : Int) ^ (12 - sc).toNat = P at *
  generalize (10 : Int) ^ (12 - sd).toNat = Q at *
  have neg : ∀ (a p : Int), a < 0 → 0 < p → a * p < 0 := fun a p ha hp => Int.mul_neg_of_neg_of_pos ha hp
  have pos : ∀ (a p : Int), 0 ≤ a → 0 < p → 0 ≤ a * p := fun a p ha hp => Int.mul_nonneg ha (by omega)
  have abs1 : ∀ (a p : Int), a < 0 → (a.natAbs : Int) * p = -(a * p) := fun a p ha => by
    rw [show (a.natAbs : Int) = -a by omega, Int.neg_mul]
  have abs2 : ∀ (a p : Int), 0 ≤ a → (a.natAbs : Int) * p = a * p := fun a p ha => by
    rw [show (a.natAbs : Int) = a by omega]
  by_cases hn0 : n < 0
  · by_cases hm0 : m < 0
    · rw [decide_eq_true hn0, decide_eq_true hm0, if_pos rfl, if_pos rfl, abs1 n P hn0, abs1 m Q hm0]
      unfold ordI
      repeat' split
      all_goals omega
    · have a1 := neg n P hn0 p1
      have a2 := pos m Q (by omega) p2
      rw [decide_eq_true hn0, decide_eq_false hm0, if_neg (by decide), if_pos rfl, ordI_of_lt (by omega)]
  · by_cases hm0 : m < 0
    · have a1 := pos n P (by omega) p1
      have a2 := neg m Q hm0 p2
      rw [decide_eq_false hn0, decide_eq_true hm0, if_neg (by decide), if_neg (by decide), ordI_of_gt (by omega)]
    · rw [decide_eq_false hn0, decide_eq_false hm0, if_pos rfl, if_neg (by decide), abs2 n P (by omega), abs2 m Q (by omega)]
theorem ordI_swap (a b : Int) : ordI b a = -ordI a b := ord_neg a b
set_option maxRecDepth 100000 in
set_option maxHeartbeats 1000000 in
theorem rcompareWide_any (b b2 : Bool) (A A2 : Option Addr) (cap cap2 len len2 : Nat) (D E : List Int) (B : Nat) (w : World) (h1 : CRow (.int .i64) B w A cap D) (h2 : CRow (.int .i64) B w A2 cap2 E) (hB : B ≤ w.heap.size) (hlen : Hid (D.length = len)) (hlen2 : Hid (E.length = len2)) (cD : Can D) (cE : Can E) :
    Calls Tryz.prog 117 #[.agg #[.bool b, .slice A len cap], .agg #[.bool b2, .slice A2 len2 cap2]] w fun e w' => e = .returned (.int .i64 (cmpW b D b2 E)) ∧ Below w.heap.size w w' := by
  obtain ⟨W0, hW0⟩ : ∃ W0, (w.alloc (.cells #[.bool b, .slice A len cap] 153)).alloc (.cells #[.bool b2, .slice A2 len2 cap2] 153) = W0 := ⟨_, rfl⟩
  have hbw : Below w.heap.size w W0 := by rw [← hW0]; exact bel2 _ _ _
  have hz0 : w.heap.size + 1 < W0.heap.size := by rw [← hW0]; simp
  have p0 : W0.cell? ⟨w.heap.size, 0, none⟩ = some (.bool b) := by rw [← hW0]; simp
  have p1 : W0.cell? ⟨w.heap.size, 1, none⟩ = some (.slice A len cap) := by rw [← hW0]; simp
  have q0 : W0.cell? ⟨w.heap.size + 1, 0, none⟩ = some (.bool b2) := by rw [← hW0]; simp
  have q1 : W0.cell? ⟨w.heap.size + 1, 1, none⟩ = some (.slice A2 len2 cap2) := by rw [← hW0]; simp
  have hS0 := Same.mono (Same.of_below hbw) hB
  have hm := Lib.hid (rmost_any A A2 cap cap2 len len2 D E B W0 (h1.keep hS0) (h2.keep hS0) (by omega) hlen hlen2 cD.1 cE.1)
  have HW0 := Lib.hid hW0
  have CD := Lib.hid cD
  have CE := Lib.hid cE
  obtain ⟨C, hC⟩ : ∃ C, cmpW b D b2 E = C := ⟨_, rfl⟩
  rw [hC]
  have HC := Lib.hid hC
  clear hW0 h1 h2 hS0 hC cD cE
  go_enter Tryz.func117, Tryz.ntmps117
  go_upto_region 1 with (fail)
  rw [HW0.out]
  by_cases hbb : b = b2
  · subst hbb
    go_wp2_with fail
    refine hm.out.mono ?_
    rintro e w1 ⟨r, rfl, r1, r2, hok, hb1⟩
    have q0 := (hb1.cell (p := ⟨w.heap.size, 0, none⟩) (by show w.heap.size < _; omega)).trans p0
    have ho := most_ok hok CD.out.1 CE.out.1 CD.out.2 CE.out.2
    have hcc := HC.out
    unfold cmpW at hcc
    rw [if_pos rfl, ordI_swap (valL D), ← ho] at hcc
    have w2 : IntKind.i64.wrap (-r) = -r := IntWalk.i64_in _ ⟨by omega, by omega⟩
    have hbf := hbw.trans (hb1.mono (by omega))
    clear p0 p1 q1 ho hok hm hbw hz0
    have Hbf := Lib.hid hbf
    clear hbf hb1
    rcases Int.lt_trichotomy r 0 with hr | hr | hr
    · have w3 : ¬ (-r < 0) := by omega
      have w4 : 0 < -r := by omega
      rw [ordI_of_lt hr] at hcc
      have Hcc := Lib.hid hcc
      clear hcc
      cases b
      · go_wp2
        go_ret
        exact ⟨by rw [← Hcc.out]; rfl, Hbf.out⟩
      · go_wp2
        go_ret
        exact ⟨by rw [← Hcc.out]; rfl, Hbf.out⟩
    · subst hr
      rw [ordI_self] at hcc
      have Hcc := Lib.hid hcc
      clear hcc
      cases b
      · go_wp2
        go_ret
        exact ⟨by rw [← Hcc.out]; rfl, Hbf.out⟩
      · go_wp2
        go_ret
        exact ⟨by rw [← Hcc.out]; rfl, Hbf.out⟩
    · have w3 : -r < 0 := by omega
      have w4 : ¬ r < 0 := by omega
      rw [ordI_of_gt hr] at hcc
      have Hcc := Lib.hid hcc
      clear hcc
      cases b
      · go_wp2
        go_ret
        exact ⟨by rw [← Hcc.out]; rfl, Hbf.out⟩
      · go_wp2
        go_ret
        exact ⟨by rw [← Hcc.out]; rfl, Hbf.out⟩
  · have hcc := HC.out
    unfold cmpW at hcc
    rw [if_neg hbb] at hcc
    have Hcc := Lib.hid hcc
    clear hcc hm
    cases b
    · cases b2
      · exact absurd rfl hbb
      · go_wp2
        go_ret
        exact ⟨by rw [← Hcc.out]; rfl, hbw⟩
    · cases b2
      · go_wp2
        go_ret
        exact ⟨by rw [← Hcc.out]; rfl, hbw⟩
      · exact absurd rfl hbb
end Go.Proofs.YthijagpnpcpcbaaGreat
namespace Go.Proofs.YthijagpnpcpcbaaGreat
open Go.RowKit
theorem rwithin_q (a : Int) (w : World) : Calls Tryz.prog 116 #[.int .i64 a, .int .i64 0, .int .i64 12] w fun e w' => e = .returned (.bool (inSc a)) ∧ w' = w :=
  (rwithin_any a 0 12 w).mono fun _ _ h => ⟨h.1, h.2.symm⟩
set_option maxRecDepth 100000 in
set_option maxHeartbeats 4000000 in
theorem rdecimals_any (k n sc k2 m sd : Int) (s t : ByteArray) (A A2 : Option Addr) (len len2 cap cap2 : Nat) (w : World) (hn : I64 n) (hm : I64 m) :
    Calls Tryz.prog 89 #[.agg #[.int .i64 k, .int .i64 n, .int .i64 sc, .string s, .slice A len cap], .agg #[.int .i64 k2, .int .i64 m, .int .i64 sd, .string t, .slice A2 len2 cap2]] w fun e w' => e = .returned (.int .i64 (orC (decC n sc m sd) (ordI sc sd))) ∧ Below w.heap.size w w' := by
  obtain ⟨W0, hW0⟩ : ∃ W0, (w.alloc (.cells #[.int .i64 k, .int .i64 n, .int .i64 sc, .string s, .slice A len cap] 27)).alloc (.cells #[.int .i64 k2, .int .i64 m, .int .i64 sd, .string t, .slice A2 len2 cap2] 27) = W0 := ⟨_, rfl⟩
  have hbw : Below w.heap.size w W0 := by rw [← hW0]; exact bel2 _ _ _
  have hz0 : W0.heap.size = w.heap.size + 2 := by rw [← hW0]; simp
  have p0 : W0.cell? ⟨w.heap.size, 0, none⟩ = some (.int .i64 k) := by rw [← hW0]; simp
  have p1 : W0.cell? ⟨w.heap.size, 1, none⟩ = some (.int .i64 n) := by rw [← hW0]; simp
  have p2 : W0.cell? ⟨w.heap.size, 2, none⟩ = some (.int .i64 sc) := by rw [← hW0]; simp
  have p3 : W0.cell? ⟨w.heap.size, 3, none⟩ = some (.string s) := by rw [← hW0]; simp
  have p4 : W0.cell? ⟨w.heap.size, 4, none⟩ = some (.slice A len cap) := by rw [← hW0]; simp
  have q0 : W0.cell? ⟨w.heap.size + 1, 0, none⟩ = some (.int .i64 k2) := by rw [← hW0]; simp
  have q1 : W0.cell? ⟨w.heap.size + 1, 1, none⟩ = some (.int .i64 m) := by rw [← hW0]; simp
  have q2 : W0.cell? ⟨w.heap.size + 1, 2, none⟩ = some (.int .i64 sd) := by rw [← hW0]; simp
  have q3 : W0.cell? ⟨w.heap.size + 1, 3, none⟩ = some (.string t) := by rw [← hW0]; simp
  have q4 : W0.cell? ⟨w.heap.size + 1, 4, none⟩ = some (.slice A2 len2 cap2) := by rw [← hW0]; simp
  have hk : Hid (∀ W, Below W0.heap.size W0 W → Below W0.heap.size W0 W ∧ W.cell? ⟨w.heap.size, 0, none⟩ = some (.int .i64 k) ∧ W.cell? ⟨w.heap.size, 1, none⟩ = some (.int .i64 n) ∧ W.cell? ⟨w.heap.size, 2, none⟩ = some (.int .i64 sc) ∧ W.cell? ⟨w.heap.size, 3, none⟩ = some (.string s) ∧ W.cell? ⟨w.heap.size, 4, none⟩ = some (.slice A len cap) ∧ W.cell? ⟨w.heap.size + 1, 0, none⟩ = some (.int .i64 k2) ∧ W.cell? ⟨w.heap.size + 1, 1, none⟩ = some (.int .i64 m) ∧ W.cell? ⟨w.heap.size + 1, 2, none⟩ = some (.int .i64 sd) ∧ W.cell? ⟨w.heap.size + 1, 3, none⟩ = some (.string t) ∧ W.cell? ⟨w.heap.size + 1, 4, none⟩ = some (.slice A2 len2 cap2)) := fun W h =>
    ⟨h, (h.cell (p := ⟨w.heap.size, 0, none⟩) (by show w.heap.size < _; omega)).trans p0, (h.cell (p := ⟨w.heap.size, 1, none⟩) (by show w.heap.size < _; omega)).trans p1, (h.cell (p := ⟨w.heap.size, 2, none⟩) (by show w.heap.size < _; omega)).trans p2, (h.cell (p := ⟨w.heap.size, 3, none⟩) (by show w.heap.size < _; omega)).trans p3, (h.cell (p := ⟨w.heap.size, 4, none⟩) (by show w.heap.size < _; omega)).trans p4,
      (h.cell (p := ⟨w.heap.size + 1, 0, none⟩) (by show w.heap.size + 1 < _; omega)).trans q0, (h.cell (p := ⟨w.heap.size + 1, 1, none⟩) (by show w.heap.size + 1 < _; omega)).trans q1, (h.cell (p := ⟨w.heap.size + 1, 2, none⟩) (by show w.heap.size + 1 < _; omega)).trans q2, (h.cell (p := ⟨w.heap.size + 1, 3, none⟩) (by show w.heap.size + 1 < _; omega)).trans q3, (h.cell (p := ⟨w.heap.size + 1, 4, none⟩) (by show w.heap.size + 1 < _; omega)).trans q4⟩
  have HW0 := Lib.hid hW0
  have Hz0 := Lib.hid hz0
  have Hbw := Lib.hid hbw
  clear hW0 hz0 hbw
  obtain ⟨R, hR⟩ : ∃ R, orC (decC n sc m sd) (ordI sc sd) = R := ⟨_, rfl⟩
  rw [hR]
  have HR := Lib.hid hR
  clear hR
  have ho := Lib.hid (fun a b W => rorder_any a b W)
  have hre := HR.out
  unfold decC at hre
  by_cases hin : inSc sc = inSc sd
  · cases h1 : inSc sc
    · have h2 : inSc sd = false := by rw [← hin]; exact h1
      rw [h1, h2, ordI_self, show ∀ x, orC 0 x = x from fun x => if_pos rfl] at hre
      unfold mag at hre
      rw [h1, h2] at hre
      simp only [Bool.false_eq_true, if_false] at hre
      have Hre := Lib.hid hre
      have H1 := Lib.hid h1
      have H2 := Lib.hid h2
      clear hre h1 h2 hin
      go_enter Tryz.func89, Tryz.ntmps89
      go_wp2_with fail
      rw [HW0.out]
      go_quiet ((go_at_call 116; exact Calls.quiet_of_same (rwithin_q _ _)))
      rw [H1.out, H2.out]
      generalize hW2 : World.drewN _ _ = W2
      have hb2 : Below W0.heap.size W0 W2 := by rw [← hW2]; exact below_dN _ _
      clear hW2 p0 p1 p2 p3 p4 q0 q1 q2 q3 q4
      obtain ⟨_, p0, p1, p2, p3, p4, q0, q1, q2, q3, q4⟩ := hk.out W2 hb2
      by_cases hnm : n = m
      · subst hnm
        rw [ordI_self, show ∀ x, orC 0 x = x from fun x => if_pos rfl] at Hre
        go_wp2_with fail
        refine (ho.out _ _ _).mono ?_
        rintro e w' ⟨rfl, rfl⟩
        go_wp2
        go_ret
        exact ⟨by rw [Hre.out]; rfl, Hbw.out.trans (hb2.mono (by have := Hz0.out; omega))⟩
      · have hne : (n != m) = true := by simpa using hnm
        have e : ordI n m ≠ 0 := by unfold ordI; repeat' split <;> omega
        rw [show orC (ordI n m) (ordI sc sd) = ordI n m from if_neg e] at Hre
        clear hnm e
        go_wp2_with fail
        refine (ho.out _ _ _).mono ?_
        rintro e w' ⟨rfl, rfl⟩
        go_wp2
        go_ret
        exact ⟨by rw [Hre.out]; rfl, Hbw.out.trans (hb2.mono (by have := Hz0.out; omega))⟩
    · have h2 : inSc sd = true := by rw [← hin]; exact h1
      rw [h1, h2, ordI_self, show ∀ x, orC 0 x = x from fun x => if_pos rfl] at hre
      have hcm := cmpW_mag hn hm h1 h2
      rw [← hcm] at hre
      obtain ⟨s0, s12⟩ : 0 ≤ sc ∧ sc ≤ 12 := by unfold inSc at h1; simpa using h1
      obtain ⟨t0, t12⟩ : 0 ≤ sd ∧ sd ≤ 12 := by unfold inSc at h2; simpa using h2
      have cD := (can_tw sc hn).1
      have cE := (can_tw sd hm).1
      obtain ⟨D, hD⟩ : ∃ D, twS n sc = D := ⟨_, rfl⟩
      obtain ⟨E, hE⟩ : ∃ E, twS m sd = E := ⟨_, rfl⟩
      obtain ⟨dl, hdl⟩ : ∃ q, D.length = q := ⟨_, rfl⟩
      obtain ⟨el, hel⟩ : ∃ q, E.length = q := ⟨_, rfl⟩
      have Hdl := Lib.hid hdl
      have Hel := Lib.hid hel
      rw [hD, hE] at hre
      rw [hD] at cD
      rw [hE] at cE
      obtain ⟨C, hC⟩ : ∃ C, cmpW (decide (n < 0)) D (decide (m < 0)) E = C := ⟨_, rfl⟩
      have htx : Hid (∀ W, Below W0.heap.size W0 W → Calls Tryz.prog 118 #[.agg #[.int .i64 k, .int .i64 n, .int .i64 sc, .string s, .slice A len cap]] W fun e w' => ∃ (A : Option Addr) (cap : Nat), e = .returned (.agg #[.bool (decide (n < 0)), .slice A dl cap]) ∧ Below W0.heap.size W0 w' ∧ Below W.heap.size W w' ∧ CRow (.int .i64) w'.heap.size w' A cap D) := fun W h => by
        have := rtwelve_any (.node ⟨k, n, sc, s, A, cap⟩ (List.replicate len (.node ⟨0, 0, 0, s, none, 0⟩ []))) W hn s0 s12
        unfold WidePost at this
        simp only [VT.a_node, VT.l_node, hD, hdl, List.length_replicate] at this
        exact this.mono fun e w' ⟨A, cap, h1, h2, h3, _⟩ => ⟨A, cap, h1, h.trans (h2.mono h.size), h2, h3⟩
      have hty : Hid (∀ W, Below W0.heap.size W0 W → Calls Tryz.prog 118 #[.agg #[.int .i64 k2, .int .i64 m, .int .i64 sd, .string t, .slice A2 len2 cap2]] W fun e w' => ∃ (A : Option Addr) (cap : Nat), e = .returned (.agg #[.bool (decide (m < 0)), .slice A el cap]) ∧ Below W0.heap.size W0 w' ∧ Below W.heap.size W w' ∧ CRow (.int .i64) w'.heap.size w' A cap E) := fun W h => by
        have := rtwelve_any (.node ⟨k2, m, sd, t, A2, cap2⟩ (List.replicate len2 (.node ⟨0, 0, 0, s, none, 0⟩ []))) W hm t0 t12
        unfold WidePost at this
        simp only [VT.a_node, VT.l_node, hE, hel, List.length_replicate] at this
        exact this.mono fun e w' ⟨A, cap, h1, h2, h3, _⟩ => ⟨A, cap, h1, h.trans (h2.mono h.size), h2, h3⟩
      have hcw : Hid (∀ (W : World) (A A2 : Option Addr) (cap cap2 : Nat), Below W0.heap.size W0 W → CRow (.int .i64) W.heap.size W A cap D → CRow (.int .i64) W.heap.size W A2 cap2 E → Calls Tryz.prog 117 #[.agg #[.bool (decide (n < 0)), .slice A dl cap], .agg #[.bool (decide (m < 0)), .slice A2 el cap2]] W fun e w' => e = .returned (.int .i64 C) ∧ Below W0.heap.size W0 w') := fun W A A2 cap cap2 h h1 h2 => by
        have := rcompareWide_any (decide (n < 0)) (decide (m < 0)) A A2 cap cap2 dl el D E _ W h1 h2 (Nat.le_refl _) Hdl Hel cD cE
        rw [hC] at this
        exact this.mono fun e w' ⟨he, hb⟩ => ⟨he, h.trans (hb.mono h.size)⟩
      rw [hC] at hre
      have Hre := Lib.hid hre
      have H1 := Lib.hid h1
      have H2 := Lib.hid h2
      clear hD hE hdl hel hn hm hre h1 h2 hin hcm hC cD cE
      go_enter Tryz.func89, Tryz.ntmps89
      go_wp2_with fail
      rw [HW0.out]
      go_quiet ((go_at_call 116; exact Calls.quiet_of_same (rwithin_q _ _)))
      rw [H1.out, H2.out]
      generalize hW2 : World.drewN _ _ = W2
      have hb2 : Below W0.heap.size W0 W2 := by rw [← hW2]; exact below_dN _ _
      clear hW2 p0 p1 p2 p3 p4 q0 q1 q2 q3 q4
      obtain ⟨_, p0, p1, p2, p3, p4, q0, q1, q2, q3, q4⟩ := hk.out W2 hb2
      go_wp2_with fail
      go_region_held3 (fun W => Below W0.heap.size W0 W ∧ W.cell? ⟨w.heap.size, 0, none⟩ = some (.int .i64 k) ∧ W.cell? ⟨w.heap.size, 1, none⟩ = some (.int .i64 n) ∧ W.cell? ⟨w.heap.size, 2, none⟩ = some (.int .i64 sc) ∧ W.cell? ⟨w.heap.size, 3, none⟩ = some (.string s) ∧ W.cell? ⟨w.heap.size, 4, none⟩ = some (.slice A len cap) ∧ W.cell? ⟨w.heap.size + 1, 0, none⟩ = some (.int .i64 k2) ∧ W.cell? ⟨w.heap.size + 1, 1, none⟩ = some (.int .i64 m) ∧ W.cell? ⟨w.heap.size + 1, 2, none⟩ = some (.int .i64 sd) ∧ W.cell? ⟨w.heap.size + 1, 3, none⟩ = some (.string t) ∧ W.cell? ⟨w.heap.size + 1, 4, none⟩ = some (.slice A2 len2 cap2))
        (first | exact hk.out _ hb2 | exact hk.out _ (Below.drew hb2) | exact hk.out _ (by assumption))
        (first
          | (go_at_call_of 118 (Value.agg #[.int .i64 k, .int .i64 n, .int .i64 sc, .string s, .slice A len cap]); (with_reducible refine (htx.out _ ?_).mono ?_); (first | assumption | (apply And.left; assumption)); rintro e wx ⟨Ax, capx, rfl, hbx, hlx, hrx⟩)
          | (go_at_call_of 118 (Value.agg #[.int .i64 k2, .int .i64 m, .int .i64 sd, .string t, .slice A2 len2 cap2]); (with_reducible refine (hty.out _ ?_).mono ?_); (first | assumption | (apply And.left; assumption)); rintro e wy ⟨Ay, capy, rfl, hby, hly, hry⟩)
          | (go_at_call 117; (first | (with_reducible refine (hcw.out wy Ax Ay capx capy hby ((hrx.keep (Same.of_below hly)).more hly.size) hry).mono ?_) | (with_reducible refine (hcw.out wx Ax Ay capx capy hbx hrx ((hry.keep (Same.of_below hlx)).more hlx.size)).mono ?_)); rintro e wz ⟨rfl, hbz⟩))
      all_goals
        clear p0 p1 p2 p3 p4 q0 q1 q2 q3 q4
        obtain ⟨_, p0, p1, p2, p3, p4, q0, q1, q2, q3, q4⟩ := hk.out wz hbz
        by_cases hc : C = 0
        · have hrr := Hre.out
          rw [hc, show ∀ x, orC 0 x = x from fun x => if_pos rfl] at hrr
          have Hrr := Lib.hid hrr
          subst hc
          clear hrr
          go_wp2_with fail
          refine (ho.out _ _ _).mono ?_
          rintro e w' ⟨rfl, rfl⟩
          go_wp2
          go_ret
          exact ⟨by rw [Hrr.out]; rfl, Hbw.out.trans (hbz.mono (by have := Hz0.out; omega))⟩
        · have hne : (C != 0) = true := by simpa using hc
          have hrr := Hre.out
          rw [show orC C (ordI sc sd) = C from if_neg hc] at hrr
          have Hrr := Lib.hid hrr
          clear hrr hc
          go_wp2
          go_ret
          exact ⟨by rw [Hrr.out]; rfl, Hbw.out.trans (hbz.mono (by have := Hz0.out; omega))⟩
  · cases h1 : inSc sc
    · have h2 : inSc sd = true := by cases h : inSc sd; exact absurd (h1.trans h.symm) hin; rfl
      rw [h1, h2] at hre
      have hre2 : 1 = R := hre
      have Hre := Lib.hid hre2
      have H1 := Lib.hid h1
      have H2 := Lib.hid h2
      clear hre h1 h2 hin hre2
      go_enter Tryz.func89, Tryz.ntmps89
      go_wp2_with fail
      rw [HW0.out]
      go_quiet ((go_at_call 116; exact Calls.quiet_of_same (rwithin_q _ _)))
      rw [H1.out, H2.out]
      go_wp2
      go_ret
      exact ⟨by rw [← Hre.out]; rfl, Hbw.out.trans ((below_dN _ _).mono (by have := Hz0.out; omega))⟩
    · have h2 : inSc sd = false := by cases h : inSc sd; rfl; exact absurd (h1.trans h.symm) hin
      rw [h1, h2] at hre
      have hre2 : -1 = R := hre
      have Hre := Lib.hid hre2
      have H1 := Lib.hid h1
      have H2 := Lib.hid h2
      clear hre h1 h2 hin hre2
      go_enter Tryz.func89, Tryz.ntmps89
      go_wp2_with fail
      rw [HW0.out]
      go_quiet ((go_at_call 116; exact Calls.quiet_of_same (rwithin_q _ _)))
      rw [H1.out, H2.out]
      go_wp2
      go_ret
      exact ⟨by rw [← Hre.out]; rfl, Hbw.out.trans ((below_dN _ _).mono (by have := Hz0.out; omega))⟩
end Go.Proofs.YthijagpnpcpcbaaGreat

