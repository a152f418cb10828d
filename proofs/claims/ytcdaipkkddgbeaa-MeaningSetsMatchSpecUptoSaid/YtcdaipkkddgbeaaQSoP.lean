/-
  Package value: wide numbers shifted by powers of ten; their sizes compared.
-/
import Derived.Test.YtcdaipkkddgbeaaQSoD
import Derived.Test.YtcdaipkkddgbeaaQSoN
namespace Go.Proofs.Ytcdaipkkddgbeaa
open Go.RowKit
/-- The cells of a wide number. -/
def wcs (ng : Bool) (X : Nat) : Array Value := #[.bool ng, .int .u64 (wd X 0), .int .u64 (wd X 1), .int .u64 (wd X 2), .int .u64 (wd X 3)]
theorem set5 {W : World} {b : Nat} {t : TypeId} {fz : Nat × Nat} {v0 v1 v2 v3 v4 : Value} (h : W.heap[b]? = some (.cells #[v0, v1, v2, v3, v4] t fz)) (u0 u1 u2 u3 u4 : Value) :
    (((((W.setCell ⟨b, 0, none⟩ u0).setCell ⟨b, 1, none⟩ u1).setCell ⟨b, 2, none⟩ u2).setCell ⟨b, 3, none⟩ u3).setCell ⟨b, 4, none⟩ u4).heap[b]? = some (.cells #[u0, u1, u2, u3, u4] t fz) := by
  simp [World.setCell, Array.getElem?_modify, h]
theorem set5_below {B : Nat} {w W : World} {b : Nat} (h : Below B w W) (hb : B ≤ b) (u0 u1 u2 u3 u4 : Value) :
    Below B w (((((W.setCell ⟨b, 0, none⟩ u0).setCell ⟨b, 1, none⟩ u1).setCell ⟨b, 2, none⟩ u2).setCell ⟨b, 3, none⟩ u3).setCell ⟨b, 4, none⟩ u4) :=
  ((((h.setCell hb _).setCell hb _).setCell hb _).setCell hb _).setCell hb _
theorem set5_other {W : World} {b c : Nat} (h : c ≠ b) (u0 u1 u2 u3 u4 : Value) :
    (((((W.setCell ⟨b, 0, none⟩ u0).setCell ⟨b, 1, none⟩ u1).setCell ⟨b, 2, none⟩ u2).setCell ⟨b, 3, none⟩ u3).setCell ⟨b, 4, none⟩ u4).heap[c]? = W.heap[c]? := by
  rw [Below.heap_setCell _ _ _ _ h, Below.heap_setCell _ _ _ _ h, Below.heap_setCell _ _ _ _ h, Below.heap_setCell _ _ _ _ h, Below.heap_setCell _ _ _ _ h]
/-- Two blocks of five cells. -/
structure W52 (w : World) (b c : Nat) (t : TypeId) (p q : Array Value) (W : World) : Prop where
  below : Below w.heap.size w W
  one : W.heap[b]? = some (.cells p t (0, 0))
  two : W.heap[c]? = some (.cells q t (0, 0))
  lo : w.heap.size ≤ b
  lo2 : w.heap.size ≤ c
  lt : b < W.heap.size
  lt2 : c < W.heap.size
theorem W52.mk2 (w : World) (t : TypeId) (p q : Array Value) : W52 w w.heap.size (w.heap.size + 1) t p q ((w.alloc (.cells p t)).alloc (.cells q t)) := by
  refine ⟨((Below.refl _ _).alloc (Nat.le_refl _) _).alloc (by simp) _, ?_, ?_, Nat.le_refl _, Nat.le_succ _, by simp; omega, by simp⟩
  · rw [Below.heap_alloc _ _ _ (by simp)]; exact heap_alloc_new w _
  · have := heap_alloc_new (w.alloc (.cells p t)) (.cells q t)
    simpa using this
theorem W52.mk3 (w : World) (t : TypeId) (p q r : Array Value) : W52 w w.heap.size (w.heap.size + 1) t p q (((w.alloc (.cells p t)).alloc (.cells q t)).alloc (.cells r t)) := by
  have h := W52.mk2 w t p q
  refine ⟨h.below.alloc (by simp; omega) _, ?_, ?_, Nat.le_refl _, Nat.le_succ _, by simp; omega, by simp⟩
  · rw [Below.heap_alloc _ _ _ (by simp; omega)]; exact h.one
  · rw [Below.heap_alloc _ _ _ (by simp)]; exact h.two
theorem W52.keep {w W W' : World} {b c : Nat} {t : TypeId} {p q : Array Value} (h : W52 w b c t p q W) (hb : Below W.heap.size W W') : W52 w b c t p q W' :=
  ⟨h.below.trans (hb.mono h.below.size), by rw [hb.block b h.lt]; exact h.one, by rw [hb.block c h.lt2]; exact h.two, h.lo, h.lo2, Nat.lt_of_lt_of_le h.lt hb.size, Nat.lt_of_lt_of_le h.lt2 hb.size⟩
set_option maxRecDepth 100000 in
set_option maxHeartbeats 4000000 in
theorem shifted_any (ng : Bool) (X k : Nat) (w : World) (hk : k < 9223372036854775808) : Calls Try.prog 54 #[wideV ng X, .int .i64 (k : Int)] w fun e w' => e = .returned (wideV ng (X * 10 ^ k)) ∧ Below w.heap.size w w' := by
  have hti := Lib.hid (fun (j : Nat) (W : World) => times_any ng (X * 10 ^ j) 10 W (by decide))
  unfold wideV at hti ⊢
  go_enter Try.func54, Try.ntmps54
  go_wp2
  go_loopw [6] (fun i wr => ∃ j : Nat, j ≤ k ∧ i = .int .i64 j ∧ W52 w w.heap.size (w.heap.size + 1) 69 (wcs ng (X * 10 ^ j)) #[.bool false, .int .u64 0, .int .u64 0, .int .u64 0, .int .u64 0] wr) (fun i _ => k - (intOf i).toNat)
  case atStart =>
    refine ⟨0, Nat.zero_le _, rfl, ?_⟩
    have e : X * 10 ^ 0 = X := by rw [Nat.pow_zero, Nat.mul_one]
    rw [e]
    exact W52.mk2 w _ _ _
  case round =>
    obtain ⟨j, hj, rfl, hT⟩ := hrel
    have hk := Lib.hid (fun (W : World) (h : Below wr.heap.size wr W) => blk5 (hT.keep h).one)
    obtain ⟨⟨c0, c1, c2, c3, c4⟩, -⟩ := blk5 hT.one
    by_cases hlt : j < k
    · have HT := Lib.hid hT
      clear hT
      go_wp2_with (go_at_call 59; refine (hti.out j _).mono ?_; rintro e w' ⟨rfl, hb2⟩; (clear c0 c1 c2 c3 c4; obtain ⟨⟨c0, c1, c2, c3, c4⟩, f0, f1, f2, f3, f4⟩ := hk.out w' hb2))
      go_roundw
      case rel => 
        refine ⟨j + 1, hlt, by go_num, ?_⟩
        have h2 := HT.out.keep hb2
        have e : X * 10 ^ (j + 1) = X * 10 ^ j * 10 := by rw [Nat.pow_succ, Nat.mul_assoc]
        rw [e]
        refine ⟨set5_below h2.below h2.lo _ _ _ _ _, set5 h2.one _ _ _ _ _, ?_, h2.lo, h2.lo2, ?_, ?_⟩
        · rw [set5_other (by omega)]; exact h2.two
        · have := h2.lt; simpa using this
        · have := h2.lt2; simpa using this
      case measure => simp [intOf]; omega
    · obtain rfl : j = k := by omega
      obtain ⟨⟨d0, d1, d2, d3, d4⟩, f0, f1, f2, f3, f4⟩ := blk5 hT.two
      have HT := Lib.hid hT
      clear hT
      go_wp2
      refine bodyPost_ret (v := wideV ng (X * 10 ^ j)) (by simp [results, Try.results54, go_sem, wideV, *]) rfl ?_
      exact ⟨rfl, set5_below HT.out.below HT.out.lo2 _ _ _ _ _⟩
theorem word_step (X i : Nat) : X / 18446744073709551616 ^ i = X / 18446744073709551616 ^ (i + 1) * 18446744073709551616 + X / 18446744073709551616 ^ i % 18446744073709551616 := by
  rw [Nat.pow_succ, ← Nat.div_div_eq_div_mul]
  omega
theorem wd_lt {X Y i : Nat} (h : X / 18446744073709551616 ^ (i + 1) = Y / 18446744073709551616 ^ (i + 1)) (hl : wd X i < wd Y i) : X < Y := by
  unfold wd at hl
  have a := word_step X i
  have b := word_step Y i
  refine Nat.lt_of_not_le fun hle => ?_
  have := Nat.div_le_div_right (c := 18446744073709551616 ^ i) hle
  rw [h] at a
  omega
theorem wd_eq {X Y i : Nat} (h : X / 18446744073709551616 ^ (i + 1) = Y / 18446744073709551616 ^ (i + 1)) (hl : wd X i = wd Y i) : X / 18446744073709551616 ^ i = Y / 18446744073709551616 ^ i := by
  unfold wd at hl
  have a := word_step X i
  have b := word_step Y i
  rw [h] at a
  omega
theorem ordI_lt {x y : Int} (h : x < y) : ordI x y = -1 := by unfold ordI; rw [if_pos h]
theorem ordI_gt {x y : Int} (h : y < x) : ordI x y = 1 := by unfold ordI; rw [if_neg (by omega), if_pos h]
theorem ordI_eq {x y : Int} (h : x = y) : ordI x y = 0 := by unfold ordI; rw [if_neg (by omega), if_neg (by omega)]
set_option maxRecDepth 100000 in
set_option maxHeartbeats 4000000 in
theorem compareSize_any (na nb : Bool) (X Y : Nat) (w : World) (hX : X < 18446744073709551616 ^ 4) (hY : Y < 18446744073709551616 ^ 4) : Calls Try.prog 62 #[wideV na X, wideV nb Y] w fun e w' => e = .returned (.int .i64 (ordI X Y)) ∧ Below w.heap.size w w' := by
  have HX := Lib.hid hX
  have HY := Lib.hid hY
  clear hX hY
  unfold wideV
  go_enter Try.func62, Try.ntmps62
  go_wp2
  go_loopw [5] (fun i wr => ∃ q : Nat, q ≤ 4 ∧ i = .int .i64 ((q : Int) - 1) ∧ X / 18446744073709551616 ^ q = Y / 18446744073709551616 ^ q ∧ W52 w w.heap.size (w.heap.size + 1) 69 (wcs na X) (wcs nb Y) wr) (fun i _ => (intOf i + 1).toNat)
  case atStart => exact ⟨4, Nat.le_refl _, rfl, by rw [Nat.div_eq_of_lt HX.out, Nat.div_eq_of_lt HY.out], W52.mk2 w _ _ _⟩
  case round =>
    obtain ⟨q, hq, rfl, heq, hT⟩ := hrel
    have Heq := Lib.hid heq
    clear heq
    obtain ⟨⟨c0, c1, c2, c3, c4⟩, -⟩ := blk5 hT.one
    obtain ⟨⟨d0, d1, d2, d3, d4⟩, -⟩ := blk5 hT.two
    have HT := Lib.hid hT
    clear hT
    have hq5 : q = 0 ∨ q = 1 ∨ q = 2 ∨ q = 3 ∨ q = 4 := by omega
    rcases hq5 with rfl | rfl | rfl | rfl | rfl
    · go_wp2
      go_ret
      have e := Heq.out
      rw [Nat.pow_zero, Nat.div_one, Nat.div_one] at e
      rw [ordI_eq (by omega)]
      exact ⟨rfl, HT.out.below⟩
    · skip
      have h3 := Int.lt_trichotomy (wd X 0) (wd Y 0)
      rcases h3 with hl | hl | hl
      · have Hr := Lib.hid (ordI_lt (Int.ofNat_lt.2 (wd_lt Heq.out hl)))
        go_wp2
        go_quiet (fail)
        generalize hw2 : World.drewN _ _ = w2
        have hb2 : Below wr.heap.size wr w2 := by rw [← hw2]; exact below_drewNb _ _
        clear hw2
        go_wp2
        go_ret
        exact ⟨by rw [Hr.out]; rfl, HT.out.below.trans (hb2.mono HT.out.below.size)⟩
      · have Hr := Lib.hid (wd_eq Heq.out hl)
        have hn : ¬ wd X 0 < wd Y 0 := by omega
        have hn2 : ¬ wd Y 0 < wd X 0 := by omega
        clear hl
        go_wp2
        go_quiet (fail)
        generalize hw2 : World.drewN _ _ = w2
        have hb2 : Below wr.heap.size wr w2 := by rw [← hw2]; exact below_drewNb _ _
        clear hw2
        go_wp2
        clear c0 c1 c2 c3 c4 d0 d1 d2 d3 d4
        have HT2 := Lib.hid (HT.out.keep hb2)
        obtain ⟨⟨c0, c1, c2, c3, c4⟩, -⟩ := blk5 HT2.out.one
        obtain ⟨⟨d0, d1, d2, d3, d4⟩, -⟩ := blk5 HT2.out.two
        go_wp2
        go_quiet (fail)
        generalize hw3 : World.drewN _ _ = w3
        have hb3 : Below w2.heap.size w2 w3 := by rw [← hw3]; exact below_drewNb _ _
        clear hw3
        go_wp2
        go_roundw
        case rel => exact ⟨0, by decide, rfl, Hr.out, HT2.out.keep hb3⟩
        case measure => simp [intOf]
      · have Hr := Lib.hid (ordI_gt (Int.ofNat_lt.2 (wd_lt Heq.out.symm hl)))
        have hn : ¬ wd X 0 < wd Y 0 := by omega
        go_wp2
        go_quiet (fail)
        generalize hw2 : World.drewN _ _ = w2
        have hb2 : Below wr.heap.size wr w2 := by rw [← hw2]; exact below_drewNb _ _
        clear hw2
        go_wp2
        clear c0 c1 c2 c3 c4 d0 d1 d2 d3 d4
        have HT2 := Lib.hid (HT.out.keep hb2)
        obtain ⟨⟨c0, c1, c2, c3, c4⟩, -⟩ := blk5 HT2.out.one
        obtain ⟨⟨d0, d1, d2, d3, d4⟩, -⟩ := blk5 HT2.out.two
        go_wp2
        go_quiet (fail)
        generalize hw3 : World.drewN _ _ = w3
        have hb3 : Below w2.heap.size w2 w3 := by rw [← hw3]; exact below_drewNb _ _
        clear hw3
        go_wp2
        go_ret
        exact ⟨by rw [Hr.out]; rfl, (HT2.out.keep hb3).below⟩
    · skip
      have h3 := Int.lt_trichotomy (wd X 1) (wd Y 1)
      rcases h3 with hl | hl | hl
      · have Hr := Lib.hid (ordI_lt (Int.ofNat_lt.2 (wd_lt Heq.out hl)))
        go_wp2
        go_quiet (fail)
        generalize hw2 : World.drewN _ _ = w2
        have hb2 : Below wr.heap.size wr w2 := by rw [← hw2]; exact below_drewNb _ _
        clear hw2
        go_wp2
        go_ret
        exact ⟨by rw [Hr.out]; rfl, HT.out.below.trans (hb2.mono HT.out.below.size)⟩
      · have Hr := Lib.hid (wd_eq Heq.out hl)
        have hn : ¬ wd X 1 < wd Y 1 := by omega
        have hn2 : ¬ wd Y 1 < wd X 1 := by omega
        clear hl
        go_wp2
        go_quiet (fail)
        generalize hw2 : World.drewN _ _ = w2
        have hb2 : Below wr.heap.size wr w2 := by rw [← hw2]; exact below_drewNb _ _
        clear hw2
        go_wp2
        clear c0 c1 c2 c3 c4 d0 d1 d2 d3 d4
        have HT2 := Lib.hid (HT.out.keep hb2)
        obtain ⟨⟨c0, c1, c2, c3, c4⟩, -⟩ := blk5 HT2.out.one
        obtain ⟨⟨d0, d1, d2, d3, d4⟩, -⟩ := blk5 HT2.out.two
        go_wp2
        go_quiet (fail)
        generalize hw3 : World.drewN _ _ = w3
        have hb3 : Below w2.heap.size w2 w3 := by rw [← hw3]; exact below_drewNb _ _
        clear hw3
        go_wp2
        go_roundw
        case rel => exact ⟨1, by decide, rfl, Hr.out, HT2.out.keep hb3⟩
        case measure => simp [intOf]
      · have Hr := Lib.hid (ordI_gt (Int.ofNat_lt.2 (wd_lt Heq.out.symm hl)))
        have hn : ¬ wd X 1 < wd Y 1 := by omega
        go_wp2
        go_quiet (fail)
        generalize hw2 : World.drewN _ _ = w2
        have hb2 : Below wr.heap.size wr w2 := by rw [← hw2]; exact below_drewNb _ _
        clear hw2
        go_wp2
        clear c0 c1 c2 c3 c4 d0 d1 d2 d3 d4
        have HT2 := Lib.hid (HT.out.keep hb2)
        obtain ⟨⟨c0, c1, c2, c3, c4⟩, -⟩ := blk5 HT2.out.one
        obtain ⟨⟨d0, d1, d2, d3, d4⟩, -⟩ := blk5 HT2.out.two
        go_wp2
        go_quiet (fail)
        generalize hw3 : World.drewN _ _ = w3
        have hb3 : Below w2.heap.size w2 w3 := by rw [← hw3]; exact below_drewNb _ _
        clear hw3
        go_wp2
        go_ret
        exact ⟨by rw [Hr.out]; rfl, (HT2.out.keep hb3).below⟩
    · skip
      have h3 := Int.lt_trichotomy (wd X 2) (wd Y 2)
      rcases h3 with hl | hl | hl
      · have Hr := Lib.hid (ordI_lt (Int.ofNat_lt.2 (wd_lt Heq.out hl)))
        go_wp2
        go_quiet (fail)
        generalize hw2 : World.drewN _ _ = w2
        have hb2 : Below wr.heap.size wr w2 := by rw [← hw2]; exact below_drewNb _ _
        clear hw2
        go_wp2
        go_ret
        exact ⟨by rw [Hr.out]; rfl, HT.out.below.trans (hb2.mono HT.out.below.size)⟩
      · have Hr := Lib.hid (wd_eq Heq.out hl)
        have hn : ¬ wd X 2 < wd Y 2 := by omega
        have hn2 : ¬ wd Y 2 < wd X 2 := by omega
        clear hl
        go_wp2
        go_quiet (fail)
        generalize hw2 : World.drewN _ _ = w2
        have hb2 : Below wr.heap.size wr w2 := by rw [← hw2]; exact below_drewNb _ _
        clear hw2
        go_wp2
        clear c0 c1 c2 c3 c4 d0 d1 d2 d3 d4
        have HT2 := Lib.hid (HT.out.keep hb2)
        obtain ⟨⟨c0, c1, c2, c3, c4⟩, -⟩ := blk5 HT2.out.one
        obtain ⟨⟨d0, d1, d2, d3, d4⟩, -⟩ := blk5 HT2.out.two
        go_wp2
        go_quiet (fail)
        generalize hw3 : World.drewN _ _ = w3
        have hb3 : Below w2.heap.size w2 w3 := by rw [← hw3]; exact below_drewNb _ _
        clear hw3
        go_wp2
        go_roundw
        case rel => exact ⟨2, by decide, rfl, Hr.out, HT2.out.keep hb3⟩
        case measure => simp [intOf]
      · have Hr := Lib.hid (ordI_gt (Int.ofNat_lt.2 (wd_lt Heq.out.symm hl)))
        have hn : ¬ wd X 2 < wd Y 2 := by omega
        go_wp2
        go_quiet (fail)
        generalize hw2 : World.drewN _ _ = w2
        have hb2 : Below wr.heap.size wr w2 := by rw [← hw2]; exact below_drewNb _ _
        clear hw2
        go_wp2
        clear c0 c1 c2 c3 c4 d0 d1 d2 d3 d4
        have HT2 := Lib.hid (HT.out.keep hb2)
        obtain ⟨⟨c0, c1, c2, c3, c4⟩, -⟩ := blk5 HT2.out.one
        obtain ⟨⟨d0, d1, d2, d3, d4⟩, -⟩ := blk5 HT2.out.two
        go_wp2
        go_quiet (fail)
        generalize hw3 : World.drewN _ _ = w3
        have hb3 : Below w2.heap.size w2 w3 := by rw [← hw3]; exact below_drewNb _ _
        clear hw3
        go_wp2
        go_ret
        exact ⟨by rw [Hr.out]; rfl, (HT2.out.keep hb3).below⟩
    · skip
      have h3 := Int.lt_trichotomy (wd X 3) (wd Y 3)
      rcases h3 with hl | hl | hl
      · have Hr := Lib.hid (ordI_lt (Int.ofNat_lt.2 (wd_lt Heq.out hl)))
        go_wp2
        go_quiet (fail)
        generalize hw2 : World.drewN _ _ = w2
        have hb2 : Below wr.heap.size wr w2 := by rw [← hw2]; exact below_drewNb _ _
        clear hw2
        go_wp2
        go_ret
        exact ⟨by rw [Hr.out]; rfl, HT.out.below.trans (hb2.mono HT.out.below.size)⟩
      · have Hr := Lib.hid (wd_eq Heq.out hl)
        have hn : ¬ wd X 3 < wd Y 3 := by omega
        have hn2 : ¬ wd Y 3 < wd X 3 := by omega
        clear hl
        go_wp2
        go_quiet (fail)
        generalize hw2 : World.drewN _ _ = w2
        have hb2 : Below wr.heap.size wr w2 := by rw [← hw2]; exact below_drewNb _ _
        clear hw2
        go_wp2
        clear c0 c1 c2 c3 c4 d0 d1 d2 d3 d4
        have HT2 := Lib.hid (HT.out.keep hb2)
        obtain ⟨⟨c0, c1, c2, c3, c4⟩, -⟩ := blk5 HT2.out.one
        obtain ⟨⟨d0, d1, d2, d3, d4⟩, -⟩ := blk5 HT2.out.two
        go_wp2
        go_quiet (fail)
        generalize hw3 : World.drewN _ _ = w3
        have hb3 : Below w2.heap.size w2 w3 := by rw [← hw3]; exact below_drewNb _ _
        clear hw3
        go_wp2
        go_roundw
        case rel => exact ⟨3, by decide, rfl, Hr.out, HT2.out.keep hb3⟩
        case measure => simp [intOf]
      · have Hr := Lib.hid (ordI_gt (Int.ofNat_lt.2 (wd_lt Heq.out.symm hl)))
        have hn : ¬ wd X 3 < wd Y 3 := by omega
        go_wp2
        go_quiet (fail)
        generalize hw2 : World.drewN _ _ = w2
        have hb2 : Below wr.heap.size wr w2 := by rw [← hw2]; exact below_drewNb _ _
        clear hw2
        go_wp2
        clear c0 c1 c2 c3 c4 d0 d1 d2 d3 d4
        have HT2 := Lib.hid (HT.out.keep hb2)
        obtain ⟨⟨c0, c1, c2, c3, c4⟩, -⟩ := blk5 HT2.out.one
        obtain ⟨⟨d0, d1, d2, d3, d4⟩, -⟩ := blk5 HT2.out.two
        go_wp2
        go_quiet (fail)
        generalize hw3 : World.drewN _ _ = w3
        have hb3 : Below w2.heap.size w2 w3 := by rw [← hw3]; exact below_drewNb _ _
        clear hw3
        go_wp2
        go_ret
        exact ⟨by rw [Hr.out]; rfl, (HT2.out.keep hb3).below⟩
end Go.Proofs.Ytcdaipkkddgbeaa
