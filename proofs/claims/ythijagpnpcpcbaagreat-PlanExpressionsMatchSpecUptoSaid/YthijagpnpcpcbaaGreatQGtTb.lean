/-
  plan.Shift.
  plan.copyExpr.
  plan.conjuncts.
  plan.Conjuncts.
-/
import Derived.Test.YthijagpnpcpcbaaGreatQGtSa
namespace Go.Proofs.YthijagpnpcpcbaaGreat
open Go.RowKit Go.Sort
/-- Shift's mapper. -/
def MSh (B b4 b5 b8 : Nat) (frm by' : Int) (hfr : I64 frm) (hby : I64 by') (h48 : b4 ≠ b8) (h58 : b5 ≠ b8) : Mpr ((Int × DT → Prop) × Bool) where
  C := CSh B b4 b5 b8 frm by'
  mem := fun s v => s.1 v
  cnt := fun _ => 0
  g := 35
  lb := #[.pointer (some ⟨b4, 0, none⟩), .pointer (some ⟨b5, 0, none⟩), .pointer (some ⟨b8, 0, none⟩)]
  eg := enters_of Tryz.func35 (by kernel_rfl) rfl
  m := shCm frm by'
  col := fun s W d x hd hd2 hst hx _ hk _ => shift1_any B b4 b5 b8 frm by' hfr hby h48 h58 s W d x hd hd2 hst hx hk
/-- The zero expression, as a tree. -/
def zTr : DT := .node zEx [[], [], [], []]
theorem zTr_in (S : Nat → Prop) (w : World) : UIn S w .expr zTr := by
  have hr : ∀ sz, DRow S w sz none 0 [] := fun sz => ⟨Nat.le_refl _, by unfold maxLen; omega, fun i x h => by simp at h⟩
  refine UIn.mkK rfl rfl ⟨⟨0, 0, 0, 0, 0, 0, 0, 0, 0, ⟨#[]⟩⟩, .slice none 0 0, .slice none 0 0, .slice none 0 0, .slice none 0 0, rfl, ?_⟩ ⟨⟨none, 0, rfl, hr _, fun _ h => by cases h⟩, ⟨none, 0, rfl, hr _, fun _ h => by cases h⟩, ⟨none, 0, rfl, hr _, fun _ h => by cases h⟩, ⟨none, 0, rfl, hr _, fun _ h => by cases h⟩, trivial⟩
  refine ⟨?_, ?_, ?_, ?_, ?_, ?_, ?_, ?_, ?_, by show (0:Nat) ≤ _; unfold maxLen; omega⟩ <;> (show I64 0; unfold I64; omega)
def CBs (B : Nat) : Cl Unit := { CB B with sh := fun k => k < B, shB := fun _ h => h }
/-- What Shift comes to. -/
def ShPost (B : Nat) (frm by' : Int) (x : DT) (w : World) (e : Ending) (w' : World) : Prop :=
  ∃ (y : DT) (f : Int), e = .returned (.tuple #[.agg y.c.toArray, .int .i64 f]) ∧ Below w.heap.size w w' ∧ UIn (Nw (CBs B) w.heap.size () w') w' .expr y ∧
    (((∃ v, Vs (shCm frm by') .expr 0 x v ∧ shBad frm by' v) ∧ f = 3 ∧ y = zTr) ∨ ((∀ v, Vs (shCm frm by') .expr 0 x v → ¬ shBad frm by' v) ∧ f = 0 ∧ Mp (shCm frm by') .expr 0 x y))
set_option maxRecDepth 100000 in
set_option maxHeartbeats 4000000 in
theorem shift_any (B : Nat) (frm by' : Int) (hfr : I64 frm) (hby : I64 by') (x : DT) (w : World) (hB : B ≤ w.heap.size) (hn : x.n ≤ 1048576) (hx : UIn (fun k => k < B) w .expr x) : Calls Tryz.prog 15 #[.agg x.c.toArray, .int .i64 frm, .int .i64 by'] w (ShPost B frm by' x w) := by
  obtain ⟨w1, hw1⟩ : ∃ w1, w.alloc (.cells x.c.toArray 31) = w1 := ⟨_, rfl⟩
  obtain ⟨w2, hw2⟩ : ∃ w2, w1.alloc (.cells #[.int .i64 frm] 3) = w2 := ⟨_, rfl⟩
  obtain ⟨w3, hw3⟩ : ∃ w3, w2.alloc (.cells #[.int .i64 by'] 3) = w3 := ⟨_, rfl⟩
  obtain ⟨w4, hw4⟩ : ∃ w4, w3.alloc (.cells #[.int .i64 0, .int .i64 0, .int .i64 0, .int .i64 0, .int .i64 0, .int .i64 0, .slice none 0 0, .int .i64 0, .int .i64 0, .int .i64 0, .string ⟨#[]⟩, .slice none 0 0, .slice none 0 0, .slice none 0 0] 31) = w4 := ⟨_, rfl⟩
  obtain ⟨w5, hw5⟩ : ∃ w5, w4.alloc (.cells #[.bool false] 4) = w5 := ⟨_, rfl⟩
  have hz1 : w1.heap.size = w.heap.size + 1 := by rw [← hw1]; simp
  have hz2 : w2.heap.size = w.heap.size + 2 := by rw [← hw2]; simp [hz1]
  have hz3 : w3.heap.size = w.heap.size + 3 := by rw [← hw3]; simp [hz2]
  have hz4 : w4.heap.size = w.heap.size + 4 := by rw [← hw4]; simp [hz3]
  have hz5 : w5.heap.size = w.heap.size + 5 := by rw [← hw5]; simp [hz4]
  have k1 : Hid (Bk w5 w.heap.size x.c 31) := by show Bk _ _ _ _; rw [← hw5, ← hw4, ← hw3, ← hw2, ← hw1]; exact ((((Bk.new w x.c _).alloc _).alloc _).alloc _).alloc _
  have k2 : Hid (Bk w5 (w.heap.size + 1) [.int .i64 frm] 3) := by show Bk _ _ _ _; rw [← hw5, ← hw4, ← hw3, ← hw2, ← hz1]; exact (((Bk.new w1 [.int .i64 frm] _).alloc _).alloc _).alloc _
  have k3 : Hid (Bk w5 (w.heap.size + 2) [.int .i64 by'] 3) := by show Bk _ _ _ _; rw [← hw5, ← hw4, ← hw3, ← hz2]; exact ((Bk.new w2 [.int .i64 by'] _).alloc _).alloc _
  have k4 : Hid (Bk w5 (w.heap.size + 3) zEx 31) := by show Bk _ _ _ _; rw [← hw5, ← hw4, ← hz3]; exact (Bk.new w3 zEx _).alloc _
  have k5 : Hid (Bk w5 (w.heap.size + 4) [.bool false] 4) := by show Bk _ _ _ _; rw [← hw5, ← hz4]; exact Bk.new w4 [.bool false] _
  have hbw : Hid (Below w.heap.size w w5) := by show Below _ _ _; rw [← hw5, ← hw4, ← hw3, ← hw2, ← hw1]; exact (((((Below.refl _ _).alloc (Nat.le_refl _) _).alloc (by simp) _).alloc (by simp; omega) _).alloc (by simp; omega) _).alloc (by simp; omega) _
  have Hx := Lib.hid hx
  have Hi : Hid ((Tryz.prog.info? 31).map (·.size) = some x.c.length) := by show _ = _; rw [hx.len]; exact uClExpr1
  have Hie := Lib.hid uClExpr1
  have Him := Lib.hid uIm
  have Hbl := Lib.hid uBool1
  have HC : Hid (∀ w7 w8, Wrt w5 (w.heap.size + 4) [.bool false] 4 w7 → Wrt (w7.alloc (.cells #[.nilFunc] 73)) (w.heap.size + 5) [.func (.func 35) #[] #[.pointer (some ⟨w.heap.size + 1, 0, none⟩), .pointer (some ⟨w.heap.size + 2, 0, none⟩), .pointer (some ⟨w.heap.size + 4, 0, none⟩)]] 73 w8 →
      Below w.heap.size w w8 ∧ w8.heap.size = w.heap.size + 6 ∧ Bk w8 w.heap.size x.c 31 ∧ Bk w8 (w.heap.size + 3) zEx 31 ∧ Calls Tryz.prog 36 #[.agg #[.func (.func 35) #[] #[.pointer (some ⟨w.heap.size + 1, 0, none⟩), .pointer (some ⟨w.heap.size + 2, 0, none⟩), .pointer (some ⟨w.heap.size + 4, 0, none⟩)]], .agg x.c.toArray, .int .i64 0] w8 fun e w9 => ∃ (y : DT) (fl : Bool), e = .returned (.agg y.c.toArray) ∧
        Below w.heap.size w w9 ∧ w.heap.size + 6 ≤ w9.heap.size ∧ UIn (Nw (CBs B) (w.heap.size + 6) () w9) w9 .expr y ∧ Mp (shCm frm by') .expr 0 x y ∧ (fl = true ↔ ∃ v, Vs (shCm frm by') .expr 0 x v ∧ shBad frm by' v) ∧ Bk w9 (w.heap.size + 4) [.bool fl] 4 ∧ Bk w9 (w.heap.size + 3) zEx 31) := by
    intro w7 w8 h7 h8
    have hz7 : w7.heap.size = w.heap.size + 5 := h7.size.trans hz5
    have hz8 : w8.heap.size = w.heap.size + 6 := by rw [h8.size]; simp [hz7]
    have b7 : Below w.heap.size w w7 := Fr.toBelow hbw.out h7 (by omega)
    have b7' : Below w.heap.size w (w7.alloc (.cells #[.nilFunc] 73)) := b7.alloc (by omega) _
    have b8 : Below w.heap.size w w8 := Fr.toBelow b7' h8 (by omega)
    have j1 := (((k1.out.wrt h7 (by omega)).alloc (.cells #[.nilFunc] 73)).wrt h8 (by omega))
    have j2 := (((k2.out.wrt h7 (by omega)).alloc (.cells #[.nilFunc] 73)).wrt h8 (by omega))
    have j3 := (((k3.out.wrt h7 (by omega)).alloc (.cells #[.nilFunc] 73)).wrt h8 (by omega))
    have j4 := (((k4.out.wrt h7 (by omega)).alloc (.cells #[.nilFunc] 73)).wrt h8 (by omega))
    have j5 := ((h7.bk.alloc (.cells #[.nilFunc] 73)).wrt h8 (by omega))
    have hst : (MSh B (w.heap.size + 1) (w.heap.size + 2) (w.heap.size + 4) frm by' hfr hby (by omega) (by omega)).C.St (fun _ => False, false) w8 := by
      refine ⟨by rw [hz8]; omega, Iff.intro (fun h => by cases h) (fun h => h.choose_spec.1.elim), fun p hp => ?_⟩
      simp only [List.mem_cons, List.not_mem_nil, or_false] at hp
      rcases hp with rfl | rfl | rfl
      · exact ⟨by show B ≤ w.heap.size + 1; omega, j2⟩
      · exact ⟨by show B ≤ w.heap.size + 2; omega, j3⟩
      · exact ⟨by show B ≤ w.heap.size + 4; omega, j5⟩
    refine ⟨b8, hz8, j1, j4, ((mexpr_any (MSh B (w.heap.size + 1) (w.heap.size + 2) (w.heap.size + 4) frm by' hfr hby (by omega) (by omega)) x 0 (fun _ => False, false) w8 (Int.le_refl _) (by omega) hst (hx.keep (fun k hk => b8.block k (by omega)) fun _ h => h) (by show 0 + _ ≤ _; omega)).mono ?_)⟩
    rintro e w9 ⟨y, s', rfl, hf, hv, hy, hm⟩
    have hO : ∀ k, (MSh B (w.heap.size + 1) (w.heap.size + 2) (w.heap.size + 4) frm by' hfr hby (by omega) (by omega)).C.O (fun _ => False, false) k → k = w.heap.size + 1 ∨ k = w.heap.size + 2 ∨ k = w.heap.size + 4 := by
      rintro k ⟨_, p, hp, rfl⟩
      simp only [List.mem_cons, List.not_mem_nil, or_false] at hp
      rcases hp with rfl | rfl | rfl
      · exact .inl rfl
      · exact .inr (.inl rfl)
      · exact .inr (.inr rfl)
    have hs9 := hf.size
    have hfo := hf.st.2.1
    refine ⟨y, s'.2, rfl, ⟨hf.os.trans b8.os, hf.tape.trans b8.tape, hf.output.trans b8.output, by omega, fun k hk => (hf.block k (by omega) fun e => by have := hO k e; omega).trans (b8.block k hk)⟩, by omega, hy.keep (fun _ _ => rfl) fun k hk => ?_, hm, ?_, (hf.st.2.2 (w.heap.size + 4, 4, [.bool s'.2]) (by simp)).2, j4.fr hf fun e => by have := hO _ e; omega⟩
    · obtain ⟨h1, h2, _⟩ := hk
      refine ⟨?_, h2, fun e => e⟩
      rcases h1 with h1 | h1
      · exact .inl h1
      · exact .inr (by omega)
    · rw [show s'.2 = true ↔ ∃ v, s'.1 v ∧ shBad frm by' v from hfo]
      constructor
      · rintro ⟨v, h1, h2⟩
        exact ⟨v, ((hv.1 v).1 h1).resolve_left fun h => h, h2⟩
      · rintro ⟨v, h1, h2⟩
        exact ⟨v, (hv.1 v).2 (.inr h1), h2⟩
  clear hx
  go_enter Tryz.func15, Tryz.ntmps15
  go_upto_if 16 with (first
    | (refine wpList_store_blk rfl 4 _ _ rfl _ 0 _ _ [.bool false] rfl rfl k5.out Hbl.out (by simp) rfl ?_; intro w7 hw7; have hz7 := hw7.size.trans hz5; have k7 := Lib.hid (show Bk (w7.alloc (.cells #[.nilFunc] 73)) (w.heap.size + 5) [.nilFunc] 73 by rw [← hz7]; exact Bk.new w7 [.nilFunc] _))
    | (refine wpList_store_blk rfl 73 _ _ rfl _ 0 _ _ [.func (.func 35) #[] #[.pointer (some ⟨w.heap.size + 1, 0, none⟩), .pointer (some ⟨w.heap.size + 2, 0, none⟩), .pointer (some ⟨w.heap.size + 4, 0, none⟩)]] rfl rfl k7.out Him.out (by simp) rfl ?_; intro w8 hw8; obtain ⟨b8, hz8, j1, j4, hcl⟩ := HC.out _ _ hw7 hw8; have J1 := Lib.hid j1; have J4 := Lib.hid j4; have Hcl := Lib.hid hcl; have k8 := Lib.hid hw8.bk; have B8 := Lib.hid b8; clear j1 j4 hcl hw8 hw7 b8)
    | (refine wpList_load_part rfl 73 _ rfl _ Tryz.underlying73 rfl _ _ _ _ [.func (.func 35) #[] #[.pointer (some ⟨w.heap.size + 1, 0, none⟩), .pointer (some ⟨w.heap.size + 2, 0, none⟩), .pointer (some ⟨w.heap.size + 4, 0, none⟩)]] rfl k8.out Him.out rfl ?_)
    | (refine wpList_load_part rfl 31 _ rfl _ Tryz.underlying31 rfl _ _ _ _ x.c rfl J1.out Hi.out (by rw [List.drop_zero, List.take_length]) ?_)
    | (go_at_call 36; refine Hcl.out.mono ?_; rintro e w9 ⟨y, fl, rfl, b9, hz9, hy, hm, hfl, c5, c4⟩; have Hy := Lib.hid hy; have y14 : Hid (y.c.toArray.size = 14) := (by show _ = _; rw [List.size_toArray, hy.len]; rfl); have yi : Hid ((Tryz.prog.info? 31).map (·.size) = some y.c.length) := (by show _ = _; rw [hy.len]; exact uClExpr1); have y1 := Lib.hid (all_one hy.ones); have C5 := Lib.hid c5; have C4 := Lib.hid c4; have Hm := Lib.hid hm; have Hfl := Lib.hid hfl; have B9 := Lib.hid b9; clear hy c5 c4 hm hfl b9)
    | (refine wpList_store_st rfl 31 _ _ rfl _ y.c.toArray (by simpa using yi.out) y14.out.symm y1.out rfl rfl ?_; obtain ⟨wa, hwa⟩ : ∃ wa, w9.alloc (.cells y.c.toArray 31) = wa := ⟨_, rfl⟩; have D5 : Hid (Bk wa (w.heap.size + 4) [.bool fl] 4) := (by show Bk _ _ _ _; rw [← hwa]; exact C5.out.alloc _); have D4 : Hid (Bk wa (w.heap.size + 3) zEx 31) := (by show Bk _ _ _ _; rw [← hwa]; exact C4.out.alloc _); have D6 : Hid (Bk wa w9.heap.size y.c 31) := (by show Bk _ _ _ _; rw [← hwa]; exact Bk.new w9 y.c _); have Ha := Lib.hid hwa; rw [hwa])
    | (refine wpList_load_one rfl 4 _ rfl _ Tryz.underlying4 rfl _ 0 _ _ _ rfl D5.out rfl ?_))
  have Hbx : Hid (Below w.heap.size w wa) := by show Below _ _ _; rw [← Ha.out]; exact B9.out.alloc (by omega) _
  have HyA : Hid (UIn (Nw (CBs B) (w.heap.size + 6) () wa) wa .expr y) := by
    show UIn _ _ _ _
    refine Hy.out.keep (fun k hk => ?_) fun k hk => ⟨hk.1, ?_, hk.2.2⟩
    · rw [← Ha.out]; exact Below.heap_alloc w9 _ k hk.2.1
    · rw [← Ha.out]; have := hk.2.1; simp; omega
  cases fl with
  | true =>
    go_wp2_with (refine wpList_store_blk rfl 31 _ _ rfl _ 0 _ _ zEx rfl rfl D4.out Hie.out (by simp [zEx]) rfl ?_; intro wb hwb)
    refine bodyPost_blk2 rfl (w.heap.size + 3) zEx _ (.int .i64 3) rfl rfl _ hwb.bk Tryz.underlying31 rfl Hie.out rfl ?_
    exact ⟨zTr, 3, rfl, Fr.toBelow Hbx.out hwb (by omega), zTr_in _ _, .inl ⟨Hfl.out.1 (by simp), rfl, rfl⟩⟩
  | false =>
    go_wp2_with (first
      | (refine wpList_load_part rfl 31 _ rfl _ Tryz.underlying31 rfl _ _ _ _ y.c rfl D6.out yi.out (by rw [List.drop_zero, List.take_length]) ?_)
      | (refine wpList_store_blk rfl 31 _ _ rfl _ 0 _ _ y.c rfl rfl D4.out yi.out (by simpa [zEx] using Nat.le_of_eq y14.out) (by simpa using y1.out) ?_; intro wb hwb))
    rw [setL_all _ _ (by simpa [zEx] using y14.out)] at hwb
    refine bodyPost_blk2 rfl (w.heap.size + 3) y.c _ (.int .i64 0) rfl rfl _ hwb.bk Tryz.underlying31 rfl yi.out rfl ?_
    refine ⟨y, 0, rfl, Fr.toBelow Hbx.out hwb (by omega), ?_, .inr ⟨fun v hv hb => ?_, rfl, Hm.out⟩⟩
    · exact (HyA.out.wrt hwb (by show B ≤ _; omega) (by omega)).lower (by omega)
    · have := Hfl.out.2 ⟨v, hv, hb⟩
      cases this
end Go.Proofs.YthijagpnpcpcbaaGreat
namespace Go.Proofs.YthijagpnpcpcbaaGreat
open Go.RowKit Go.Sort
set_option maxRecDepth 100000 in
set_option maxHeartbeats 4000000 in
theorem copyExpr_any (B : Nat) (x : DT) (s : Unit) (W : World) (hB : B ≤ W.heap.size) (hn : x.n ≤ 1048576) (hx : UIn (fun k => k < B) W .expr x) : Calls Tryz.prog 22 #[.agg x.c.toArray] W (OnePost (CB B) (fun _ => True) (USm .expr) .expr x s W) := by
  obtain ⟨w1, hw1⟩ : ∃ w1, W.alloc (.cells x.c.toArray 31) = w1 := ⟨_, rfl⟩
  obtain ⟨w2, hw2⟩ : ∃ w2, w1.alloc (.cells #[.int .i64 0, .int .i64 0, .int .i64 0, .int .i64 0, .int .i64 0, .int .i64 0, .slice none 0 0, .int .i64 0, .int .i64 0, .int .i64 0, .string ⟨#[]⟩, .slice none 0 0, .slice none 0 0, .slice none 0 0] 31) = w2 := ⟨_, rfl⟩
  have hz1 : w1.heap.size = W.heap.size + 1 := by rw [← hw1]; simp
  have hz2 : w2.heap.size = W.heap.size + 2 := by rw [← hw2]; simp [hz1]
  have hb1 : Bk w2.drew W.heap.size x.c 31 := by rw [← hw2, ← hw1]; exact (Bk.new W x.c _).alloc _
  have hb2 : Bk w2.drew (W.heap.size + 1) zEx 31 := by rw [← hw2, ← hz1]; exact Bk.new w1 zEx _
  have hbw : Below W.heap.size W w2.drew := by rw [← hw2, ← hw1]; exact (((Below.refl _ _).alloc (Nat.le_refl _) _).alloc (by simp) _).drew
  have H1 := Lib.hid hb1
  have H2 := Lib.hid hb2
  have Hbw := Lib.hid hbw
  have Hi : Hid ((Tryz.prog.info? 31).map (·.size) = some x.c.length) := by show _ = _; rw [hx.len]; exact uClExpr1
  have hcall : ∀ w3, Below w2.drew.heap.size w2.drew w3 → Calls Tryz.prog 36 #[.agg #[(Msame B).v], .agg x.c.toArray, .int .i64 0] w3 (MPost (Msame B) .expr 0 x () w3) := fun w3 h => by
    have hz : W.heap.size + 2 ≤ w3.heap.size := by have := h.size; simp [hz2] at this; exact this
    refine mexpr_any (Msame B) x 0 () w3 (Int.le_refl _) (by omega) (by show B ≤ _; omega) (hx.keep (fun k hk => ?_) fun _ h => h) (by show 0 + _ ≤ _; omega)
    have hk' : k < B := hk
    have hz' : w2.drew.heap.size = W.heap.size + 2 := hz2
    exact (h.block k (by omega)).trans (Hbw.out.block k (by omega))
  have Hc := Lib.hid hcall
  have Hs := Lib.hid (same_any B w2.drew)
  clear hb1 hb2 hbw hx hcall
  go_enter Tryz.func22, Tryz.ntmps22
  go_upto_region 1 with (fail)
  have hD := H1.out
  refine wp_region_split 3 (fun w' => Bk w' W.heap.size x.c 31) (by kernel_rfl) (by kernel_rfl) ?_
  simp only [List.take_succ_cons, List.take_zero, List.drop_succ_cons, List.drop_zero]
  refine take_op (i := 1) (v := .agg x.c.toArray) rfl rfl (by kernel_rfl) (by kernel_rfl) (by kernel_rfl) (fun _ _ _ h => h) (yields_load_part rfl 31 _ rfl _ Tryz.underlying31 rfl _ _ _ _ x.c rfl (fun _ h => h) Hi.out (by rw [List.drop_zero, List.take_length])) hD ?_
  simp only [List.setIfInBounds_toArray, List.set_cons_zero, List.set_cons_succ]
  refine call_op (i := 0) (by kernel_rfl) rfl rfl rfl 41 #[] (by go_simp) (Hs.out.mono ?_)
  rintro e w3 ⟨rfl, hb3⟩
  have hz3 := hb3.size
  have hz2' : w2.drew.heap.size = W.heap.size + 2 := hz2
  refine ⟨_, rfl, (hb3.block _ (by omega)).trans hD, ?_⟩
  simp only [List.setIfInBounds_toArray, List.set_cons_zero, List.set_cons_succ]
  refine call_op (i := 2) (by kernel_rfl) rfl rfl rfl 36 #[.agg #[(Msame B).v], .agg x.c.toArray, .int .i64 0] (by go_simp) ((Hc.out w3 hb3).mono ?_)
  rintro e w4 ⟨y, s', rfl, hf, _, hy, hm⟩
  have hb4 := Fr.toB hf
  have k1 : Bk w4 W.heap.size x.c 31 := (hb4.block _ (by omega)).trans ((hb3.block _ (by omega)).trans hD)
  have k2 : Bk w4 (W.heap.size + 1) zEx 31 := (hb4.block _ (by omega)).trans ((hb3.block _ (by omega)).trans H2.out)
  refine ⟨_, rfl, k1, ?_⟩
  simp only [List.setIfInBounds_toArray, List.set_cons_zero, List.set_cons_succ]
  refine done_op (by kernel_rfl) ?_
  have K2 := Lib.hid k2
  have y14 : Hid (y.c.toArray.size = 14) := by show _ = _; rw [List.size_toArray, hy.len]; rfl
  have yi : Hid ((Tryz.prog.info? 31).map (·.size) = some y.c.length) := by show _ = _; rw [hy.len]; exact uClExpr1
  have y1 := Lib.hid (all_one hy.ones)
  have Hy := Lib.hid hy
  have Hf := Lib.hid hf
  have Hm := Lib.hid hm
  have Hb3 := Lib.hid hb3
  clear hy hf hm k1 k2 hb3 hb4 hD
  go_wp2_with (refine wpList_store_blk rfl 31 _ _ rfl _ 0 _ _ y.c rfl rfl K2.out yi.out (by simpa [zEx] using Nat.le_of_eq y14.out) (by simpa using y1.out) ?_; intro w5 hw5)
  rw [setL_all _ _ (by simpa [zEx] using y14.out)] at hw5
  refine bodyPost_blk rfl (W.heap.size + 1) y.c _ rfl _ hw5.bk Tryz.underlying31 rfl yi.out rfl ?_
  have hst : (CB B).St s W := hB
  have f1 : Fr (CB B) s W s w2.drew := Fr.below hst Hbw.out
  have f3 : Fr (CB B) s W s w3 := f1.trans (Fr.below f1.st Hb3.out)
  have f4 : Fr (CB B) s W s' w4 := f3.trans Hf.out
  have f5 := f4.wrt hw5 (by omega) (fun e => e) (by show B ≤ _; omega)
  refine ⟨y, s', rfl, f5, trivial, ((Hy.out.wrt hw5 (by show B ≤ _; omega) (by omega)).lower (by omega)), Hm.out.same⟩
end Go.Proofs.YthijagpnpcpcbaaGreat
namespace Go.Proofs.YthijagpnpcpcbaaGreat
open Go.RowKit Go.Sort
section
variable {P : Program} {ops : Array Oper} {S : World → Prop}
/-- A load of a struct that lies anywhere, anywhere in the head. -/
theorem yields_load_st {o : Oper} {a : Act} (hgd : o.guard = none) (t : TypeId) (x : Operand) (ho : o.op = .load t x) (d : TypeDesc)
    (hu : P.underlying t = some d) (hd : d.isRow = true) (ad : Addr) (cs : List Value) (hx : a.eval x = .pointer (some ad)) (hi : (P.info? t).map (·.size) = some cs.length) (hb : ∀ w, S w → ∀ j u, cs[j]? = some u → w.cell? (ad.add j) = some u) : YieldsIf P ops S o (.agg cs.toArray) a :=
  .inl ⟨by unfold Region.wanted; rw [hgd], fun w hw => by
    have hr := run_loadAt_st (P := P) w t d ad cs (hb w hw) hu hd hi
    unfold execOp
    simp only [ho, hx, Sem.run_bind, hr, Result.andThen_ok, Sem.run_pure]⟩
end
/-- The operation of an expression; its arguments. -/
def opOf (c : List Value) : Int :=
  match c with
  | _ :: .int .i64 u :: _ => u
  | _ => 0
def argsOf (x : DT) : List DT :=
  match x with
  | .node _ [_, _, az, _] => az
  | _ => []
/-- The operands of a conjunction. -/
def isAndB (x : DT) : Bool := decide (kd x.c = 3) && decide (opOf x.c = 6) && decide ((argsOf x).length = 2)
def conj : Nat → DT → List DT
  | 0, x => [x]
  | N + 1, x => if isAndB x then (argsOf x).flatMap (conj N) else [x]
theorem conj_in {S : Nat → Prop} {w : World} : ∀ (N : Nat) {x : DT}, UIn S w .expr x → ∀ y, y ∈ conj N x → UIn S w .expr y ∧ y.n ≤ x.n := by
  intro N
  induction N with
  | zero => intro x hx y hy; simp [conj] at hy; subst hy; exact ⟨hx, Nat.le_refl _⟩
  | succ N ih =>
    intro x hx y hy
    unfold conj at hy
    split at hy
    · obtain ⟨z, hz, hy'⟩ := List.mem_flatMap.1 hy
      clear hy
      obtain ⟨a, F, fc, fz, V, vc, vz, A, ac, az, B, sc, sz, he⟩ := hx.ex
      obtain rfl := he.e
      obtain ⟨h1, h2⟩ := ih (he.ia z hz) y hy'
      have := n_mem hz
      refine ⟨h1, ?_⟩
      rw [DT.n_node]
      simp only [argsOf] at this
      simp
      omega
    · simp at hy; subst hy; exact ⟨hx, Nat.le_refl _⟩
theorem conj_len : ∀ (N : Nat) (x : DT), (conj N x).length ≤ x.n := by
  intro N
  induction N with
  | zero => intro x; exact x.n_pos
  | succ N ih =>
    intro x
    unfold conj
    split
    · obtain ⟨c, k⟩ := x
      match k with
      | [fz, vz, az, sz] =>
        have h : ∀ l : List DT, (l.flatMap (conj N)).length ≤ nL l := by
          intro l
          induction l with
          | nil => simp
          | cons y l ihl => simp only [List.flatMap_cons, List.length_append]; have := ih y; rw [nL_cons]; omega
        refine Nat.le_trans (h az) ?_
        rw [DT.n_node]
        simp
        omega
      | [] => simp [argsOf]
      | [_] => simp [argsOf]
      | [_, _] => simp [argsOf]
      | [_, _, _] => simp [argsOf]
      | _ :: _ :: _ :: _ :: _ :: _ => simp [argsOf]
    · exact x.n_pos
theorem isAnd_any (x : DT) (S : Nat → Prop) (w : World) (hx : UIn S w .expr x) : Calls Tryz.prog 40 #[.agg x.c.toArray] w fun e w' => e = .returned (.bool (isAndB x)) ∧ Below w.heap.size w w' := by
  obtain ⟨a, F, fc, fz, V, vc, vz, A, ac, az, B, sc, sz, he⟩ := hx.ex
  obtain rfl := he.e
  have hd : isAndB ((.node [.int .i64 a.k, .int .i64 a.op, .int .i64 a.up, .int .i64 a.pos, .int .i64 a.tk, .int .i64 a.tsc, .slice F fz.length fc, .int .i64 a.vk, .int .i64 a.vn, .int .i64 a.vsc, .string a.s, .slice V vz.length vc, .slice A az.length ac, .slice B sz.length sc] [fz, vz, az, sz]) : DT) = (decide (a.k = 3) && decide (a.op = 6) && decide (az.length = 2)) := by
    rfl
  rw [hd]
  show Calls _ _ #[.agg #[.int .i64 a.k, .int .i64 a.op, .int .i64 a.up, .int .i64 a.pos, .int .i64 a.tk, .int .i64 a.tsc, .slice F fz.length fc, .int .i64 a.vk, .int .i64 a.vn, .int .i64 a.vsc, .string a.s, .slice V vz.length vc, .slice A az.length ac, .slice B sz.length sc]] _ _
  obtain ⟨n, hn⟩ : ∃ n, az.length = n := ⟨_, rfl⟩
  rw [hn]
  clear he hx hn hd
  by_cases h1 : a.k = 3
  · by_cases h2 : a.op = 6
    · go_enter Tryz.func40, Tryz.ntmps40
      go_wp2
      go_ret
      have hq : ((n : Int) == 2) = decide (n = 2) := by rw [Bool.eq_iff_iff]; simp; omega
      exact ⟨by simp [h1, h2, hq], (by first | exact Below.refl _ _ | exact bel1 _ _ | exact bel2 _ _ _ | exact bel3 _ _ _ _ | assumption)⟩
    · go_enter Tryz.func40, Tryz.ntmps40
      go_wp2
      go_ret
      exact ⟨by simp [h1, h2], (by first | exact Below.refl _ _ | exact bel1 _ _ | exact bel2 _ _ _ | exact bel3 _ _ _ _ | assumption)⟩
  · go_enter Tryz.func40, Tryz.ntmps40
    go_wp2
    go_ret
    exact ⟨by simp [h1], (by first | exact Below.refl _ _ | exact bel1 _ _ | exact bel2 _ _ _ | exact bel3 _ _ _ _ | assumption)⟩
theorem own_base {w : World} {b b' e size n : Nat} {v : Value} {xs : List Value} (h : w.ownsRow b e size v n xs) (hb : b' ≤ b) : w.ownsRow b' e size v n xs := by
  refine ⟨h.1, ?_⟩
  rcases h.2 with h | ⟨g, cap, cur, e1, e2, r⟩
  · exact .inl h
  · exact .inr ⟨g, cap, cur, e1, by omega, r⟩
/-- What conjuncts comes to. -/
def ConjPost (N : Nat) (x : DT) (w : World) (e : Ending) (w' : World) : Prop := ∃ v, e = .returned v ∧ w'.ownsRow w.heap.size 31 14 v (conj N x).length ((conj N x).flatMap DT.c) ∧ Below w.heap.size w w'
set_option maxRecDepth 100000 in
set_option maxHeartbeats 4000000 in
theorem conjuncts_any (B : Nat) : ∀ (N : Nat) (x : DT) (w : World), x.n ≤ N → x.n ≤ 1048576 → B ≤ w.heap.size → UIn (fun k => k < B) w .expr x → Calls Tryz.prog 21 #[.agg x.c.toArray] w (ConjPost N x w) := by
  intro N
  induction N with
  | zero => intro x w hn; have := x.n_pos; omega
  | succ N ih =>
    intro x w hn hn2 hB hx
    obtain ⟨i0, hi, hrest⟩ := Option.map_eq_some_iff.1 infoExp_u
    simp only [Prod.mk.injEq] at hrest
    obtain ⟨hz0, isz, iby⟩ := hrest
    obtain ⟨z, iz, hzs⟩ := Option.map_eq_some_iff.1 hz0
    obtain ⟨w1, hw1⟩ : ∃ w1, w.alloc (.cells x.c.toArray 31) = w1 := ⟨_, rfl⟩
    have hz1 : w1.heap.size = w.heap.size + 1 := by rw [← hw1]; simp
    have hb1 : Bk w1 w.heap.size x.c 31 := by rw [← hw1]; exact Bk.new w x.c _
    have hbw : Below w.heap.size w w1 := by rw [← hw1]; exact bel1 _ _
    have Hi : Hid ((Tryz.prog.info? 31).map (·.size) = some x.c.length) := by show _ = _; rw [hx.len]; exact uClExpr1
    have hx1 := hx.keep (fun k hk => hbw.block k (by have hk' : k < B := hk; omega)) fun _ h => h
    have Hia := Lib.hid (isAnd_any x _ w1 hx1)
    have H1 := Lib.hid hb1
    have Hbw := Lib.hid hbw
    cases hand : isAndB x with
    | false =>
      have Hc : Hid (conj (N + 1) x = [x]) := by show _ = _; unfold conj; rw [hand]; rfl
      have Hand := Lib.hid hand
      have Hz : Hid (x.c.toArray.size = 14) := by show _ = _; rw [List.size_toArray, hx.len]; rfl
      clear hand hb1 hbw hx hx1 ih
      go_enter Tryz.func21, Tryz.ntmps21
      go_wp2_with (first
        | (refine wpList_load_part rfl 31 _ rfl _ Tryz.underlying31 rfl _ _ _ _ x.c rfl H1.out Hi.out (by rw [List.drop_zero, List.take_length]) ?_)
        | (go_at_call 40; refine Hia.out.mono ?_; rintro e w2 ⟨rfl, hb2⟩; rw [Hand.out]; have K1 : Hid (Bk w2 w.heap.size x.c 31) := (hb2.block _ (by omega)).trans H1.out)
        | (refine wpList_load_part rfl 31 _ rfl _ Tryz.underlying31 rfl _ _ _ _ x.c rfl K1.out Hi.out (by rw [List.drop_zero, List.take_length]) ?_)
        | (refine wpList_one_st rfl 28 31 _ rfl i0 Tryz.underlying28 hi _ iz x.c.toArray (isz.trans Hz.out.symm) (hzs.trans Hz.out.symm) (by rw [Hz.out]; decide) (by rw [Hz.out]; decide) rfl ?_))
      go_ret
      have hz2 := hb2.size
      refine ⟨_, rfl, ?_, ?_⟩
      · rw [Hc.out]
        have := World.ownsRow_lit (base := w.heap.size) (e := 31) (size := 14) w2 x.c.toArray 1 (by omega) (by unfold maxLen; omega) (by rw [Hz.out])
        simpa using this
      · have := Hbw.out
        exact ((⟨hb2.os.trans this.os, hb2.tape.trans this.tape, hb2.output.trans this.output, by omega, fun k hk => (hb2.block k (by omega)).trans (this.block k hk)⟩ : Below w.heap.size w w2).alloc (by omega) _)
    | true =>
      obtain ⟨a, F, fc, fz, V, vc, vz, A, ac, az, C, sc, sz, he⟩ := hx.ex
      have h12 : x.c[12]? = some (.slice A az.length ac) := by rw [he.e]; rfl
      have harg : argsOf x = az := by rw [he.e]; rfl
      have hxn : nL az + 1 ≤ x.n := by rw [he.e, DT.n_node]; simp; omega
      have h2 : az.length = 2 := by
        unfold isAndB at hand
        simp only [Bool.and_eq_true, decide_eq_true_eq] at hand
        rw [← harg]
        exact hand.2
      obtain ⟨p, q, rfl⟩ : ∃ p q, az = [p, q] := by
        match az, h2 with
        | [p, q], _ => exact ⟨p, q, rfl⟩
      obtain ⟨p', ad, hp, rfl, hbp, hatp⟩ := he.ra.get (i := 0) (by simp)
      obtain ⟨q', ad', hq, hadd, hbq, hatq⟩ := he.ra.get (i := 1) (by simp)
      cases hadd
      simp at hp hq
      subst hp hq
      have hip := he.ia p (by simp)
      have hiq := he.ia q (by simp)
      have hac := he.ra.1
      have hac2 := he.ra.2.1
      have hn1 := n_mem (show p ∈ [p, q] by simp)
      have hn2' := n_mem (show q ∈ [p, q] by simp)
      simp at hac
      rw [nL_cons, nL_cons] at hxn
      have hpn2 : p.n + q.n ≤ 1048576 := by omega
      have Hq : Hid (∀ w', (Bk w' w.heap.size x.c 31 ∧ ∀ k, k < B → w'.heap[k]? = w.heap[k]?) → ∀ j u, q.c[j]? = some u → w'.cell? ((ad.add (1 * 14)).add j) = some u) := fun w' hw' j u hu => at_add (DT.At.keep hatq (w' := w') (S := fun k => k < B) hw'.2 (by rw [block_add]; exact hbq)) j u hu
      have Hp : Hid (∀ w', (Bk w' w.heap.size x.c 31 ∧ ∀ k, k < B → w'.heap[k]? = w.heap[k]?) → ∀ j u, p.c[j]? = some u → w'.cell? ((ad.add (0 * 14)).add j) = some u) := fun w' hw' j u hu => at_add (DT.At.keep hatp (w' := w') (S := fun k => k < B) hw'.2 (by rw [block_add]; exact hbp)) j u hu
      have ipi := Lib.hid (show (Tryz.prog.info? 31).map (·.size) = some p.c.length by rw [hip.len]; exact uClExpr1)
      have iqi := Lib.hid (show (Tryz.prog.info? 31).map (·.size) = some q.c.length by rw [hiq.len]; exact uClExpr1)
      have Hand := Lib.hid hand
      have Hc : Hid (conj (N + 1) x = conj N p ++ conj N q) := by show _ = _; conv => lhs; unfold conj; rw [hand, harg]; simp
      have Hip := Lib.hid hip
      have Hiq := Lib.hid hiq
      have H12 := Lib.hid h12
      have hpn : p.n ≤ N := by omega
      have hqn : q.n ≤ N := by omega
      have Hih := Lib.hid ih
      clear hatp hatq hbp hbq he hx hx1 hip hiq hbw hand ih hb1 h12 harg hxn h2
      go_enter Tryz.func21, Tryz.ntmps21
      go_upto_region 3 with (first
        | (refine wpList_load_part rfl 31 _ rfl _ Tryz.underlying31 rfl _ _ _ _ x.c rfl H1.out Hi.out (by rw [List.drop_zero, List.take_length]) ?_)
        | (go_at_call 40; refine Hia.out.mono ?_; rintro e w2 ⟨rfl, hb2⟩; rw [Hand.out]; have K1 : Hid (Bk w2 w.heap.size x.c 31) := (hb2.block _ (by omega)).trans H1.out; have Hb2 := Lib.hid hb2; clear hb2))
      have hz2 := Hb2.out.size
      have hD : Bk w2.drew w.heap.size x.c 31 ∧ ∀ k, k < B → w2.drew.heap[k]? = w.heap[k]? := ⟨K1.out, fun k hk => (Hb2.out.block k (by omega)).trans (Hbw.out.block k (by omega))⟩
      refine wp_region_split 10 (fun w' => Bk w' w.heap.size x.c 31 ∧ ∀ k, k < B → w'.heap[k]? = w.heap[k]?) (by kernel_rfl) (by kernel_rfl) ?_
      simp only [List.take_succ_cons, List.take_zero, List.drop_succ_cons, List.drop_zero]
      refine take_op (i := 0) (v := .pointer (some ⟨w.heap.size, 12, none⟩)) rfl rfl (by kernel_rfl) (by kernel_rfl) (by kernel_rfl) (fun _ _ _ h => h) (yields_of rfl fun w' _ => by go_simp) hD ?_
      simp only [List.setIfInBounds_toArray, List.set_cons_zero, List.set_cons_succ]
      refine take_op (i := 1) (v := .slice (some ad) 2 ac) rfl rfl (by kernel_rfl) (by kernel_rfl) (by kernel_rfl) (fun _ _ _ h => h) (yields_load_one rfl 28 _ rfl _ Tryz.underlying28 rfl _ 12 _ _ _ rfl (fun _ h => h.1) H12.out) hD ?_
      simp only [List.setIfInBounds_toArray, List.set_cons_zero, List.set_cons_succ]
      refine take_op (i := 2) (v := .pointer (some (ad.add (0 * 14)))) rfl rfl (by kernel_rfl) (by kernel_rfl) (by kernel_rfl) (fun _ _ _ h => h) (yields_of rfl fun w' _ => by go_simp) hD ?_
      simp only [List.setIfInBounds_toArray, List.set_cons_zero, List.set_cons_succ]
      refine take_op (i := 3) (v := .agg p.c.toArray) rfl rfl (by kernel_rfl) (by kernel_rfl) (by kernel_rfl) (fun _ _ _ h => h) (yields_load_st rfl 31 _ rfl _ Tryz.underlying31 rfl (ad.add (0 * 14)) p.c rfl ipi.out Hp.out) hD ?_
      simp only [List.setIfInBounds_toArray, List.set_cons_zero, List.set_cons_succ]
      refine take_op (i := 5) (v := .pointer (some ⟨w.heap.size, 12, none⟩)) rfl rfl (by kernel_rfl) (by kernel_rfl) (by kernel_rfl) (fun _ _ _ h => h) (yields_of rfl fun w' _ => by go_simp) hD ?_
      simp only [List.setIfInBounds_toArray, List.set_cons_zero, List.set_cons_succ]
      refine take_op (i := 6) (v := .slice (some ad) 2 ac) rfl rfl (by kernel_rfl) (by kernel_rfl) (by kernel_rfl) (fun _ _ _ h => h) (yields_load_one rfl 28 _ rfl _ Tryz.underlying28 rfl _ 12 _ _ _ rfl (fun _ h => h.1) H12.out) hD ?_
      simp only [List.setIfInBounds_toArray, List.set_cons_zero, List.set_cons_succ]
      refine take_op (i := 7) (v := .pointer (some (ad.add (1 * 14)))) rfl rfl (by kernel_rfl) (by kernel_rfl) (by kernel_rfl) (fun _ _ _ h => h) (yields_of rfl fun w' _ => by go_simp) hD ?_
      simp only [List.setIfInBounds_toArray, List.set_cons_zero, List.set_cons_succ]
      refine take_op (i := 8) (v := .agg q.c.toArray) rfl rfl (by kernel_rfl) (by kernel_rfl) (by kernel_rfl) (fun _ _ _ h => h) (yields_load_st rfl 31 _ rfl _ Tryz.underlying31 rfl (ad.add (1 * 14)) q.c rfl iqi.out Hq.out) hD ?_
      simp only [List.setIfInBounds_toArray, List.set_cons_zero, List.set_cons_succ]
      have hB2 : B ≤ w2.drew.heap.size := by show B ≤ w2.heap.size; omega
      refine call_op (i := 4) (by kernel_rfl) rfl rfl rfl 21 #[.agg p.c.toArray] (by go_simp) ((Hih.out p w2.drew hpn (by omega) hB2 (Hip.out.keep hD.2 fun _ h => h)).mono ?_)
      rintro e w3 ⟨v1, rfl, ho1, hb3⟩
      have hz2' : w2.drew.heap.size = w2.heap.size := rfl
      have hz3 := hb3.size
      have hD3 : Bk w3 w.heap.size x.c 31 ∧ ∀ k, k < B → w3.heap[k]? = w.heap[k]? := ⟨(hb3.block _ (by omega)).trans hD.1, fun k hk => (hb3.block k (by omega)).trans (hD.2 k hk)⟩
      refine ⟨_, rfl, hD3, ?_⟩
      simp only [List.setIfInBounds_toArray, List.set_cons_zero, List.set_cons_succ]
      refine call_op (i := 9) (by kernel_rfl) rfl rfl rfl 21 #[.agg q.c.toArray] (by go_simp) ((Hih.out q w3 hqn (by omega) (by omega) (Hiq.out.keep hD3.2 fun _ h => h)).mono ?_)
      rintro e w4 ⟨v2, rfl, ho2, hb4⟩
      have hz4 := hb4.size
      refine ⟨_, rfl, ⟨(hb4.block _ (by omega)).trans hD3.1, fun k hk => (hb4.block k (by omega)).trans (hD3.2 k hk)⟩, ?_⟩
      simp only [List.setIfInBounds_toArray, List.set_cons_zero, List.set_cons_succ]
      refine done_op (by kernel_rfl) ?_
      have hf1 : ∀ y, y ∈ conj N p → y.c.length = 14 := fun y hy => (conj_in N Hip.out y hy).1.len
      have hf2 : ∀ y, y ∈ conj N q → y.c.length = 14 := fun y hy => (conj_in N Hiq.out y hy).1.len
      obtain ⟨A2, c2, rfl, hr2, _⟩ := own_structs ho2 rfl hf2
      have Hsrc := Lib.hid (hr2.src (by decide) hf2)
      have Hfl : Hid (((conj N q).flatMap DT.c).length = (conj N q).length * 14) := flatD_len hf2
      have H1u : Hid (∀ u, u ∈ (conj N q).flatMap DT.c → u.oneCell' = true) := fun u hu => by
        obtain ⟨y, hy, hu⟩ := List.mem_flatMap.1 hu
        exact (conj_in N Hiq.out y hy).1.ones u hu
      have Ho1 : Hid (w4.ownsRow w.heap.size 31 14 v1 (conj N p).length ((conj N p).flatMap DT.c)) := by
        have h1 := own_fr ho1 (w' := w4) (by omega) fun k hk => hb4.block k (by have := ho1.lt k hk; omega)
        exact own_base h1 (by omega)
      have Hol := Lib.hid ho1.lt
      have hl1 := conj_len N p
      have hl2 := conj_len N q
      have L3 : Hid ((conj N p).length + (conj N q).length ≤ maxLen) := by show _ ≤ _; unfold maxLen; omega
      have L4 : Hid (((conj N p).length + (conj N q).length) * 184 ≤ 140737488355328) := by show _ ≤ _; omega
      have Hb3 := Lib.hid hb3
      have Hb4 := Lib.hid hb4
      have hzz : w.heap.size ≤ w4.heap.size := by omega
      clear hr2 ho1 ho2 hD hD3 hb3 hb4 hf1 hf2
      go_wp2_with (at_builtin; refine wpList_append_row _ rfl _ _ 28 rfl w.heap.size 31 i0 _ 14 184 Tryz.underlying28 hi iz isz iby hzs (by decide) v1 _ _ rfl Ho1.out A2 (conj N q).length c2 ((conj N q).flatMap DT.c) rfl Hfl.out Hsrc.out H1u.out L3.out L4.out hzz ?_; intro ov' w5 hown5 hg5 hm5)
      go_ret
      refine ⟨_, rfl, ?_, ?_⟩
      · rw [Hc.out, List.length_append, List.flatMap_append]
        exact hown5
      · have b1 := Hbw.out
        have b2 := Hb2.out
        have b3 := Hb3.out
        have b4 := Hb4.out
        have hg := hg5.size
        have hdr := (Below.refl 0 w2).drew
        refine ⟨hg5.os.trans (b4.os.trans (b3.os.trans (b2.os.trans b1.os))), hg5.tape.trans (b4.tape.trans (b3.tape.trans (hdr.tape.trans (b2.tape.trans b1.tape)))), hg5.output.trans (b4.output.trans (b3.output.trans (b2.output.trans b1.output))), by omega, fun k hk => ?_⟩
        have hne : some k ≠ v1.ownBlock := fun e => by have := (Hol.out k e.symm).1; omega
        rw [hg5.block k (by omega) hne, b4.block k (by omega), b3.block k (by omega)]
        exact (b2.block k (by omega)).trans (b1.block k (by omega))
end Go.Proofs.YthijagpnpcpcbaaGreat
namespace Go.Proofs.YthijagpnpcpcbaaGreat
open Go.RowKit Go.Sort
/-- A list of expressions that are the same as others, wherever they lie. -/
def ExLs (l : List DT) (w : World) (e : Ending) (w' : World) : Prop :=
  ∃ (A : Option Addr) (cap : Nat) (ys : List DT), e = .returned (.slice A ys.length cap) ∧ Below w.heap.size w w' ∧ USL .expr l ys ∧ DRow (Lv w') w' 14 A cap ys ∧ ∀ y, y ∈ ys → UIn (Lv w') w' .expr y
set_option maxRecDepth 100000 in
set_option maxHeartbeats 4000000 in
theorem pConjuncts_any (B : Nat) (x : DT) (w : World) (hB : B ≤ w.heap.size) (hn : x.n ≤ 1048576) (hx : UIn (fun k => k < B) w .expr x) : Calls Tryz.prog 6 #[.agg x.c.toArray] w (ExLs (conj x.n x) w) := by
  obtain ⟨w1, hw1⟩ : ∃ w1, w.alloc (.cells x.c.toArray 31) = w1 := ⟨_, rfl⟩
  have hz1 : w1.heap.size = w.heap.size + 1 := by rw [← hw1]; simp
  have hb1 : Bk w1 w.heap.size x.c 31 := by rw [← hw1]; exact Bk.new w x.c _
  have hbw : Below w.heap.size w w1 := by rw [← hw1]; exact bel1 _ _
  have Hi : Hid ((Tryz.prog.info? 31).map (·.size) = some x.c.length) := by show _ = _; rw [hx.len]; exact uClExpr1
  have hx1 := hx.keep (fun k hk => hbw.block k (by have hk' : k < B := hk; omega)) fun _ h => h
  have Hcj := Lib.hid (conjuncts_any B x.n x w1 (Nat.le_refl _) hn (by omega) hx1)
  have hfin : ∀ w2 v, Below w1.heap.size w1 w2 → w2.ownsRow w1.heap.size 31 14 v (conj x.n x).length ((conj x.n x).flatMap DT.c) → Calls Tryz.prog 20 #[v, .func (.func 22) #[] #[]] w2 fun e w3 => ExLs (conj x.n x) w e w3 ∧ ∃ v, e = .returned v := by
    intro w2 v hb2 ho
    have hx2 := hx1.keep (fun k hk => hb2.block k (by have hk' : k < B := hk; omega)) fun _ h => h
    have hin := fun y hy => conj_in x.n hx2 y hy
    obtain ⟨A2, c2, rfl, hr2, _⟩ := own_structs ho rfl (fun y hy => (hin y hy).1.len)
    have hz2 := hb2.size
    refine (listExp_any (CB w2.heap.size) (fun _ _ => True) (USm .expr) 22 #[] (enters_of Tryz.func22 (by kernel_rfl) rfl) (conj x.n x) A2 c2 (fun k => k < w2.heap.size) () w2 trivial (Nat.le_refl _) (fun k hk => ⟨hk, fun e => e⟩) (hr2.keep (fun _ _ => rfl) fun k hk => hk.2.2) (fun y hy => (hin y hy).1.keep (fun _ _ => rfl) fun k hk => by have hk' : k < B := hk; omega) (by have := conj_len x.n x; omega) fun j y s' W' hy _ hf => ?_).mono ?_
    · have hym := hin y (mem_of_get? hy)
      have hb' := Fr.toB hf
      exact copyExpr_any w2.heap.size y s' W' hb'.size (by omega) (hym.1.keep (fun k hk => hb'.block k (by have hk' : k < B := hk; omega)) fun k hk => by have hk' : k < B := hk; omega)
    · rintro e w3 ⟨A, ys, s', rfl, hf, _, hl, hrel, hrow, hins⟩
      have hb3 := Fr.toB hf
      refine ⟨⟨A, ys.length, ys, rfl, ?_, ⟨hl.symm, hrel⟩, hrow.keep (fun _ _ => rfl) fun k hk => hk.2.1, fun y hy => (hins y hy).keep (fun _ _ => rfl) fun k hk => hk.2.1⟩, _, rfl⟩
      have hz3 := hb3.size
      exact ⟨hb3.os.trans (hb2.os.trans hbw.os), hb3.tape.trans (hb2.tape.trans hbw.tape), hb3.output.trans (hb2.output.trans hbw.output), by omega, fun k hk => (hb3.block k (by omega)).trans ((hb2.block k (by omega)).trans (hbw.block k hk))⟩
  have H1 := Lib.hid hb1
  have Hfin := Lib.hid hfin
  clear hb1 hbw hx1 hx hfin
  go_enter Tryz.func6, Tryz.ntmps6
  go_wp2_with (first
    | (refine wpList_load_part rfl 31 _ rfl _ Tryz.underlying31 rfl _ _ _ _ x.c rfl H1.out Hi.out (by rw [List.drop_zero, List.take_length]) ?_)
    | (go_at_call 21; refine Hcj.out.mono ?_; rintro e w2 ⟨v, rfl, ho, hb2⟩; have Hl := Lib.hid (Hfin.out w2 v hb2 ho); clear ho hb2)
    | (go_at_call 20; refine Hl.out.mono ?_; rintro e w3 ⟨h3, v3, rfl⟩))
  go_ret
  exact h3
end Go.Proofs.YthijagpnpcpcbaaGreat

