/-
  plan.Substitute's closure.
-/
import Derived.Test.YthijagpnpcpcbaaGreatQGtTb
namespace Go.Proofs.YthijagpnpcpcbaaGreat
open Go.RowKit Go.Sort
/-- A shift of one of the expressions that are put in is bad. -/
def shB (d : Int) (wx : DT) : Prop := ∃ u, Vs (shCm 0 d) .expr 0 wx u ∧ shBad 0 d u
/-- What stands for a column of level 0. -/
def SubR (wl : List DT) (d : Int) (x y0 : DT) : Prop := (¬ (0 ≤ atOf x.c ∧ atOf x.c < wl.length) → y0 = x) ∧ ∀ wx, 0 ≤ atOf x.c → wl[(atOf x.c).toNat]? = some wx → (shB d wx → y0 = zTr) ∧ (¬ shB d wx → Mp (shCm 0 d) .expr 0 wx y0)
def sbCm (wl : List DT) : Cm := ⟨fun d x => decide (upOf x.c = d), fun _ x => x.c, SubR wl⟩
def sbBad (wl : List DT) (v : Int × DT) : Prop := upOf v.2.c = v.1 ∧ (¬ (0 ≤ atOf v.2.c ∧ atOf v.2.c < wl.length) ∨ ∃ wx, 0 ≤ atOf v.2.c ∧ wl[(atOf v.2.c).toNat]? = some wx ∧ shB v.1 wx)
/-- The state of Substitute's closure: the boxes of with and of bad. -/
def CSb (B b3 b6 : Nat) (A : Option Addr) (cap : Nat) (wl : List DT) : Cl ((Int × DT → Prop) × Bool) where
  St := fun s W => (CBx B (FlagOk (sbBad wl)) fun s : (Int × DT → Prop) × Bool => [(b3, 28, [.slice A wl.length cap]), (b6, 4, [.bool s.2])]).St s W ∧ DRow (fun k => k < B) W 14 A cap wl ∧ ∀ x, x ∈ wl → UIn (fun k => k < B) W .expr x
  O := fun s k => B ≤ k ∧ (k = b3 ∨ k = b6)
  lt := fun s W h k hk => by
    rcases hk.2 with rfl | rfl
    · exact (h.1.2.2 (k, 28, [.slice A wl.length cap]) (by simp)).2.lt
    · exact (h.1.2.2 (k, 4, [.bool s.2]) (by simp)).2.lt
  B := B
  ob := fun _ _ h => h.1
  base := fun _ _ h => h.1.1
  keep := fun s W W' h hk hz => by
    refine ⟨⟨Nat.le_trans h.1.1 hz, h.1.2.1, fun p hp => ?_⟩, h.2.1.keep (fun k hk' => hk k (.inr hk')) fun _ h => h, fun x hx => (h.2.2 x hx).keep (fun k hk' => hk k (.inr hk')) fun _ h => h⟩
    have hp' := h.1.2.2 p hp
    refine ⟨hp'.1, (hk p.1 (.inl ⟨hp'.1, ?_⟩)).trans hp'.2⟩
    simp only [List.mem_cons, List.not_mem_nil, or_false] at hp
    rcases hp with rfl | rfl
    · exact .inl rfl
    · exact .inr rfl
theorem CSb.st {B b3 b6 : Nat} {A : Option Addr} {cap : Nat} {wl : List DT} {s s' : (Int × DT → Prop) × Bool} {W W' : World} (h : (CSb B b3 b6 A cap wl).St s W) (hz : W.heap.size ≤ W'.heap.size) (hk : ∀ k, k < B → W'.heap[k]? = W.heap[k]?) (hf : FlagOk (sbBad wl) s') (h3 : Bk W' b3 [.slice A wl.length cap] 28) (h6 : Bk W' b6 [.bool s'.2] 4) : (CSb B b3 b6 A cap wl).St s' W' := by
  refine ⟨⟨Nat.le_trans h.1.1 hz, hf, fun p hp => ?_⟩, h.2.1.keep hk fun _ h => h, fun x hx => (h.2.2 x hx).keep hk fun _ h => h⟩
  have q3 := (h.1.2.2 (b3, 28, [.slice A wl.length cap]) (by simp)).1
  have q6 := (h.1.2.2 (b6, 4, [.bool s.2]) (by simp)).1
  simp only [List.mem_cons, List.not_mem_nil, or_false] at hp
  rcases hp with rfl | rfl
  · exact ⟨q3, h3⟩
  · exact ⟨q6, h6⟩
set_option maxRecDepth 100000 in
set_option maxHeartbeats 4000000 in
theorem subst1_any (B b3 b6 : Nat) (A : Option Addr) (cap : Nat) (wl : List DT) (h36 : b3 ≠ b6) (hwn : ∀ x, x ∈ wl → x.n ≤ 1048576) (s : (Int × DT → Prop) × Bool) (W : World) (d : Int) (x : DT) (hd : 0 ≤ d) (hd2 : d ≤ 1048576) (hst : (CSb B b3 b6 A cap wl).St s W) (hx : UIn (fun k => k < B) W .expr x) (hk : kd x.c = 2) :
    Calls Tryz.prog 37 (#[.agg x.c.toArray, .int .i64 d] ++ #[.pointer (some ⟨b3, 0, none⟩), .pointer (some ⟨b6, 0, none⟩)]) W (ColPost (CSb B b3 b6 A cap wl) (fun s v => s.1 v) (fun _ => 0) (sbCm wl) d x s W) := by
  obtain ⟨w1, hw1⟩ : ∃ w1, W.alloc (.cells x.c.toArray 31) = w1 := ⟨_, rfl⟩
  obtain ⟨w2, hw2⟩ : ∃ w2, w1.alloc (.cells #[.int .i64 0, .int .i64 0, .int .i64 0, .int .i64 0, .int .i64 0, .int .i64 0, .slice none 0 0, .int .i64 0, .int .i64 0, .int .i64 0, .string ⟨#[]⟩, .slice none 0 0, .slice none 0 0, .slice none 0 0] 31) = w2 := ⟨_, rfl⟩
  have hz1 : w1.heap.size = W.heap.size + 1 := by rw [← hw1]; simp
  have hz2 : w2.heap.size = W.heap.size + 2 := by rw [← hw2]; simp [hz1]
  have hb1 : Bk w2 W.heap.size x.c 31 := by rw [← hw2, ← hw1]; exact (Bk.new W x.c _).alloc _
  have hb2 : Bk w2 (W.heap.size + 1) zEx 31 := by rw [← hw2, ← hz1]; exact Bk.new w1 zEx _
  have hbw : Below W.heap.size W w2 := by rw [← hw2, ← hw1]; exact ((Below.refl _ _).alloc (Nat.le_refl _) _).alloc (by simp) _
  have hst2 := (Fr.below hst hbw).st
  have hlen : x.c.length = 14 := hx.len
  obtain ⟨u0, u2, u3, iu, ia⟩ := hx.upAt
  have h3 := (hst2.1.2.2 (b3, 28, [.slice A wl.length cap]) (by simp)).2
  have h6 := (hst2.1.2.2 (b6, 4, [.bool s.2]) (by simp)).2
  have l3' : b3 < W.heap.size := ((hst.1.2.2 (b3, 28, [.slice A wl.length cap]) (by simp)).2).lt
  have l6' : b6 < W.heap.size := ((hst.1.2.2 (b6, 4, [.bool s.2]) (by simp)).2).lt
  have Hi : Hid ((Tryz.prog.info? 31).map (·.size) = some x.c.length) := by show _ = _; rw [hlen]; exact uClExpr1
  have Hx3 : Hid (x.c.all (·.oneCell') = true) := by have := all_one hx.ones; show _ = _; simpa using this
  obtain ⟨sm, fl⟩ := s
  obtain ⟨up, hup⟩ : ∃ up, upOf x.c = up := ⟨_, rfl⟩
  obtain ⟨ap, hap⟩ : ∃ ap, atOf x.c = ap := ⟨_, rfl⟩
  rw [hup] at u2 iu
  rw [hap] at u3 ia
  have hln : wl.length ≤ maxLen := Nat.le_trans hst.2.1.1 hst.2.1.2.1
  have Hst := Lib.hid hst
  have Hst2 := Lib.hid hst2
  have H1 := Lib.hid hb1
  have H2 := Lib.hid hb2
  have H3 := Lib.hid h3
  have H6 := Lib.hid h6
  have Hx := Lib.hid hx
  have U2 := Lib.hid u2
  have U3 := Lib.hid u3
  have Hup := Lib.hid hup
  have Hap := Lib.hid hap
  have Hl := Lib.hid hlen
  have Hk := Lib.hid hk
  have Hbw := Lib.hid hbw
  have uBool1 := Lib.hid uBool1
  have Hln := Lib.hid hln
  have Hwn := Lib.hid hwn
  have kc3 : w2.cell? ⟨W.heap.size, 3, none⟩ = some (.int .i64 ap) := by rw [hb1.cell]; exact u3
  have kc28 : w2.cell? ⟨b3, 0, none⟩ = some (.slice A wl.length cap) := by rw [h3.cell]; rfl
  clear hb1 hb2 hbw hst2 hlen u0 u2 u3 iu ia h3 h6 hx hk hst hup hap hln hwn
  show Calls _ _ #[.agg x.c.toArray, .int .i64 d, .pointer (some ⟨b3, 0, none⟩), .pointer (some ⟨b6, 0, none⟩)] _ _
  go_enter Tryz.func37, Tryz.ntmps37
  by_cases hne : up = d
  · by_cases hlo : ap < 0
    ·
      have hnr : Hid (¬ (0 ≤ atOf x.c ∧ atOf x.c < wl.length)) := by show ¬ _; rw [Hap.out]; omega
      have hdn : (decide (upOf x.c = d)) = true := by rw [Hup.out]; simp [hne]
      go_wp2_with (first
        | (refine wpList_load_one rfl 3 _ rfl _ Tryz.underlying3 rfl _ 2 _ _ _ rfl H1.out U2.out ?_)
        | (refine wpList_load_one rfl 3 _ rfl _ Tryz.underlying3 rfl _ 3 _ _ _ rfl H1.out U3.out ?_)
        | (refine wpList_store_blk rfl 4 _ _ rfl _ 0 _ _ [.bool true] rfl rfl H6.out uBool1.out (by simp) rfl ?_; intro w4 hw4; have j1 := Lib.hid (H1.out.wrt hw4 (by omega)); have j2 := Lib.hid (H2.out.wrt hw4 (by omega)); have HW4 := Lib.hid hw4; clear hw4)
        | (refine wpList_load_part rfl 31 _ rfl _ Tryz.underlying31 rfl _ _ _ _ x.c rfl j1.out Hi.out (by rw [List.drop_zero, List.take_length]) ?_)
        | (refine wpList_store_blk rfl 31 _ _ rfl _ _ _ _ x.c rfl rfl j2.out Hi.out (by rw [Hl.out]; decide) Hx3.out ?_; intro w5 hw5))
      rw [setL_all _ _ (by rw [Hl.out]; rfl)] at hw5
      refine bodyPost_blk2 rfl (W.heap.size + 1) x.c _ (.bool true) rfl rfl _ hw5.bk Tryz.underlying31 rfl Hi.out rfl ?_
      have hBB : (CSb B b3 b6 A cap wl).B ≤ W.heap.size := Hst.out.1.1
      have hBB' : B ≤ W.heap.size := Hst.out.1.1
      have hno : ∀ k, W.heap.size ≤ k → ∀ s', ¬ (CSb B b3 b6 A cap wl).O s' k := fun k hk s' e => by rcases e.2 with rfl | rfl <;> omega
      have f1 := Fr.below Hst.out Hbw.out
      have q6 : B ≤ b6 := (Hst.out.1.2.2 (b6, 4, [.bool fl]) (by simp)).1
      have f2 := f1.wrtO (s' := (fun v => sm v ∨ v = (d, x), true)) HW4.out ⟨q6, .inr rfl⟩ (fun k hk => hk) (CSb.st Hst.out (by rw [HW4.out.size]; exact f1.size) (fun k hk => (HW4.out.block k (by omega)).trans (Hbw.out.block k (by omega))) (FlagOk.step Hst.out.1.2.1 ⟨fun _ => .inr ⟨Hup.out.trans hne, .inl hnr.out⟩, fun _ => rfl⟩) (H3.out.wrt HW4.out h36) HW4.out.bk)
      have f3 := f2.wrt hw5 (by omega) (hno _ (by omega) _)
      refine ⟨x, _, by show _ = Ending.returned (.tuple #[_, .bool (decide (upOf x.c = d))]); rw [hdn], f3, ⟨fun v => Iff.rfl, Nat.zero_le _⟩, fun h => (by rw [show (sbCm wl).dn d x = true from hdn] at h; cases h), fun _ => ⟨(Hx.out.keep (f3.src Hst.out) fun k hk => ⟨.inl hk, by have := f3.size; omega, fun e => by have := e.1; omega⟩), x, ⟨fun _ => rfl, fun wx h1 h2 => absurd ⟨h1, by have := (List.getElem?_eq_some_iff.1 h2).1; omega⟩ hnr.out⟩, USm.refl _ _⟩⟩
    · by_cases hhi : (wl.length : Int) ≤ ap
      ·
        have hnr : Hid (¬ (0 ≤ atOf x.c ∧ atOf x.c < wl.length)) := by show ¬ _; rw [Hap.out]; omega
        have hdn : (decide (upOf x.c = d)) = true := by rw [Hup.out]; simp [hne]
        go_wp2_with (first
          | (refine wpList_load_one rfl 3 _ rfl _ Tryz.underlying3 rfl _ 2 _ _ _ rfl H1.out U2.out ?_)
          | (refine wpList_load_one rfl 3 _ rfl _ Tryz.underlying3 rfl _ 3 _ _ _ rfl H1.out U3.out ?_)
          | (refine wpList_store_blk rfl 4 _ _ rfl _ 0 _ _ [.bool true] rfl rfl H6.out uBool1.out (by simp) rfl ?_; intro w4 hw4; have j1 := Lib.hid (H1.out.wrt hw4 (by omega)); have j2 := Lib.hid (H2.out.wrt hw4 (by omega)); have HW4 := Lib.hid hw4; clear hw4)
          | (refine wpList_load_part rfl 31 _ rfl _ Tryz.underlying31 rfl _ _ _ _ x.c rfl j1.out Hi.out (by rw [List.drop_zero, List.take_length]) ?_)
          | (refine wpList_store_blk rfl 31 _ _ rfl _ _ _ _ x.c rfl rfl j2.out Hi.out (by rw [Hl.out]; decide) Hx3.out ?_; intro w5 hw5))
        rw [setL_all _ _ (by rw [Hl.out]; rfl)] at hw5
        refine bodyPost_blk2 rfl (W.heap.size + 1) x.c _ (.bool true) rfl rfl _ hw5.bk Tryz.underlying31 rfl Hi.out rfl ?_
        have hBB : (CSb B b3 b6 A cap wl).B ≤ W.heap.size := Hst.out.1.1
        have hBB' : B ≤ W.heap.size := Hst.out.1.1
        have hno : ∀ k, W.heap.size ≤ k → ∀ s', ¬ (CSb B b3 b6 A cap wl).O s' k := fun k hk s' e => by rcases e.2 with rfl | rfl <;> omega
        have f1 := Fr.below Hst.out Hbw.out
        have q6 : B ≤ b6 := (Hst.out.1.2.2 (b6, 4, [.bool fl]) (by simp)).1
        have f2 := f1.wrtO (s' := (fun v => sm v ∨ v = (d, x), true)) HW4.out ⟨q6, .inr rfl⟩ (fun k hk => hk) (CSb.st Hst.out (by rw [HW4.out.size]; exact f1.size) (fun k hk => (HW4.out.block k (by omega)).trans (Hbw.out.block k (by omega))) (FlagOk.step Hst.out.1.2.1 ⟨fun _ => .inr ⟨Hup.out.trans hne, .inl hnr.out⟩, fun _ => rfl⟩) (H3.out.wrt HW4.out h36) HW4.out.bk)
        have f3 := f2.wrt hw5 (by omega) (hno _ (by omega) _)
        refine ⟨x, _, by show _ = Ending.returned (.tuple #[_, .bool (decide (upOf x.c = d))]); rw [hdn], f3, ⟨fun v => Iff.rfl, Nat.zero_le _⟩, fun h => (by rw [show (sbCm wl).dn d x = true from hdn] at h; cases h), fun _ => ⟨(Hx.out.keep (f3.src Hst.out) fun k hk => ⟨.inl hk, by have := f3.size; omega, fun e => by have := e.1; omega⟩), x, ⟨fun _ => rfl, fun wx h1 h2 => absurd ⟨h1, by have := (List.getElem?_eq_some_iff.1 h2).1; omega⟩ hnr.out⟩, USm.refl _ _⟩⟩
      · obtain ⟨an, rfl⟩ := Int.eq_ofNat_of_zero_le (Int.not_lt.1 hlo)
        have han : an < wl.length := by omega
        obtain ⟨wx, ad, hwx, rfl, hb, hat⟩ := (Hst2.out.2.1).get han
        have hwi := Hst2.out.2.2 wx (mem_of_get? hwx)
        have HiE : Hid ((Tryz.prog.info? 31).map (·.size) = some wx.c.length) := by show _ = _; rw [hwi.len]; exact uClExpr1
        have Hat := Lib.hid (at_add hat)
        have Hwx := Lib.hid hwx
        have hdn : (decide (upOf x.c = d)) = true := by rw [Hup.out]; simp [hne]
        have Hdn := Lib.hid hdn
        have hSR : ∀ y, (shB d wx → y = zTr) → (¬ shB d wx → Mp (shCm 0 d) .expr 0 wx y) → SubR wl d x y := fun y h1 h2 => ⟨fun h => absurd ⟨by rw [Hap.out]; omega, by rw [Hap.out]; omega⟩ h, fun wx' _ hw' => by
          rw [Hap.out] at hw'
          simp only [Int.toNat_natCast] at hw'
          rw [Hwx.out] at hw'
          cases hw'
          exact ⟨h1, h2⟩⟩
        have hbadiff : sbBad wl (d, x) ↔ shB d wx := by
          unfold sbBad
          simp only [Hap.out, Hup.out]
          constructor
          · rintro ⟨_, h | ⟨wx', _, hw', h⟩⟩
            · exact absurd ⟨by omega, by omega⟩ h
            · simp only [Int.toNat_natCast] at hw'
              rw [Hwx.out] at hw'
              cases hw'
              exact h
          · intro h
            exact ⟨hne, .inr ⟨wx, by omega, by simpa using Hwx.out, h⟩⟩
        have Hbi := Lib.hid hbadiff
        have hcall := shift_any B 0 d (by unfold I64; omega) (by unfold I64; omega) wx w2 (Hst2.out.1.1) (Hwn.out wx (mem_of_get? hwx)) hwi
        clear hat hb hwi hwx hdn hbadiff
        by_cases hsb : shB d wx
        · have Hsb := Lib.hid hsb
          have Hcall : Hid (Calls Tryz.prog 15 #[.agg wx.c.toArray, .int .i64 0, .int .i64 d] w2 fun e w' => ∃ y : DT, e = .returned (.tuple #[.agg y.c.toArray, .int .i64 3]) ∧ Hid (Below w2.heap.size w2 w') ∧ Hid (UIn (Nw (CBs B) w2.heap.size () w') w' .expr y) ∧ Hid (SubR wl d x y) ∧ Hid (y.c.toArray.size = 14) ∧ Hid ((Tryz.prog.info? 31).map (·.size) = some y.c.length) ∧ Hid (y.c.toArray.all (·.oneCell') = true)) := by
            refine hcall.mono ?_
            rintro e w' ⟨y, f, rfl, hb, hy, ⟨_, rfl, hz⟩ | ⟨hno, _⟩⟩
            · exact ⟨y, rfl, hb, hy, hSR y (fun _ => hz) (fun h => absurd Hsb.out h), by show _ = _; rw [List.size_toArray, hy.len]; rfl, by show _ = _; rw [hy.len]; exact uClExpr1, all_one hy.ones⟩
            · obtain ⟨u, h1, h2⟩ := Hsb.out
              exact absurd h2 (hno u h1)
          clear hcall hSR hsb
          cases fl with
          | true =>
            go_wp2_with (first
              | (refine wpList_load_one rfl 3 _ rfl _ Tryz.underlying3 rfl _ 2 _ _ _ rfl H1.out U2.out ?_)
              | (refine wpList_load_one rfl 3 _ rfl _ Tryz.underlying3 rfl _ 3 _ _ _ rfl H1.out U3.out ?_)
              | (refine wpList_load_one rfl 28 _ rfl _ Tryz.underlying28 rfl _ 0 _ _ _ rfl H3.out rfl ?_)
              | (refine wpList_load_st rfl 31 _ rfl _ Tryz.underlying31 rfl (ad.add (an * 14)) wx.c HiE.out rfl Hat.out ?_)
              | (go_at_call 15; refine Hcall.out.mono ?_; rintro e w5 ⟨y, rfl, b5, hy, hR, y14, yi, y1⟩; obtain ⟨w6, hw6⟩ : ∃ w6, w5.alloc (.cells y.c.toArray 31) = w6 := ⟨_, rfl⟩; have Hw6 := Lib.hid hw6; have k6 : Hid (Bk w6 b6 [.bool true] 4) := (by show Bk _ _ _ _; rw [← hw6]; exact (Bk.alloc ((b5.out.block b6 (by omega)).trans H6.out) _)); have k2 : Hid (Bk w6 (W.heap.size + 1) zEx 31) := (by show Bk _ _ _ _; rw [← hw6]; exact (Bk.alloc ((b5.out.block (W.heap.size + 1) (by omega)).trans H2.out) _)); have k8 : Hid (Bk w6 w5.heap.size y.c 31) := (by show Bk _ _ _ _; rw [← hw6]; exact Bk.new w5 y.c _); have hz5 := b5.out.size)
              | (refine wpList_store_st rfl 31 _ _ rfl _ y.c.toArray (by simpa using yi.out) y14.out.symm y1.out rfl rfl ?_; rw [hw6])
              | (refine wpList_load_one rfl 4 _ rfl _ Tryz.underlying4 rfl _ 0 _ _ _ rfl k6.out rfl ?_)
              | (refine wpList_store_blk rfl 4 _ _ rfl _ 0 _ _ [.bool true] rfl rfl k6.out uBool1.out (by simp) rfl ?_; intro w7 hw7; have j8 := Lib.hid (k8.out.wrt hw7 (by omega)); have j2 := Lib.hid (k2.out.wrt hw7 (by omega)); have HW7 := Lib.hid hw7; clear hw7)
              | (refine wpList_load_part rfl 31 _ rfl _ Tryz.underlying31 rfl _ _ _ _ y.c rfl j8.out yi.out (by rw [List.drop_zero, List.take_length]) ?_)
              | (refine wpList_store_blk rfl 31 _ _ rfl _ _ _ _ y.c rfl rfl j2.out yi.out (by simpa [zEx] using Nat.le_of_eq y14.out) (by simpa using y1.out) ?_; intro w8 hw8))
            rw [setL_all _ _ (by simpa [zEx] using y14.out)] at hw8
            refine bodyPost_blk2 rfl (W.heap.size + 1) y.c _ (.bool true) rfl rfl _ hw8.bk Tryz.underlying31 rfl yi.out rfl ?_
            have hBB : (CSb B b3 b6 (some ad) cap wl).B ≤ W.heap.size := Hst.out.1.1
            have hBB' : B ≤ W.heap.size := Hst.out.1.1
            have hno : ∀ k, W.heap.size ≤ k → ∀ s', ¬ (CSb B b3 b6 (some ad) cap wl).O s' k := fun k hk s' e => by rcases e.2 with rfl | rfl <;> omega
            have f1 := Fr.below Hst.out Hbw.out
            have q6 : B ≤ b6 := (Hst.out.1.2.2 (b6, 4, [.bool true]) (by simp)).1
            have b6' : Below w2.heap.size w2 w6 := by rw [← Hw6.out]; exact b5.out.alloc hz5 _
            have f2 := f1.trans (Fr.below Hst2.out b6')
            have h3' : Bk w6 b3 [.slice (some ad) wl.length cap] 28 := (b6'.block b3 (by omega)).trans H3.out
            have f3 := f2.wrtO (s' := (fun v => sm v ∨ v = (d, x), true)) HW7.out ⟨q6, .inr rfl⟩ (fun k hk => hk) (CSb.st Hst.out (by rw [HW7.out.size]; exact f2.size) (fun k hk => (HW7.out.block k (by omega)).trans (f2.block k (by omega) fun e => by have := e.1; omega)) (FlagOk.step Hst.out.1.2.1 ⟨fun _ => .inl rfl, fun _ => rfl⟩) (h3'.wrt HW7.out h36) HW7.out.bk)
            have f4 := f3.wrt hw8 (by omega) (hno _ (by omega) _)
            have hy7 : UIn (Nw (CSb B b3 b6 (some ad) cap wl) w2.heap.size (fun v => sm v ∨ v = (d, x), true) w7) w7 .expr y := by
              refine hy.out.keep (fun k hk => ?_) fun k hk => ⟨hk.1, ?_, fun e => ?_⟩
              · have h1 := hk.at
                have h2 := hk.2.1
                have hb : (CBs B).B = B := rfl
                rw [HW7.out.block k (by omega), ← Hw6.out]
                exact Below.heap_alloc w5 _ k h2
              · have h2 := hk.2.1
                rw [HW7.out.size, ← Hw6.out]
                simp
                omega
              · have h1 := hk.at
                have hb : (CBs B).B = B := rfl
                have h3 : B ≤ k := e.1
                rcases e.2 with rfl | rfl <;> omega
            refine ⟨y, _, by show _ = Ending.returned (.tuple #[_, .bool (decide (upOf x.c = d))]); rw [Hdn.out], f4, ⟨fun v => Iff.rfl, Nat.zero_le _⟩, fun h => (by rw [show (sbCm wl).dn d x = true from Hdn.out] at h; cases h), fun _ => ⟨(hy7.wrt hw8 (by omega) (by omega)).lower (by omega), y, hR.out, USm.refl _ _⟩⟩
          | false =>
            go_wp2_with (first
              | (refine wpList_load_one rfl 3 _ rfl _ Tryz.underlying3 rfl _ 2 _ _ _ rfl H1.out U2.out ?_)
              | (refine wpList_load_one rfl 3 _ rfl _ Tryz.underlying3 rfl _ 3 _ _ _ rfl H1.out U3.out ?_)
              | (refine wpList_load_one rfl 28 _ rfl _ Tryz.underlying28 rfl _ 0 _ _ _ rfl H3.out rfl ?_)
              | (refine wpList_load_st rfl 31 _ rfl _ Tryz.underlying31 rfl (ad.add (an * 14)) wx.c HiE.out rfl Hat.out ?_)
              | (go_at_call 15; refine Hcall.out.mono ?_; rintro e w5 ⟨y, rfl, b5, hy, hR, y14, yi, y1⟩; obtain ⟨w6, hw6⟩ : ∃ w6, w5.alloc (.cells y.c.toArray 31) = w6 := ⟨_, rfl⟩; have Hw6 := Lib.hid hw6; have k6 : Hid (Bk w6 b6 [.bool false] 4) := (by show Bk _ _ _ _; rw [← hw6]; exact (Bk.alloc ((b5.out.block b6 (by omega)).trans H6.out) _)); have k2 : Hid (Bk w6 (W.heap.size + 1) zEx 31) := (by show Bk _ _ _ _; rw [← hw6]; exact (Bk.alloc ((b5.out.block (W.heap.size + 1) (by omega)).trans H2.out) _)); have k8 : Hid (Bk w6 w5.heap.size y.c 31) := (by show Bk _ _ _ _; rw [← hw6]; exact Bk.new w5 y.c _); have hz5 := b5.out.size)
              | (refine wpList_store_st rfl 31 _ _ rfl _ y.c.toArray (by simpa using yi.out) y14.out.symm y1.out rfl rfl ?_; rw [hw6])
              | (refine wpList_load_one rfl 4 _ rfl _ Tryz.underlying4 rfl _ 0 _ _ _ rfl k6.out rfl ?_)
              | (refine wpList_store_blk rfl 4 _ _ rfl _ 0 _ _ [.bool true] rfl rfl k6.out uBool1.out (by simp) rfl ?_; intro w7 hw7; have j8 := Lib.hid (k8.out.wrt hw7 (by omega)); have j2 := Lib.hid (k2.out.wrt hw7 (by omega)); have HW7 := Lib.hid hw7; clear hw7)
              | (refine wpList_load_part rfl 31 _ rfl _ Tryz.underlying31 rfl _ _ _ _ y.c rfl j8.out yi.out (by rw [List.drop_zero, List.take_length]) ?_)
              | (refine wpList_store_blk rfl 31 _ _ rfl _ _ _ _ y.c rfl rfl j2.out yi.out (by simpa [zEx] using Nat.le_of_eq y14.out) (by simpa using y1.out) ?_; intro w8 hw8))
            rw [setL_all _ _ (by simpa [zEx] using y14.out)] at hw8
            refine bodyPost_blk2 rfl (W.heap.size + 1) y.c _ (.bool true) rfl rfl _ hw8.bk Tryz.underlying31 rfl yi.out rfl ?_
            have hBB : (CSb B b3 b6 (some ad) cap wl).B ≤ W.heap.size := Hst.out.1.1
            have hBB' : B ≤ W.heap.size := Hst.out.1.1
            have hno : ∀ k, W.heap.size ≤ k → ∀ s', ¬ (CSb B b3 b6 (some ad) cap wl).O s' k := fun k hk s' e => by rcases e.2 with rfl | rfl <;> omega
            have f1 := Fr.below Hst.out Hbw.out
            have q6 : B ≤ b6 := (Hst.out.1.2.2 (b6, 4, [.bool false]) (by simp)).1
            have b6' : Below w2.heap.size w2 w6 := by rw [← Hw6.out]; exact b5.out.alloc hz5 _
            have f2 := f1.trans (Fr.below Hst2.out b6')
            have h3' : Bk w6 b3 [.slice (some ad) wl.length cap] 28 := (b6'.block b3 (by omega)).trans H3.out
            have f3 := f2.wrtO (s' := (fun v => sm v ∨ v = (d, x), true)) HW7.out ⟨q6, .inr rfl⟩ (fun k hk => hk) (CSb.st Hst.out (by rw [HW7.out.size]; exact f2.size) (fun k hk => (HW7.out.block k (by omega)).trans (f2.block k (by omega) fun e => by have := e.1; omega)) (FlagOk.step Hst.out.1.2.1 ⟨fun _ => .inr (Hbi.out.2 Hsb.out), fun _ => rfl⟩) (h3'.wrt HW7.out h36) HW7.out.bk)
            have f4 := f3.wrt hw8 (by omega) (hno _ (by omega) _)
            have hy7 : UIn (Nw (CSb B b3 b6 (some ad) cap wl) w2.heap.size (fun v => sm v ∨ v = (d, x), true) w7) w7 .expr y := by
              refine hy.out.keep (fun k hk => ?_) fun k hk => ⟨hk.1, ?_, fun e => ?_⟩
              · have h1 := hk.at
                have h2 := hk.2.1
                have hb : (CBs B).B = B := rfl
                rw [HW7.out.block k (by omega), ← Hw6.out]
                exact Below.heap_alloc w5 _ k h2
              · have h2 := hk.2.1
                rw [HW7.out.size, ← Hw6.out]
                simp
                omega
              · have h1 := hk.at
                have hb : (CBs B).B = B := rfl
                have h3 : B ≤ k := e.1
                rcases e.2 with rfl | rfl <;> omega
            refine ⟨y, _, by show _ = Ending.returned (.tuple #[_, .bool (decide (upOf x.c = d))]); rw [Hdn.out], f4, ⟨fun v => Iff.rfl, Nat.zero_le _⟩, fun h => (by rw [show (sbCm wl).dn d x = true from Hdn.out] at h; cases h), fun _ => ⟨(hy7.wrt hw8 (by omega) (by omega)).lower (by omega), y, hR.out, USm.refl _ _⟩⟩
        · have Hsb := Lib.hid hsb
          have Hcall : Hid (Calls Tryz.prog 15 #[.agg wx.c.toArray, .int .i64 0, .int .i64 d] w2 fun e w' => ∃ y : DT, e = .returned (.tuple #[.agg y.c.toArray, .int .i64 0]) ∧ Hid (Below w2.heap.size w2 w') ∧ Hid (UIn (Nw (CBs B) w2.heap.size () w') w' .expr y) ∧ Hid (SubR wl d x y) ∧ Hid (y.c.toArray.size = 14) ∧ Hid ((Tryz.prog.info? 31).map (·.size) = some y.c.length) ∧ Hid (y.c.toArray.all (·.oneCell') = true)) := by
            refine hcall.mono ?_
            rintro e w' ⟨y, f, rfl, hb, hy, ⟨hb', _⟩ | ⟨_, rfl, hm⟩⟩
            · exact absurd hb' Hsb.out
            · exact ⟨y, rfl, hb, hy, hSR y (fun h => absurd h Hsb.out) (fun _ => hm), by show _ = _; rw [List.size_toArray, hy.len]; rfl, by show _ = _; rw [hy.len]; exact uClExpr1, all_one hy.ones⟩
          clear hcall hSR hsb
          cases fl with
          | true =>
            go_wp2_with (first
              | (refine wpList_load_one rfl 3 _ rfl _ Tryz.underlying3 rfl _ 2 _ _ _ rfl H1.out U2.out ?_)
              | (refine wpList_load_one rfl 3 _ rfl _ Tryz.underlying3 rfl _ 3 _ _ _ rfl H1.out U3.out ?_)
              | (refine wpList_load_one rfl 28 _ rfl _ Tryz.underlying28 rfl _ 0 _ _ _ rfl H3.out rfl ?_)
              | (refine wpList_load_st rfl 31 _ rfl _ Tryz.underlying31 rfl (ad.add (an * 14)) wx.c HiE.out rfl Hat.out ?_)
              | (go_at_call 15; refine Hcall.out.mono ?_; rintro e w5 ⟨y, rfl, b5, hy, hR, y14, yi, y1⟩; obtain ⟨w6, hw6⟩ : ∃ w6, w5.alloc (.cells y.c.toArray 31) = w6 := ⟨_, rfl⟩; have Hw6 := Lib.hid hw6; have k6 : Hid (Bk w6 b6 [.bool true] 4) := (by show Bk _ _ _ _; rw [← hw6]; exact (Bk.alloc ((b5.out.block b6 (by omega)).trans H6.out) _)); have k2 : Hid (Bk w6 (W.heap.size + 1) zEx 31) := (by show Bk _ _ _ _; rw [← hw6]; exact (Bk.alloc ((b5.out.block (W.heap.size + 1) (by omega)).trans H2.out) _)); have k8 : Hid (Bk w6 w5.heap.size y.c 31) := (by show Bk _ _ _ _; rw [← hw6]; exact Bk.new w5 y.c _); have hz5 := b5.out.size)
              | (refine wpList_store_st rfl 31 _ _ rfl _ y.c.toArray (by simpa using yi.out) y14.out.symm y1.out rfl rfl ?_; rw [hw6])
              | (refine wpList_load_one rfl 4 _ rfl _ Tryz.underlying4 rfl _ 0 _ _ _ rfl k6.out rfl ?_)
              | (refine wpList_store_blk rfl 4 _ _ rfl _ 0 _ _ [.bool true] rfl rfl k6.out uBool1.out (by simp) rfl ?_; intro w7 hw7; have j8 := Lib.hid (k8.out.wrt hw7 (by omega)); have j2 := Lib.hid (k2.out.wrt hw7 (by omega)); have HW7 := Lib.hid hw7; clear hw7)
              | (refine wpList_load_part rfl 31 _ rfl _ Tryz.underlying31 rfl _ _ _ _ y.c rfl j8.out yi.out (by rw [List.drop_zero, List.take_length]) ?_)
              | (refine wpList_store_blk rfl 31 _ _ rfl _ _ _ _ y.c rfl rfl j2.out yi.out (by simpa [zEx] using Nat.le_of_eq y14.out) (by simpa using y1.out) ?_; intro w8 hw8))
            rw [setL_all _ _ (by simpa [zEx] using y14.out)] at hw8
            refine bodyPost_blk2 rfl (W.heap.size + 1) y.c _ (.bool true) rfl rfl _ hw8.bk Tryz.underlying31 rfl yi.out rfl ?_
            have hBB : (CSb B b3 b6 (some ad) cap wl).B ≤ W.heap.size := Hst.out.1.1
            have hBB' : B ≤ W.heap.size := Hst.out.1.1
            have hno : ∀ k, W.heap.size ≤ k → ∀ s', ¬ (CSb B b3 b6 (some ad) cap wl).O s' k := fun k hk s' e => by rcases e.2 with rfl | rfl <;> omega
            have f1 := Fr.below Hst.out Hbw.out
            have q6 : B ≤ b6 := (Hst.out.1.2.2 (b6, 4, [.bool true]) (by simp)).1
            have b6' : Below w2.heap.size w2 w6 := by rw [← Hw6.out]; exact b5.out.alloc hz5 _
            have f2 := f1.trans (Fr.below Hst2.out b6')
            have h3' : Bk w6 b3 [.slice (some ad) wl.length cap] 28 := (b6'.block b3 (by omega)).trans H3.out
            have f3 := f2.wrtO (s' := (fun v => sm v ∨ v = (d, x), true)) HW7.out ⟨q6, .inr rfl⟩ (fun k hk => hk) (CSb.st Hst.out (by rw [HW7.out.size]; exact f2.size) (fun k hk => (HW7.out.block k (by omega)).trans (f2.block k (by omega) fun e => by have := e.1; omega)) (FlagOk.step Hst.out.1.2.1 ⟨fun _ => .inl rfl, fun _ => rfl⟩) (h3'.wrt HW7.out h36) HW7.out.bk)
            have f4 := f3.wrt hw8 (by omega) (hno _ (by omega) _)
            have hy7 : UIn (Nw (CSb B b3 b6 (some ad) cap wl) w2.heap.size (fun v => sm v ∨ v = (d, x), true) w7) w7 .expr y := by
              refine hy.out.keep (fun k hk => ?_) fun k hk => ⟨hk.1, ?_, fun e => ?_⟩
              · have h1 := hk.at
                have h2 := hk.2.1
                have hb : (CBs B).B = B := rfl
                rw [HW7.out.block k (by omega), ← Hw6.out]
                exact Below.heap_alloc w5 _ k h2
              · have h2 := hk.2.1
                rw [HW7.out.size, ← Hw6.out]
                simp
                omega
              · have h1 := hk.at
                have hb : (CBs B).B = B := rfl
                have h3 : B ≤ k := e.1
                rcases e.2 with rfl | rfl <;> omega
            refine ⟨y, _, by show _ = Ending.returned (.tuple #[_, .bool (decide (upOf x.c = d))]); rw [Hdn.out], f4, ⟨fun v => Iff.rfl, Nat.zero_le _⟩, fun h => (by rw [show (sbCm wl).dn d x = true from Hdn.out] at h; cases h), fun _ => ⟨(hy7.wrt hw8 (by omega) (by omega)).lower (by omega), y, hR.out, USm.refl _ _⟩⟩
          | false =>
            go_wp2_with (first
              | (refine wpList_load_one rfl 3 _ rfl _ Tryz.underlying3 rfl _ 2 _ _ _ rfl H1.out U2.out ?_)
              | (refine wpList_load_one rfl 3 _ rfl _ Tryz.underlying3 rfl _ 3 _ _ _ rfl H1.out U3.out ?_)
              | (refine wpList_load_one rfl 28 _ rfl _ Tryz.underlying28 rfl _ 0 _ _ _ rfl H3.out rfl ?_)
              | (refine wpList_load_st rfl 31 _ rfl _ Tryz.underlying31 rfl (ad.add (an * 14)) wx.c HiE.out rfl Hat.out ?_)
              | (go_at_call 15; refine Hcall.out.mono ?_; rintro e w5 ⟨y, rfl, b5, hy, hR, y14, yi, y1⟩; obtain ⟨w6, hw6⟩ : ∃ w6, w5.alloc (.cells y.c.toArray 31) = w6 := ⟨_, rfl⟩; have Hw6 := Lib.hid hw6; have k6 : Hid (Bk w6 b6 [.bool false] 4) := (by show Bk _ _ _ _; rw [← hw6]; exact (Bk.alloc ((b5.out.block b6 (by omega)).trans H6.out) _)); have k2 : Hid (Bk w6 (W.heap.size + 1) zEx 31) := (by show Bk _ _ _ _; rw [← hw6]; exact (Bk.alloc ((b5.out.block (W.heap.size + 1) (by omega)).trans H2.out) _)); have k8 : Hid (Bk w6 w5.heap.size y.c 31) := (by show Bk _ _ _ _; rw [← hw6]; exact Bk.new w5 y.c _); have hz5 := b5.out.size)
              | (refine wpList_store_st rfl 31 _ _ rfl _ y.c.toArray (by simpa using yi.out) y14.out.symm y1.out rfl rfl ?_; rw [hw6])
              | (refine wpList_load_one rfl 4 _ rfl _ Tryz.underlying4 rfl _ 0 _ _ _ rfl k6.out rfl ?_)
              | (refine wpList_store_blk rfl 4 _ _ rfl _ 0 _ _ [.bool false] rfl rfl k6.out uBool1.out (by simp) rfl ?_; intro w7 hw7; have j8 := Lib.hid (k8.out.wrt hw7 (by omega)); have j2 := Lib.hid (k2.out.wrt hw7 (by omega)); have HW7 := Lib.hid hw7; clear hw7)
              | (refine wpList_load_part rfl 31 _ rfl _ Tryz.underlying31 rfl _ _ _ _ y.c rfl j8.out yi.out (by rw [List.drop_zero, List.take_length]) ?_)
              | (refine wpList_store_blk rfl 31 _ _ rfl _ _ _ _ y.c rfl rfl j2.out yi.out (by simpa [zEx] using Nat.le_of_eq y14.out) (by simpa using y1.out) ?_; intro w8 hw8))
            rw [setL_all _ _ (by simpa [zEx] using y14.out)] at hw8
            refine bodyPost_blk2 rfl (W.heap.size + 1) y.c _ (.bool true) rfl rfl _ hw8.bk Tryz.underlying31 rfl yi.out rfl ?_
            have hBB : (CSb B b3 b6 (some ad) cap wl).B ≤ W.heap.size := Hst.out.1.1
            have hBB' : B ≤ W.heap.size := Hst.out.1.1
            have hno : ∀ k, W.heap.size ≤ k → ∀ s', ¬ (CSb B b3 b6 (some ad) cap wl).O s' k := fun k hk s' e => by rcases e.2 with rfl | rfl <;> omega
            have f1 := Fr.below Hst.out Hbw.out
            have q6 : B ≤ b6 := (Hst.out.1.2.2 (b6, 4, [.bool false]) (by simp)).1
            have b6' : Below w2.heap.size w2 w6 := by rw [← Hw6.out]; exact b5.out.alloc hz5 _
            have f2 := f1.trans (Fr.below Hst2.out b6')
            have h3' : Bk w6 b3 [.slice (some ad) wl.length cap] 28 := (b6'.block b3 (by omega)).trans H3.out
            have f3 := f2.wrtO (s' := (fun v => sm v ∨ v = (d, x), false)) HW7.out ⟨q6, .inr rfl⟩ (fun k hk => hk) (CSb.st Hst.out (by rw [HW7.out.size]; exact f2.size) (fun k hk => (HW7.out.block k (by omega)).trans (f2.block k (by omega) fun e => by have := e.1; omega)) (FlagOk.step Hst.out.1.2.1 ⟨fun h => (by cases h), fun h => h.elim id fun h => absurd (Hbi.out.1 h) Hsb.out⟩) (h3'.wrt HW7.out h36) HW7.out.bk)
            have f4 := f3.wrt hw8 (by omega) (hno _ (by omega) _)
            have hy7 : UIn (Nw (CSb B b3 b6 (some ad) cap wl) w2.heap.size (fun v => sm v ∨ v = (d, x), false) w7) w7 .expr y := by
              refine hy.out.keep (fun k hk => ?_) fun k hk => ⟨hk.1, ?_, fun e => ?_⟩
              · have h1 := hk.at
                have h2 := hk.2.1
                have hb : (CBs B).B = B := rfl
                rw [HW7.out.block k (by omega), ← Hw6.out]
                exact Below.heap_alloc w5 _ k h2
              · have h2 := hk.2.1
                rw [HW7.out.size, ← Hw6.out]
                simp
                omega
              · have h1 := hk.at
                have hb : (CBs B).B = B := rfl
                have h3 : B ≤ k := e.1
                rcases e.2 with rfl | rfl <;> omega
            refine ⟨y, _, by show _ = Ending.returned (.tuple #[_, .bool (decide (upOf x.c = d))]); rw [Hdn.out], f4, ⟨fun v => Iff.rfl, Nat.zero_le _⟩, fun h => (by rw [show (sbCm wl).dn d x = true from Hdn.out] at h; cases h), fun _ => ⟨(hy7.wrt hw8 (by omega) (by omega)).lower (by omega), y, hR.out, USm.refl _ _⟩⟩
  · go_wp2_with (first
      | (refine wpList_load_one rfl 3 _ rfl _ Tryz.underlying3 rfl _ 2 _ _ _ rfl H1.out U2.out ?_)
      | (refine wpList_load_part rfl 31 _ rfl _ Tryz.underlying31 rfl _ _ _ _ x.c rfl H1.out Hi.out (by rw [List.drop_zero, List.take_length]) ?_)
      | (refine wpList_store_blk rfl 31 _ _ rfl _ _ _ _ x.c rfl rfl H2.out Hi.out (by rw [Hl.out]; decide) Hx3.out ?_; intro w5 hw5))
    rw [setL_all _ _ (by rw [Hl.out]; rfl)] at hw5
    refine bodyPost_blk2 rfl (W.heap.size + 1) x.c _ (.bool false) rfl rfl _ hw5.bk Tryz.underlying31 rfl Hi.out rfl ?_
    have hdn : (decide (upOf x.c = d)) = false := by rw [Hup.out]; simp [hne]
    have hBB : (CSb B b3 b6 A cap wl).B ≤ W.heap.size := Hst.out.1.1
    have hBB' : B ≤ W.heap.size := Hst.out.1.1
    have hno : ∀ k, W.heap.size ≤ k → ∀ s', ¬ (CSb B b3 b6 A cap wl).O s' k := fun k hk s' e => by rcases e.2 with rfl | rfl <;> omega
    have f1 := Fr.below Hst.out Hbw.out
    have f2 := f1.st' (s' := (fun v => sm v ∨ v = (d, x), fl)) (fun k hk => hk) (CSb.st Hst.out f1.size (fun k hk => Hbw.out.block k (by omega)) (FlagOk.step Hst.out.1.2.1 ⟨fun h => .inl h, fun h => h.elim id fun h => absurd h.1 (by show upOf x.c ≠ d; rw [Hup.out]; exact hne)⟩) H3.out H6.out)
    have f3 := f2.wrt hw5 (by omega) (hno _ (by omega) _)
    exact ⟨x, _, by show _ = Ending.returned (.tuple #[_, .bool (decide (upOf x.c = d))]); rw [hdn], f3, ⟨fun v => Iff.rfl, Nat.zero_le _⟩, fun _ => ⟨by cases x; rfl, Hx.out.keep (f3.src Hst.out) fun _ h => h, Hk.out⟩, fun h => by rw [show (sbCm wl).dn d x = false from hdn] at h; cases h⟩
end Go.Proofs.YthijagpnpcpcbaaGreat

