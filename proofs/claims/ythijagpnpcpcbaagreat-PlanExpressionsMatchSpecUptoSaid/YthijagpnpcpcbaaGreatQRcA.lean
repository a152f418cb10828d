/-
  plan.conjoin, plan.Conjoin.
  The reference's yes, Conjoin.
-/
import Derived.Test.YthijagpnpcpcbaaGreatQGtTd
namespace Go.Proofs.YthijagpnpcpcbaaGreat
open Go.RowKit Go.Sort
theorem andT_n (x y : DT) : (andT x y).n = 1 + (x.n + y.n) := by
  unfold andT
  rw [DT.n_node]
  have h0 : nL ([] : List DT) = 0 := rfl
  simp [nL_cons]
  omega
/-- Expressions joined. -/
def cjo : List DT → DT
  | [] => yesT
  | x :: r => r.foldl andT x
/-- What stands at the head of conjoin's loop. -/
structure CjI (B : Nat) (w : World) (l : List DT) (x : DT) (j : Nat) (cur : DT) (wr : World) : Prop where
  bel : Below w.heap.size w wr
  sz : w.heap.size + 2 ≤ wr.heap.size
  b2 : Bk wr w.heap.size zEx 31
  b3 : Bk wr (w.heap.size + 1) cur.c 31
  ins : UIn (fun k => k < B ∨ (w.heap.size + 2 ≤ k ∧ k < wr.heap.size)) wr .expr cur
  sm : USm .expr ((l.take j).foldl andT x) cur
  nn : cur.n = ((l.take j).foldl andT x).n
set_option maxRecDepth 100000 in
set_option maxHeartbeats 4000000 in
theorem conjoin_any (B : Nat) (l : List DT) (A : Option Addr) (cap : Nat) (w : World) (hB : B ≤ w.heap.size) (hn : l.length ≤ 1048576) (hl : DRow (fun k => k < B) w 14 A cap l) (hin : ∀ x, x ∈ l → UIn (fun k => k < B) w .expr x) : Calls Tryz.prog 26 #[.slice A l.length cap] w (ExOne (fun k => k < B) (cjo l) w) := by
  obtain ⟨w1, hw1⟩ : ∃ w1, w.alloc (.cells #[.int .i64 0, .int .i64 0, .int .i64 0, .int .i64 0, .int .i64 0, .int .i64 0, .slice none 0 0, .int .i64 0, .int .i64 0, .int .i64 0, .string ⟨#[]⟩, .slice none 0 0, .slice none 0 0, .slice none 0 0] 31) = w1 := ⟨_, rfl⟩
  have hz1 : w1.heap.size = w.heap.size + 1 := by rw [← hw1]; simp
  have k1 : Hid (Bk w1 w.heap.size zEx 31) := by show Bk _ _ _ _; rw [← hw1]; exact Bk.new w zEx _
  have hb1 : Hid (Below w.heap.size w w1) := by show Below _ _ _; rw [← hw1]; exact bel1 _ _
  have hh := hl.1
  have hh2 := hl.2.1
  cases l with
  | nil =>
    have Hl := Lib.hid hl
    clear hl hin
    go_enter Tryz.func26, Tryz.ntmps26
    go_wp2_with (first
      | (go_at_call 48; refine (truth_any w1).mono ?_; rintro e w2 ⟨y, rfl, hb2, hy, hu⟩; have hz2 := hb2.size; have y14 : Hid (y.c.toArray.size = 14) := (by show _ = _; rw [List.size_toArray, (hy (fun _ => False)).len]; rfl); have yi : Hid ((Tryz.prog.info? 31).map (·.size) = some y.c.length) := (by show _ = _; rw [(hy (fun _ => False)).len]; exact uClExpr1); have y1 := Lib.hid (all_one (hy (fun _ => False)).ones); have K2 : Hid (Bk w2 w.heap.size zEx 31) := (hb2.block _ (by omega)).trans k1.out; have Hy := Lib.hid hy; have Hb2 := Lib.hid hb2; have Hu := Lib.hid hu; clear hy hb2 hu)
      | (refine wpList_store_blk rfl 31 _ _ rfl _ 0 _ _ y.c rfl rfl K2.out yi.out (by simpa [zEx] using Nat.le_of_eq y14.out) (by simpa using y1.out) ?_; intro w7 hw7))
    rw [setL_all _ _ (by simpa [zEx] using y14.out)] at hw7
    refine bodyPost_blk rfl w.heap.size y.c _ rfl _ hw7.bk Tryz.underlying31 rfl yi.out rfl ?_
    exact ⟨y, rfl, belTr hb1.out (belTr (belLo Hb2.out (by omega)) (hw7.below (Nat.le_refl _))), (Hy.out (fun _ => False)).keep (fun _ h => h.elim) fun _ h => h.elim, Hu.out⟩
  | cons x r =>
    obtain ⟨m, hm⟩ : ∃ m, r.length = m := ⟨_, rfl⟩
    obtain ⟨x', ad, hx0, rfl, hb0, hat0⟩ := hl.get (i := 0) (by simp)
    simp at hx0
    subst hx0
    have hx := hin x (by simp)
    have Hix : Hid ((Tryz.prog.info? 31).map (·.size) = some x.c.length) := by show _ = _; rw [hx.len]; exact uClExpr1
    have X14 : Hid (x.c.toArray.size = 14) := by show _ = _; rw [List.size_toArray, hx.len]; rfl
    have X1 := Lib.hid (all_one hx.ones)
    have Hat0 : Hid (∀ j u, x.c[j]? = some u → w1.cell? ((ad.add (0 * 14)).add j) = some u) := fun j u hu => at_add (DT.At.keep hat0 (w' := w1) (S := fun k => k < B) (fun k hk => hb1.out.block k (by omega)) (by rw [block_add]; exact hb0)) j u hu
    obtain ⟨w2, hw2⟩ : ∃ w2, w1.alloc (.cells #[.int .i64 0, .int .i64 0, .int .i64 0, .int .i64 0, .int .i64 0, .int .i64 0, .slice none 0 0, .int .i64 0, .int .i64 0, .int .i64 0, .string ⟨#[]⟩, .slice none 0 0, .slice none 0 0, .slice none 0 0] 31) = w2 := ⟨_, rfl⟩
    have hz2 : w2.heap.size = w.heap.size + 2 := by rw [← hw2]; simp [hz1]
    have k2 : Hid (Bk w2 (w.heap.size + 1) zEx 31) := by show Bk _ _ _ _; rw [← hw2, ← hz1]; exact Bk.new w1 zEx _
    have j1 : Hid (Bk w2 w.heap.size zEx 31) := by show Bk _ _ _ _; rw [← hw2]; exact k1.out.alloc _
    have hb2 : Hid (Below w.heap.size w w2) := by show Below _ _ _; rw [← hw2]; exact hb1.out.alloc (by omega) _
    have Hx := Lib.hid hx
    have Hl := Lib.hid hl
    have Hin := Lib.hid hin
    simp only [List.length_cons] at hh hn ⊢
    rw [hm] at hh hn ⊢
    have Hm := Lib.hid hm
    clear hl hin hx hat0
    by_cases hc1 : cap = 1
    · obtain rfl : m = 0 := by omega
      have Hel : Hid (∀ i, i < 0 → ∃ z, r[i]? = some z ∧ UIn (fun k => k < B) w .expr z ∧ ∀ wr, Below w.heap.size w wr → ∀ j u, z.c[j]? = some u → wr.cell? ((ad.add (i * 14)).add j) = some u) := fun i hi => by omega
      subst hc1
      go_enter Tryz.func26, Tryz.ntmps26
      go_wp2_with (first
        | (refine wpList_load_st rfl 31 _ rfl _ Tryz.underlying31 rfl (ad.add (0 * 14)) x.c Hix.out rfl Hat0.out ?_)
        | (refine wpList_store_blk rfl 31 _ _ rfl _ 0 _ _ x.c rfl rfl k2.out Hix.out (by simpa [zEx] using Nat.le_of_eq X14.out) (by simpa using X1.out) ?_; intro w3 hw3; have hz3 := hw3.size; have W3 := Lib.hid hw3; clear hw3))
      have hI0 : Hid (CjI B w r x 0 x w3) := ⟨belTr hb2.out (W3.out.below (by omega)), by omega, j1.out.wrt W3.out (by omega), (by have := W3.out.bk; rwa [setL_all _ _ (by simpa [zEx] using X14.out)] at this), Hx.out.keep (fun k hk => (W3.out.block k (by have hk' : k < B := hk; omega)).trans (hb2.out.block k (by have hk' : k < B := hk; omega))) fun k hk => .inl hk, USm.refl _ _, rfl⟩
      go_loopw [16] (fun i wr => ∃ (j : Nat) (cur : DT), j ≤ 0 ∧ i = .int .i64 j ∧ CjI B w r x j cur wr) (fun i _ => 0 - (intOf i).toNat)
      case atStart => exact ⟨0, x, Nat.zero_le _, rfl, hI0.out⟩
      case round =>
        obtain ⟨j, cur, hj, rfl, hI⟩ := hrel
        have HI := Lib.hid hI
        have cur14 : Hid (cur.c.toArray.size = 14) := by show _ = _; rw [List.size_toArray, hI.ins.len]; rfl
        have curi : Hid ((Tryz.prog.info? 31).map (·.size) = some cur.c.length) := by show _ = _; rw [hI.ins.len]; exact uClExpr1
        have cur1 := Lib.hid (all_one hI.ins.ones)
        by_cases hlt : j < 0
        · omega
        · obtain rfl : j = 0 := by omega
          have K3 := Lib.hid hI.b3
          have K2 := Lib.hid hI.b2
          clear hI
          go_wp2_with (first
            | (refine wpList_load_part rfl 31 _ rfl _ Tryz.underlying31 rfl _ _ _ _ cur.c rfl K3.out curi.out (by rw [List.drop_zero, List.take_length]) ?_)
            | (refine wpList_store_blk rfl 31 _ _ rfl _ 0 _ _ cur.c rfl rfl K2.out curi.out (by simpa [zEx] using Nat.le_of_eq cur14.out) (by simpa using cur1.out) ?_; intro w7 hw7))
          rw [setL_all _ _ (by simpa [zEx] using cur14.out)] at hw7
          refine bodyPost_blk rfl w.heap.size cur.c _ rfl _ hw7.bk Tryz.underlying31 rfl curi.out rfl ?_
          have hI := HI.out
          have hs7 := hw7.size
          have hsz := hI.sz
          refine ⟨cur, rfl, belTr hI.bel (hw7.below (Nat.le_refl _)), hI.ins.keep (fun k hk => hw7.block k (by rcases hk with h | h <;> omega)) (fun k hk => by rcases hk with h | h; exact .inl h; exact .inr (by omega)), ?_⟩
          have h1 := hI.sm
          have h2 := hI.nn
          rw [List.take_of_length_le (by rw [Hm.out]; exact Nat.le_refl _)] at h1 h2
          exact ⟨h1, h2⟩
    · have Hel : Hid (∀ i, i < m → ∃ z, r[i]? = some z ∧ UIn (fun k => k < B) w .expr z ∧ ∀ wr, Below w.heap.size w wr → ∀ j u, z.c[j]? = some u → wr.cell? ((⟨ad.block, ad.off + 14 + i * 14, none⟩ : Addr).add j) = some u) := fun i hi => by
        obtain ⟨z, ad', hz, e, hbz, hatz⟩ := Hl.out.get (i := i + 1) (by simp; have := Hm.out; omega)
        cases e
        refine ⟨z, by simpa using hz, Hin.out z (by simp; exact .inr (mem_of_get? (by simpa using hz))), fun wr hb j u hu => ?_⟩
        have := at_add (DT.At.keep hatz (w' := wr) (S := fun k => k < B) (fun k hk => hb.block k (by have hk' : k < B := hk; omega)) (by rw [block_add]; exact hbz)) j u hu
        rwa [show ad.add ((i + 1) * 14) = (⟨ad.block, ad.off + 14 + i * 14, none⟩ : Addr) by unfold Addr.add; rw [if_neg (by omega)]; congr 1; omega] at this
      have hc2 : 2 ≤ cap := by omega
      go_enter Tryz.func26, Tryz.ntmps26
      go_wp2_with (first
        | (refine wpList_load_st rfl 31 _ rfl _ Tryz.underlying31 rfl (ad.add (0 * 14)) x.c Hix.out rfl Hat0.out ?_)
        | (refine wpList_store_blk rfl 31 _ _ rfl _ 0 _ _ x.c rfl rfl k2.out Hix.out (by simpa [zEx] using Nat.le_of_eq X14.out) (by simpa using X1.out) ?_; intro w3 hw3; have hz3 := hw3.size; have W3 := Lib.hid hw3; clear hw3))
      have hI0 : Hid (CjI B w r x 0 x w3) := ⟨belTr hb2.out (W3.out.below (by omega)), by omega, j1.out.wrt W3.out (by omega), (by have := W3.out.bk; rwa [setL_all _ _ (by simpa [zEx] using X14.out)] at this), Hx.out.keep (fun k hk => (W3.out.block k (by have hk' : k < B := hk; omega)).trans (hb2.out.block k (by have hk' : k < B := hk; omega))) fun k hk => .inl hk, USm.refl _ _, rfl⟩
      go_loopw [16] (fun i wr => ∃ (j : Nat) (cur : DT), j ≤ m ∧ i = .int .i64 j ∧ CjI B w r x j cur wr) (fun i _ => m - (intOf i).toNat)
      case atStart => exact ⟨0, x, Nat.zero_le _, rfl, hI0.out⟩
      case round =>
        obtain ⟨j, cur, hj, rfl, hI⟩ := hrel
        have HI := Lib.hid hI
        have cur14 : Hid (cur.c.toArray.size = 14) := by show _ = _; rw [List.size_toArray, hI.ins.len]; rfl
        have curi : Hid ((Tryz.prog.info? 31).map (·.size) = some cur.c.length) := by show _ = _; rw [hI.ins.len]; exact uClExpr1
        have cur1 := Lib.hid (all_one hI.ins.ones)
        by_cases hlt : j < m
        · obtain ⟨z, hz, hzi, hzc⟩ := Hel.out j hlt
          have Hzi : Hid ((Tryz.prog.info? 31).map (·.size) = some z.c.length) := by show _ = _; rw [hzi.len]; exact uClExpr1
          have Hzi2 : Hid ((Tryz.prog.info? 31).map (·.size) = some z.c.toArray.size) := by show _ = _; rw [List.size_toArray, hzi.len]; exact uClExpr1
          have Hz14 : Hid (z.c.toArray.size = 14) := by show _ = _; rw [List.size_toArray, hzi.len]; rfl
          have Hz1 := Lib.hid (all_one hzi.ones)
          have Hat := Lib.hid (hzc wr hI.bel)
          have HZ := Lib.hid hz
          obtain ⟨W2, hW2⟩ : ∃ W2, wr.alloc (.cells z.c.toArray 31) = W2 := ⟨_, rfl⟩
          have hzw : W2.heap.size = wr.heap.size + 1 := by rw [← hW2]; simp
          have HW2 := Lib.hid hW2
          have Hcell : Hid (Bk W2 wr.heap.size z.c 31) := by show Bk _ _ _ _; rw [← hW2]; exact Bk.new wr z.c _
          have Hc3 : Hid (Bk W2 (w.heap.size + 1) cur.c 31) := by show Bk _ _ _ _; rw [← hW2]; exact hI.b3.alloc _
          have hsz := hI.sz
          have bW2 : Below wr.heap.size wr W2 := by rw [← hW2]; exact bel1 _ _
          have hcall := math_any (fun k => k < B ∨ (w.heap.size + 2 ≤ k ∧ k < wr.heap.size)) cur z W2 (fun k hk => by rcases hk with h | h <;> omega) (hI.ins.keep (fun k hk => bW2.block k (by rcases hk with h | h <;> omega)) fun _ h => h) (hzi.keep (fun k hk => (bW2.block k (by have hk' : k < B := hk; omega)).trans (hI.bel.block k (by have hk' : k < B := hk; omega))) fun _ h => .inl h)
          have Hcall := Lib.hid hcall
          have HbW2 := Lib.hid bW2
          have Hhi := Lib.hid hzi
          clear hcall hzc hzi hz hI hW2 bW2
          go_upto_region 7 with (first | (refine wpList_load_st rfl 31 _ rfl _ Tryz.underlying31 rfl (⟨ad.block, ad.off + 14 + j * 14, none⟩) z.c Hzi.out rfl Hat.out ?_) | (refine wpList_store_st rfl 31 _ _ rfl _ z.c.toArray Hzi2.out Hz14.out.symm Hz1.out rfl rfl ?_))
          rw [HW2.out]
          go_wp2_with (first
            | (refine wpList_load_part rfl 31 _ rfl _ Tryz.underlying31 rfl _ _ _ _ cur.c rfl Hc3.out curi.out (by rw [List.drop_zero, List.take_length]) ?_)
            | (refine wpList_load_part rfl 31 _ rfl _ Tryz.underlying31 rfl _ _ _ _ z.c rfl Hcell.out Hzi.out (by rw [List.drop_zero, List.take_length]) ?_)
            | (go_at_call 49; refine Hcall.out.mono ?_; rintro e w5 ⟨y, rfl, hb5, hy, hu⟩; have hz5 := hb5.size; have y14 : Hid (y.c.toArray.size = 14) := (by show _ = _; rw [List.size_toArray, hy.len]; rfl); have yi : Hid ((Tryz.prog.info? 31).map (·.size) = some y.c.length) := (by show _ = _; rw [hy.len]; exact uClExpr1); have y1 := Lib.hid (all_one hy.ones); have K5 : Hid (Bk w5 (w.heap.size + 1) cur.c 31) := (hb5.block _ (by omega)).trans Hc3.out; have Hy := Lib.hid hy; have Hb5 := Lib.hid hb5; have Hu := Lib.hid hu; clear hy hb5 hu)
            | (refine wpList_store_blk rfl 31 _ _ rfl _ 0 _ _ y.c rfl rfl K5.out yi.out (by simpa using Nat.le_of_eq (y14.out.trans cur14.out.symm)) (by simpa using y1.out) ?_; intro w6 hw6; have W6 := Lib.hid hw6; clear hw6))
          go_roundw
          case rel =>
            have hI := HI.out
            have w6 := W6.out
            rw [setL_all _ _ (by simpa using y14.out.trans cur14.out.symm)] at w6
            have hs6 := w6.size
            have b52 : Below wr.heap.size wr w5 := belTr HbW2.out (belLo Hb5.out (by omega))
            refine ⟨j + 1, y, by omega, by simp, belTr hI.bel (belTr (belLo b52 (by omega)) (w6.below (by omega))), by omega, (w6.block _ (by omega)).trans ((b52.block _ (by omega)).trans hI.b2), w6.bk, Hy.out.keep (fun k hk => w6.block k (by rcases hk with (h | h) | h <;> omega)) (fun k hk => by rcases hk with (h | h) | h; exact .inl h; exact .inr (by omega); exact .inr (by omega)), ?_, ?_⟩
            · rw [List.take_add_one, HZ.out, List.foldl_append]
              exact (andT_congr hI.sm (USm.refl _ _)).trans Hu.out.1
            · rw [List.take_add_one, HZ.out, List.foldl_append]
              rw [Hu.out.2]
              show _ = (andT _ z).n
              rw [andT_n, andT_n, hI.nn]
          case measure => simp [intOf]; omega
        · obtain rfl : j = m := by omega
          have K3 := Lib.hid hI.b3
          have K2 := Lib.hid hI.b2
          clear hI
          go_wp2_with (first
            | (refine wpList_load_part rfl 31 _ rfl _ Tryz.underlying31 rfl _ _ _ _ cur.c rfl K3.out curi.out (by rw [List.drop_zero, List.take_length]) ?_)
            | (refine wpList_store_blk rfl 31 _ _ rfl _ 0 _ _ cur.c rfl rfl K2.out curi.out (by simpa [zEx] using Nat.le_of_eq cur14.out) (by simpa using cur1.out) ?_; intro w7 hw7))
          rw [setL_all _ _ (by simpa [zEx] using cur14.out)] at hw7
          refine bodyPost_blk rfl w.heap.size cur.c _ rfl _ hw7.bk Tryz.underlying31 rfl curi.out rfl ?_
          have hI := HI.out
          have hs7 := hw7.size
          have hsz := hI.sz
          refine ⟨cur, rfl, belTr hI.bel (hw7.below (Nat.le_refl _)), hI.ins.keep (fun k hk => hw7.block k (by rcases hk with h | h <;> omega)) (fun k hk => by rcases hk with h | h; exact .inl h; exact .inr (by omega)), ?_⟩
          have h1 := hI.sm
          have h2 := hI.nn
          rw [List.take_of_length_le (by rw [Hm.out]; exact Nat.le_refl _)] at h1 h2
          exact ⟨h1, h2⟩
theorem cjo_n (l : List DT) : (cjo l).n ≤ nL l + l.length + 1 := by
  have h : ∀ (r : List DT) (x : DT), (r.foldl andT x).n ≤ x.n + nL r + r.length := by
    intro r
    induction r with
    | nil => intro x; simp
    | cons y r ih =>
      intro x
      have := ih (andT x y)
      rw [andT_n] at this
      simp only [List.foldl_cons, List.length_cons]
      rw [nL_cons]
      omega
  cases l with
  | nil => simp [cjo, yesT, DT.n_node]; exact Nat.le_refl _
  | cons x r =>
    have := h r x
    simp only [cjo, List.length_cons]
    rw [nL_cons]
    omega
set_option maxRecDepth 100000 in
set_option maxHeartbeats 4000000 in
theorem pConjoin_any (B : Nat) (l : List DT) (A : Option Addr) (cap : Nat) (w : World) (hB : B ≤ w.heap.size) (hn : nL l + l.length + 1 ≤ 1048576) (hl : DRow (fun k => k < B) w 14 A cap l) (hin : ∀ x, x ∈ l → UIn (fun k => k < B) w .expr x) : Calls Tryz.prog 8 #[.slice A l.length cap] w fun e w' => ∃ y : DT, e = .returned (.agg y.c.toArray) ∧ Below w.heap.size w w' ∧ UIn (Lv w') w' .expr y ∧ USm .expr (cjo l) y := by
  obtain ⟨w1, hw1⟩ : ∃ w1, w.alloc (.cells #[.int .i64 0, .int .i64 0, .int .i64 0, .int .i64 0, .int .i64 0, .int .i64 0, .slice none 0 0, .int .i64 0, .int .i64 0, .int .i64 0, .string ⟨#[]⟩, .slice none 0 0, .slice none 0 0, .slice none 0 0] 31) = w1 := ⟨_, rfl⟩
  have hz1 : w1.heap.size = w.heap.size + 1 := by rw [← hw1]; simp
  have k1 : Hid (Bk w1 w.heap.size zEx 31) := by show Bk _ _ _ _; rw [← hw1]; exact Bk.new w zEx _
  have hb1 : Hid (Below w.heap.size w w1) := by show Below _ _ _; rw [← hw1]; exact bel1 _ _
  have hcj := Lib.hid (conjoin_any B l A cap w1 (by omega) (by omega) (hl.keep (fun k hk => hb1.out.block k (by have hk' : k < B := hk; omega)) fun _ h => h) fun x hx => (hin x hx).keep (fun k hk => hb1.out.block k (by have hk' : k < B := hk; omega)) fun _ h => h)
  clear hl hin
  go_enter Tryz.func8, Tryz.ntmps8
  go_wp2_with (first
    | (go_at_call 26; refine hcj.out.mono ?_; rintro e w2 ⟨y, rfl, hb2, hy, hu, hyn⟩; have hz2 := hb2.size; have hcp := Lib.hid (copyExpr_any w2.heap.size y () w2 (Nat.le_refl _) (by have := cjo_n l; omega) (hy.keep (fun _ _ => rfl) fun k hk => by rcases hk with h | h <;> omega)); have Hu := Lib.hid hu; have Hb2 := Lib.hid hb2; clear hy hu hb2)
    | (go_at_call 22; refine hcp.out.mono ?_; rintro e w3 ⟨z, s', rfl, hf, _, hz, hu2⟩; have hb3 := Fr.toB hf; have hz3 := hb3.size; have z14 : Hid (z.c.toArray.size = 14) := (by show _ = _; rw [List.size_toArray, hz.len]; rfl); have zi : Hid ((Tryz.prog.info? 31).map (·.size) = some z.c.length) := (by show _ = _; rw [hz.len]; exact uClExpr1); have z1 := Lib.hid (all_one hz.ones); have K3 : Hid (Bk w3 w.heap.size zEx 31) := (hb3.block _ (by omega)).trans ((Hb2.out.block _ (by omega)).trans k1.out); have Hz := Lib.hid hz; have Hb3 := Lib.hid hb3; have Hu2 := Lib.hid hu2; clear hz hb3 hu2 hf)
    | (refine wpList_store_blk rfl 31 _ _ rfl _ 0 _ _ z.c rfl rfl K3.out zi.out (by simpa [zEx] using Nat.le_of_eq z14.out) (by simpa using z1.out) ?_; intro w7 hw7))
  rw [setL_all _ _ (by simpa [zEx] using z14.out)] at hw7
  refine bodyPost_blk rfl w.heap.size z.c _ rfl _ hw7.bk Tryz.underlying31 rfl zi.out rfl ?_
  refine ⟨z, rfl, belTr hb1.out (belTr (belLo Hb2.out (by omega)) (belTr (belLo Hb3.out (by omega)) (hw7.below (Nat.le_refl _)))), ?_, Hu.out.trans Hu2.out⟩
  exact Hz.out.keep (fun k hk => hw7.block k (by have := hk.1.resolve_left (fun h => h); omega)) fun k hk => by have := hk.2.1; show _ < _; rw [hw7.size]; exact this
end Go.Proofs.YthijagpnpcpcbaaGreat
namespace Go.Proofs.YthijagpnpcpcbaaGreat
open Go.RowKit Go.Sort
/-- A conjunction of two whose arguments lie in a block. -/
def andV (b : Nat) (x y : DT) : DT := .node [.int .i64 3, .int .i64 6, .int .i64 0, .int .i64 0, .int .i64 0, .int .i64 0, .slice none 0 0, .int .i64 0, .int .i64 0, .int .i64 0, .string ⟨#[]⟩, .slice none 0 0, .slice (some ⟨b, 0, none⟩) 2 2, .slice none 0 0] [[], [], [x, y], []]
theorem and_in (S : Nat → Prop) (x y : DT) (w w4 : World) (hw4 : w.alloc (.cells (x.c.toArray ++ y.c.toArray) 31) = w4) (hS : ∀ k, S k → k < w.heap.size) (hx : UIn S w .expr x) (hy : UIn S w .expr y) :
    UIn (fun k => S k ∨ (w.heap.size ≤ k ∧ k < w4.heap.size)) w4 .expr (andV w.heap.size x y) ∧ USm .expr (andT x y) (andV w.heap.size x y) ∧ (andV w.heap.size x y).n = (andT x y).n := by
  have X14 : x.c.toArray.size = 14 := by rw [List.size_toArray, hx.len]; rfl
  have Y14 : y.c.toArray.size = 14 := by rw [List.size_toArray, hy.len]; rfl
  have hz4 : w4.heap.size = w.heap.size + 1 := by rw [← hw4]; simp
  have b4 : Below w.heap.size w w4 := by rw [← hw4]; exact bel1 _ _
  have ho3 : w4.ownsRow w.heap.size 31 14 (.slice (some ⟨w.heap.size, 0, none⟩) 2 2) 2 ([x, y].flatMap DT.c) := by
    have := World.ownsRow_lit (base := w.heap.size) (e := 31) (size := 14) w (x.c.toArray ++ y.c.toArray) 2 (Nat.le_refl _) (by unfold maxLen; omega) (by rw [Array.size_append, X14, Y14])
    rw [hw4] at this
    simpa using this
  obtain ⟨A5, c5, he5, hr5, _⟩ := own_structs ho3 rfl (fun u hu => by
    simp at hu
    rcases hu with rfl | rfl
    · exact hx.len
    · exact hy.len)
  cases he5
  have hr6 : DRow (fun k => S k ∨ (w.heap.size ≤ k ∧ k < w4.heap.size)) w4 14 (some ⟨w.heap.size, 0, none⟩) 2 [x, y] := hr5.keep (fun k hk => rfl) fun k hk => .inr ⟨hk.2.1, hk.2.2⟩
  have hx5 : UIn (fun k => S k ∨ (w.heap.size ≤ k ∧ k < w4.heap.size)) w4 .expr x := hx.keep (fun k hk => b4.block k (hS k hk)) fun k hk => .inl hk
  have hy5 : UIn (fun k => S k ∨ (w.heap.size ≤ k ∧ k < w4.heap.size)) w4 .expr y := hy.keep (fun k hk => b4.block k (hS k hk)) fun k hk => .inl hk
  have i0' : I64 0 := by unfold I64; omega
  exact ⟨UIn.mkK rfl rfl ⟨⟨3, 6, 0, 0, 0, 0, 0, 0, 0, ⟨#[]⟩⟩, _, _, _, _, rfl, by show I64 3; unfold I64; omega, by show I64 6; unfold I64; omega, i0', i0', i0', i0', i0', i0', i0', by show (0 : Nat) ≤ _; unfold maxLen; omega⟩ ⟨⟨none, 0, rfl, nil_row _ _ _ _ _ (by unfold maxLen; omega), fun _ h => by cases h⟩, ⟨none, 0, rfl, nil_row _ _ _ _ _ (by unfold maxLen; omega), fun _ h => by cases h⟩, ⟨_, 2, rfl, hr6, fun u hu => by
      simp at hu
      rcases hu with rfl | rfl
      · exact hx5
      · exact hy5⟩, ⟨none, 0, rfl, nil_row _ _ _ _ _ (by unfold maxLen; omega), fun _ h => by cases h⟩, trivial⟩, andT_sm ⟨rfl, rfl⟩ (fun j h6 h11 h12 h13 => by match j with | 0 => rfl | 1 => rfl | 2 => rfl | 3 => rfl | 4 => rfl | 5 => rfl | 6 => exact absurd rfl h6 | 7 => rfl | 8 => rfl | 9 => rfl | 10 => rfl | 11 => rfl | 12 => exact absurd rfl h12 | 13 => rfl | j + 14 => rfl) (USm.refl _ _) (USm.refl _ _), by unfold andT andV; rw [DT.n_node, DT.n_node]⟩
set_option maxRecDepth 100000 in
set_option maxHeartbeats 4000000 in
theorem ryes_any (w : World) : Calls Tryz.prog 27 #[] w (ExNil yesT w) := by
  obtain ⟨w1, hw1⟩ : ∃ w1, w.alloc (.cells #[.int .i64 0, .int .i64 0, .int .i64 0, .int .i64 0, .int .i64 0, .int .i64 0, .slice none 0 0, .int .i64 0, .int .i64 0, .int .i64 0, .string ⟨#[]⟩, .slice none 0 0, .slice none 0 0, .slice none 0 0] 31) = w1 := ⟨_, rfl⟩
  have k1 : Hid (Bk w1 w.heap.size zEx 31) := by show Bk _ _ _ _; rw [← hw1]; exact Bk.new w zEx _
  have hbw : Hid (Below w.heap.size w w1) := by show Below _ _ _; rw [← hw1]; exact bel1 _ _
  have i31 := Lib.hid uClExpr1
  go_enter Tryz.func27, Tryz.ntmps27
  go_wp2_with (refine wpList_store_blk rfl 31 _ _ rfl _ 0 _ _ [.int .i64 1, .int .i64 0, .int .i64 0, .int .i64 0, .int .i64 1, .int .i64 0, .slice none 0 0, .int .i64 1, .int .i64 1, .int .i64 0, .string ⟨#[]⟩, .slice none 0 0, .slice none 0 0, .slice none 0 0] rfl rfl k1.out i31.out (by simp [zEx]) rfl ?_; intro w5 hw5)
  refine bodyPost_blk rfl w.heap.size [.int .i64 1, .int .i64 0, .int .i64 0, .int .i64 0, .int .i64 1, .int .i64 0, .slice none 0 0, .int .i64 1, .int .i64 1, .int .i64 0, .string ⟨#[]⟩, .slice none 0 0, .slice none 0 0, .slice none 0 0] _ rfl _ hw5.bk Tryz.underlying31 rfl i31.out rfl ?_
  have b5 : Below w.heap.size w w5 := belTr hbw.out (hw5.below (by omega))
  have i0' : I64 0 := by unfold I64; omega
  have i1' : I64 1 := by unfold I64; omega
  exact ⟨yesT, rfl, b5, fun S => UIn.mkK rfl rfl ⟨⟨1, 0, 0, 0, 1, 0, 1, 1, 0, ⟨#[]⟩⟩, _, _, _, _, rfl, i1', i0', i0', i0', i1', i0', i1', i1', i0', by show (0 : Nat) ≤ _; unfold maxLen; omega⟩ ⟨⟨none, 0, rfl, nil_row _ _ _ _ _ (by unfold maxLen; omega), fun _ h => by cases h⟩, ⟨none, 0, rfl, nil_row _ _ _ _ _ (by unfold maxLen; omega), fun _ h => by cases h⟩, ⟨none, 0, rfl, nil_row _ _ _ _ _ (by unfold maxLen; omega), fun _ h => by cases h⟩, ⟨none, 0, rfl, nil_row _ _ _ _ _ (by unfold maxLen; omega), fun _ h => by cases h⟩, trivial⟩, USm.refl _ _, rfl⟩
set_option maxRecDepth 100000 in
set_option maxHeartbeats 4000000 in
theorem rConjoin_any (B : Nat) (l : List DT) (A : Option Addr) (cap : Nat) (w : World) (hB : B ≤ w.heap.size) (hn : l.length ≤ 1048576) (hl : DRow (fun k => k < B) w 14 A cap l) (hin : ∀ x, x ∈ l → UIn (fun k => k < B) w .expr x) : Calls Tryz.prog 9 #[.slice A l.length cap] w (ExOne (fun k => k < B) (cjo l) w) := by
  obtain ⟨i0, hi, hrest⟩ := Option.map_eq_some_iff.1 infoExp_u
  simp only [Prod.mk.injEq] at hrest
  obtain ⟨hz0, isz, iby⟩ := hrest
  obtain ⟨z0, iz, hzs⟩ := Option.map_eq_some_iff.1 hz0
  obtain ⟨w1, hw1⟩ : ∃ w1, w.alloc (.cells #[.int .i64 0, .int .i64 0, .int .i64 0, .int .i64 0, .int .i64 0, .int .i64 0, .slice none 0 0, .int .i64 0, .int .i64 0, .int .i64 0, .string ⟨#[]⟩, .slice none 0 0, .slice none 0 0, .slice none 0 0] 31) = w1 := ⟨_, rfl⟩
  have hz1 : w1.heap.size = w.heap.size + 1 := by rw [← hw1]; simp
  have k1 : Hid (Bk w1 w.heap.size zEx 31) := by show Bk _ _ _ _; rw [← hw1]; exact Bk.new w zEx _
  have hb1 : Hid (Below w.heap.size w w1) := by show Below _ _ _; rw [← hw1]; exact bel1 _ _
  have i31 := Lib.hid uClExpr1
  have hh := hl.1
  have hh2 := hl.2.1
  cases l with
  | nil =>
    have Hl := Lib.hid hl
    clear hl hin
    go_enter Tryz.func9, Tryz.ntmps9
    go_wp2_with (first
      | (go_at_call 27; refine (ryes_any w1).mono ?_; rintro e w2 ⟨y, rfl, hb2, hy, hu⟩; have hz2 := hb2.size; have y14 : Hid (y.c.toArray.size = 14) := (by show _ = _; rw [List.size_toArray, (hy (fun _ => False)).len]; rfl); have yi : Hid ((Tryz.prog.info? 31).map (·.size) = some y.c.length) := (by show _ = _; rw [(hy (fun _ => False)).len]; exact uClExpr1); have y1 := Lib.hid (all_one (hy (fun _ => False)).ones); have K2 : Hid (Bk w2 w.heap.size zEx 31) := (hb2.block _ (by omega)).trans k1.out; have Hy := Lib.hid hy; have Hb2 := Lib.hid hb2; have Hu := Lib.hid hu; clear hy hb2 hu)
      | (refine wpList_store_blk rfl 31 _ _ rfl _ 0 _ _ y.c rfl rfl K2.out yi.out (by simpa [zEx] using Nat.le_of_eq y14.out) (by simpa using y1.out) ?_; intro w7 hw7))
    rw [setL_all _ _ (by simpa [zEx] using y14.out)] at hw7
    refine bodyPost_blk rfl w.heap.size y.c _ rfl _ hw7.bk Tryz.underlying31 rfl yi.out rfl ?_
    exact ⟨y, rfl, belTr hb1.out (belTr (belLo Hb2.out (by omega)) (hw7.below (Nat.le_refl _))), (Hy.out (fun _ => False)).keep (fun _ h => h.elim) fun _ h => h.elim, Hu.out⟩
  | cons x r =>
    obtain ⟨m, hm⟩ : ∃ m, r.length = m := ⟨_, rfl⟩
    obtain ⟨x', ad, hx0, rfl, hb0, hat0⟩ := hl.get (i := 0) (by simp)
    simp at hx0
    subst hx0
    have hx := hin x (by simp)
    have Hix : Hid ((Tryz.prog.info? 31).map (·.size) = some x.c.length) := by show _ = _; rw [hx.len]; exact uClExpr1
    have X14 : Hid (x.c.toArray.size = 14) := by show _ = _; rw [List.size_toArray, hx.len]; rfl
    have X1 := Lib.hid (all_one hx.ones)
    have Hat0 : Hid (∀ j u, x.c[j]? = some u → w1.cell? ((ad.add (0 * 14)).add j) = some u) := fun j u hu => at_add (DT.At.keep hat0 (w' := w1) (S := fun k => k < B) (fun k hk => hb1.out.block k (by omega)) (by rw [block_add]; exact hb0)) j u hu
    obtain ⟨w2, hw2⟩ : ∃ w2, w1.alloc (.cells #[.int .i64 0, .int .i64 0, .int .i64 0, .int .i64 0, .int .i64 0, .int .i64 0, .slice none 0 0, .int .i64 0, .int .i64 0, .int .i64 0, .string ⟨#[]⟩, .slice none 0 0, .slice none 0 0, .slice none 0 0] 31) = w2 := ⟨_, rfl⟩
    have hz2 : w2.heap.size = w.heap.size + 2 := by rw [← hw2]; simp [hz1]
    have k2 : Hid (Bk w2 (w.heap.size + 1) zEx 31) := by show Bk _ _ _ _; rw [← hw2, ← hz1]; exact Bk.new w1 zEx _
    have j1 : Hid (Bk w2 w.heap.size zEx 31) := by show Bk _ _ _ _; rw [← hw2]; exact k1.out.alloc _
    have hb2 : Hid (Below w.heap.size w w2) := by show Below _ _ _; rw [← hw2]; exact hb1.out.alloc (by omega) _
    have Hx := Lib.hid hx
    have Hl := Lib.hid hl
    have Hin := Lib.hid hin
    simp only [List.length_cons] at hh hn ⊢
    rw [hm] at hh hn ⊢
    have Hm := Lib.hid hm
    clear hl hin hx hat0
    by_cases hc1 : cap = 1
    · obtain rfl : m = 0 := by omega
      have Hel : Hid (∀ i, i < 0 → ∃ z, r[i]? = some z ∧ UIn (fun k => k < B) w .expr z ∧ ∀ wr, Below w.heap.size w wr → ∀ j u, z.c[j]? = some u → wr.cell? ((ad.add (i * 14)).add j) = some u) := fun i hi => by omega
      subst hc1
      go_enter Tryz.func9, Tryz.ntmps9
      go_wp2_with (first
        | (refine wpList_load_st rfl 31 _ rfl _ Tryz.underlying31 rfl (ad.add (0 * 14)) x.c Hix.out rfl Hat0.out ?_)
        | (refine wpList_store_blk rfl 31 _ _ rfl _ 0 _ _ x.c rfl rfl k2.out Hix.out (by simpa [zEx] using Nat.le_of_eq X14.out) (by simpa using X1.out) ?_; intro w3 hw3; have hz3 := hw3.size; have W3 := Lib.hid hw3; clear hw3))
      have hI0 : Hid (CjI B w r x 0 x w3) := ⟨belTr hb2.out (W3.out.below (by omega)), by omega, j1.out.wrt W3.out (by omega), (by have := W3.out.bk; rwa [setL_all _ _ (by simpa [zEx] using X14.out)] at this), Hx.out.keep (fun k hk => (W3.out.block k (by have hk' : k < B := hk; omega)).trans (hb2.out.block k (by have hk' : k < B := hk; omega))) fun k hk => .inl hk, USm.refl _ _, rfl⟩
      go_loopw [16] (fun i wr => ∃ (j : Nat) (cur : DT), j ≤ 0 ∧ i = .int .i64 j ∧ CjI B w r x j cur wr) (fun i _ => 0 - (intOf i).toNat)
      case atStart => exact ⟨0, x, Nat.zero_le _, rfl, hI0.out⟩
      case round =>
        obtain ⟨j, cur, hj, rfl, hI⟩ := hrel
        have HI := Lib.hid hI
        have cur14 : Hid (cur.c.toArray.size = 14) := by show _ = _; rw [List.size_toArray, hI.ins.len]; rfl
        have curi : Hid ((Tryz.prog.info? 31).map (·.size) = some cur.c.length) := by show _ = _; rw [hI.ins.len]; exact uClExpr1
        have cur1 := Lib.hid (all_one hI.ins.ones)
        by_cases hlt : j < 0
        · omega
        · obtain rfl : j = 0 := by omega
          have K3 := Lib.hid hI.b3
          have K2 := Lib.hid hI.b2
          clear hI
          go_wp2_with (first
            | (refine wpList_load_part rfl 31 _ rfl _ Tryz.underlying31 rfl _ _ _ _ cur.c rfl K3.out curi.out (by rw [List.drop_zero, List.take_length]) ?_)
            | (refine wpList_store_blk rfl 31 _ _ rfl _ 0 _ _ cur.c rfl rfl K2.out curi.out (by simpa [zEx] using Nat.le_of_eq cur14.out) (by simpa using cur1.out) ?_; intro w7 hw7))
          rw [setL_all _ _ (by simpa [zEx] using cur14.out)] at hw7
          refine bodyPost_blk rfl w.heap.size cur.c _ rfl _ hw7.bk Tryz.underlying31 rfl curi.out rfl ?_
          have hI := HI.out
          have hs7 := hw7.size
          have hsz := hI.sz
          refine ⟨cur, rfl, belTr hI.bel (hw7.below (Nat.le_refl _)), hI.ins.keep (fun k hk => hw7.block k (by rcases hk with h | h <;> omega)) (fun k hk => by rcases hk with h | h; exact .inl h; exact .inr (by omega)), ?_⟩
          have h1 := hI.sm
          have h2 := hI.nn
          rw [List.take_of_length_le (by rw [Hm.out]; exact Nat.le_refl _)] at h1 h2
          exact ⟨h1, h2⟩
    · have Hel : Hid (∀ i, i < m → ∃ z, r[i]? = some z ∧ UIn (fun k => k < B) w .expr z ∧ ∀ wr, Below w.heap.size w wr → ∀ j u, z.c[j]? = some u → wr.cell? ((⟨ad.block, ad.off + 14 + i * 14, none⟩ : Addr).add j) = some u) := fun i hi => by
        obtain ⟨z, ad', hz, e, hbz, hatz⟩ := Hl.out.get (i := i + 1) (by simp; have := Hm.out; omega)
        cases e
        refine ⟨z, by simpa using hz, Hin.out z (by simp; exact .inr (mem_of_get? (by simpa using hz))), fun wr hb j u hu => ?_⟩
        have := at_add (DT.At.keep hatz (w' := wr) (S := fun k => k < B) (fun k hk => hb.block k (by have hk' : k < B := hk; omega)) (by rw [block_add]; exact hbz)) j u hu
        rwa [show ad.add ((i + 1) * 14) = (⟨ad.block, ad.off + 14 + i * 14, none⟩ : Addr) by unfold Addr.add; rw [if_neg (by omega)]; congr 1; omega] at this
      have hc2 : 2 ≤ cap := by omega
      go_enter Tryz.func9, Tryz.ntmps9
      go_wp2_with (first
        | (refine wpList_load_st rfl 31 _ rfl _ Tryz.underlying31 rfl (ad.add (0 * 14)) x.c Hix.out rfl Hat0.out ?_)
        | (refine wpList_store_blk rfl 31 _ _ rfl _ 0 _ _ x.c rfl rfl k2.out Hix.out (by simpa [zEx] using Nat.le_of_eq X14.out) (by simpa using X1.out) ?_; intro w3 hw3; have hz3 := hw3.size; have W3 := Lib.hid hw3; clear hw3))
      have hI0 : Hid (CjI B w r x 0 x w3) := ⟨belTr hb2.out (W3.out.below (by omega)), by omega, j1.out.wrt W3.out (by omega), (by have := W3.out.bk; rwa [setL_all _ _ (by simpa [zEx] using X14.out)] at this), Hx.out.keep (fun k hk => (W3.out.block k (by have hk' : k < B := hk; omega)).trans (hb2.out.block k (by have hk' : k < B := hk; omega))) fun k hk => .inl hk, USm.refl _ _, rfl⟩
      go_loopw [16] (fun i wr => ∃ (j : Nat) (cur : DT), j ≤ m ∧ i = .int .i64 j ∧ CjI B w r x j cur wr) (fun i _ => m - (intOf i).toNat)
      case atStart => exact ⟨0, x, Nat.zero_le _, rfl, hI0.out⟩
      case round =>
        obtain ⟨j, cur, hj, rfl, hI⟩ := hrel
        have HI := Lib.hid hI
        have cur14 : Hid (cur.c.toArray.size = 14) := by show _ = _; rw [List.size_toArray, hI.ins.len]; rfl
        have curi : Hid ((Tryz.prog.info? 31).map (·.size) = some cur.c.length) := by show _ = _; rw [hI.ins.len]; exact uClExpr1
        have cur1 := Lib.hid (all_one hI.ins.ones)
        by_cases hlt : j < m
        · obtain ⟨z, hz, hzi, hzc⟩ := Hel.out j hlt
          have Hzi : Hid ((Tryz.prog.info? 31).map (·.size) = some z.c.length) := by show _ = _; rw [hzi.len]; exact uClExpr1
          have Hzi2 : Hid ((Tryz.prog.info? 31).map (·.size) = some z.c.toArray.size) := by show _ = _; rw [List.size_toArray, hzi.len]; exact uClExpr1
          have Hz14 : Hid (z.c.toArray.size = 14) := by show _ = _; rw [List.size_toArray, hzi.len]; rfl
          have Hz1 := Lib.hid (all_one hzi.ones)
          have Hat := Lib.hid (hzc wr hI.bel)
          have HZ := Lib.hid hz
          obtain ⟨W2, hW2⟩ : ∃ W2, wr.alloc (.cells z.c.toArray 31) = W2 := ⟨_, rfl⟩
          have hzw : W2.heap.size = wr.heap.size + 1 := by rw [← hW2]; simp
          have HW2 := Lib.hid hW2
          have Hcell : Hid (Bk W2 wr.heap.size z.c 31) := by show Bk _ _ _ _; rw [← hW2]; exact Bk.new wr z.c _
          have Hc3 : Hid (Bk W2 (w.heap.size + 1) cur.c 31) := by show Bk _ _ _ _; rw [← hW2]; exact hI.b3.alloc _
          have hsz := hI.sz
          have bW2 : Below wr.heap.size wr W2 := by rw [← hW2]; exact bel1 _ _
          obtain ⟨W4, hW4⟩ : ∃ W4, W2.alloc (.cells (cur.c.toArray ++ z.c.toArray) 31) = W4 := ⟨_, rfl⟩
          have hz4 : W4.heap.size = W2.heap.size + 1 := by rw [← hW4]; simp
          have HW4 := Lib.hid hW4
          have bW4 : Below W2.heap.size W2 W4 := by rw [← hW4]; exact bel1 _ _
          have hand := and_in (fun k => k < B ∨ (w.heap.size + 2 ≤ k ∧ k < wr.heap.size)) cur z W2 W4 hW4 (fun k hk => by rcases hk with h | h <;> omega) (hI.ins.keep (fun k hk => bW2.block k (by rcases hk with h | h <;> omega)) fun _ h => h) (hzi.keep (fun k hk => (bW2.block k (by have hk' : k < B := hk; omega)).trans (hI.bel.block k (by have hk' : k < B := hk; omega))) fun _ h => .inl h)
          rw [hzw] at hand
          have Hand := Lib.hid hand
          have HbW2 := Lib.hid bW2
          have HbW4 := Lib.hid bW4
          have K5 : Hid (Bk W4 (w.heap.size + 1) cur.c 31) := (bW4.block _ (by omega)).trans Hc3.out
          clear hand hzc hzi hz hI hW2 bW2 hW4 bW4
          go_upto_region 7 with (first | (refine wpList_load_st rfl 31 _ rfl _ Tryz.underlying31 rfl (⟨ad.block, ad.off + 14 + j * 14, none⟩) z.c Hzi.out rfl Hat.out ?_) | (refine wpList_store_st rfl 31 _ _ rfl _ z.c.toArray Hzi2.out Hz14.out.symm Hz1.out rfl rfl ?_))
          rw [HW2.out]
          go_wp2_with (first
            | (refine wpList_load_part rfl 31 _ rfl _ Tryz.underlying31 rfl _ _ _ _ cur.c rfl Hc3.out curi.out (by rw [List.drop_zero, List.take_length]) ?_)
            | (refine wpList_load_part rfl 31 _ rfl _ Tryz.underlying31 rfl _ _ _ _ z.c rfl Hcell.out Hzi.out (by rw [List.drop_zero, List.take_length]) ?_)
            | (refine wpList_two_st rfl 28 31 _ _ rfl i0 Tryz.underlying28 hi _ iz cur.c.toArray z.c.toArray (isz.trans cur14.out.symm) (Hz14.out.trans cur14.out.symm) (hzs.trans cur14.out.symm) (by rw [cur14.out]; decide) (by rw [cur14.out]; decide) rfl rfl ?_; rw [HW4.out])
            | (refine wpList_store_blk rfl 31 _ _ rfl _ 0 _ _ [.int .i64 3, .int .i64 6, .int .i64 0, .int .i64 0, .int .i64 0, .int .i64 0, .slice none 0 0, .int .i64 0, .int .i64 0, .int .i64 0, .string ⟨#[]⟩, .slice none 0 0, .slice (some ⟨wr.heap.size + 1, 0, none⟩) 2 2, .slice none 0 0] rfl rfl K5.out i31.out (by simpa using Nat.le_of_eq cur14.out.symm) rfl ?_; intro w6 hw6; have W6 := Lib.hid hw6; clear hw6))
          go_roundw
          case rel =>
            have hI := HI.out
            have w6 := W6.out
            rw [setL_all _ _ (by simpa using cur14.out.symm)] at w6
            have hs6 := w6.size
            have b52 : Below wr.heap.size wr W4 := belTr HbW2.out (belLo HbW4.out (by omega))
            obtain ⟨hyi, hys, hyn⟩ := Hand.out
            refine ⟨j + 1, andV (wr.heap.size + 1) cur z, by omega, by simp, belTr hI.bel (belTr (belLo b52 (by omega)) (w6.below (by omega))), by omega, (w6.block _ (by omega)).trans ((b52.block _ (by omega)).trans hI.b2), w6.bk, hyi.keep (fun k hk => w6.block k (by rcases hk with (h | h) | h <;> omega)) (fun k hk => by rcases hk with (h | h) | h; exact .inl h; exact .inr (by omega); exact .inr (by omega)), ?_, ?_⟩
            · rw [List.take_add_one, HZ.out, List.foldl_append]
              exact (andT_congr hI.sm (USm.refl _ _)).trans hys
            · rw [List.take_add_one, HZ.out, List.foldl_append]
              rw [hyn]
              show _ = (andT _ z).n
              rw [andT_n, andT_n, hI.nn]
          case measure => simp [intOf]; omega
        · obtain rfl : j = m := by omega
          have K3 := Lib.hid hI.b3
          have K2 := Lib.hid hI.b2
          clear hI
          go_wp2_with (first
            | (refine wpList_load_part rfl 31 _ rfl _ Tryz.underlying31 rfl _ _ _ _ cur.c rfl K3.out curi.out (by rw [List.drop_zero, List.take_length]) ?_)
            | (refine wpList_store_blk rfl 31 _ _ rfl _ 0 _ _ cur.c rfl rfl K2.out curi.out (by simpa [zEx] using Nat.le_of_eq cur14.out) (by simpa using cur1.out) ?_; intro w7 hw7))
          rw [setL_all _ _ (by simpa [zEx] using cur14.out)] at hw7
          refine bodyPost_blk rfl w.heap.size cur.c _ rfl _ hw7.bk Tryz.underlying31 rfl curi.out rfl ?_
          have hI := HI.out
          have hs7 := hw7.size
          have hsz := hI.sz
          refine ⟨cur, rfl, belTr hI.bel (hw7.below (Nat.le_refl _)), hI.ins.keep (fun k hk => hw7.block k (by rcases hk with h | h <;> omega)) (fun k hk => by rcases hk with h | h; exact .inl h; exact .inr (by omega)), ?_⟩
          have h1 := hI.sm
          have h2 := hI.nn
          rw [List.take_of_length_le (by rw [Hm.out]; exact Nat.le_refl _)] at h1 h2
          exact ⟨h1, h2⟩
end Go.Proofs.YthijagpnpcpcbaaGreat

