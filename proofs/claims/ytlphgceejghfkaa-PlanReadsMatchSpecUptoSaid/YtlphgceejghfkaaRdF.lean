/-
  The closure of Reads that sees the tables, walked.
-/
import Derived.Test.YtlphgceejghfkaaRdE
namespace Go.Proofs.Ytlphgceejghfkaa
open Go.RowKit Go.Sort
theorem OInv.store2 {vb B m : Nat} {w wr w6 : World} {v v' : Value} {L : List (List Int)} {l : List Int} {xs : List Value} {A : Option Addr} {cap : Nat} (hlm : l.length = m) (h1 : w.heap[vb]? = some (.cells #[v] 29 (0, 0))) (h2 : B ≤ vb) (h3 : w.ownsRow B 37 1 v L.length xs) (h4 : RR w xs L)
    (hb : Below w.heap.size w wr) (hl : IRow wr A cap l) (hg : (wr.alloc (.cells #[.slice A m cap] 37)).grownBy w6 v.ownBlock) (hm : Moved (wr.alloc (.cells #[.slice A m cap] 37)) v v')
    (hown : w6.ownsRow B 37 1 v' (L.length + 1) (xs ++ [.slice A m cap])) : OInv vb B (w6.setCell ⟨vb, 0, none⟩ v') v' (L ++ [l]) ∧ PFr (· = vb) w v (w6.setCell ⟨vb, 0, none⟩ v') v' := by
  subst hlm
  exact OInv.store h1 h2 h3 h4 hb hl hg hm hown
/-- The variable's cell behind the append. -/
theorem vb_cell {vb B e n : Nat} {w w6 : World} {v : Value} {xs : List Value} (h1 : w.heap[vb]? = some (.cells #[v] 29 (0, 0))) (h3 : w.ownsRow B e 1 v n xs) (he : 29 ≠ e) {w5 : World} (hb : Below w.heap.size w w5) (hg : w5.grownBy w6 v.ownBlock) : w6.cell? ⟨vb, 0, none⟩ = some v ∧ w6.frozen? ⟨vb, 0, none⟩ = false := by
  have hvl : vb < w.heap.size := (Array.getElem?_eq_some_iff.1 h1).1
  have e6 : w6.heap[vb]? = some (.cells #[v] 29 (0, 0)) := (hg.block vb (by have := hb.size; omega) (own_ne h3 h1 he)).trans ((hb.block vb hvl).trans h1)
  exact ⟨cell_of_row _ _ _ _ _ _ e6, frozen_of_row _ _ _ _ _ e6⟩
set_option maxRecDepth 100000 in
set_option maxHeartbeats 2000000 in
theorem see_not (vb B : Nat) (d : DT) (n : Int) (ab : Value) (S : Nat → Prop) (w : World) (v : Value) (L : List (List Int)) (hd : DT.In S w .rel d) (hS : ∀ k, S k → k < w.heap.size) (hv : OInv vb B w v L) (h1 : dInt d 0 ≠ 1) :
    Calls Try.prog 18 #[.agg (d.c ++ [.int .i64 n, ab]).toArray, .pointer (some ⟨vb, 0, none⟩)] w (SeePost vb B v L w) := by
  obtain ⟨i0, hi, iz, isz, iby⟩ := info_parts infoInts
  obtain ⟨d0, ⟨TA, tc, d4⟩, dt, _, _, _, _, _⟩ := hd.relCells
  obtain ⟨hv1, hv2, xs, hv3, hv4⟩ := hv
  obtain ⟨Av, cv, rfl, hvs, hv5, hv6, hv7⟩ := own_src hv3
  have hlen := hd.len
  obtain ⟨k, hk⟩ : ∃ k, dInt d 0 = k := ⟨_, rfl⟩
  obtain ⟨tl, htl⟩ : ∃ tl, dLen d 4 = tl := ⟨_, rfl⟩
  rw [hk] at d0
  rw [htl] at d4 dt
  have q0 : (d.c ++ [.int .i64 n, ab])[0]? = some (.int .i64 k) := by rw [List.getElem?_append_left (by rw [hlen]; decide)]; exact d0
  have q4 : (d.c ++ [.int .i64 n, ab])[4]? = some (.slice TA tl tc) := by rw [List.getElem?_append_left (by rw [hlen]; decide)]; exact d4
  have q15 : (d.c ++ [.int .i64 n, ab])[15]? = some ab := by rw [List.getElem?_append_right (by rw [hlen]; decide), hlen]; rfl
  obtain ⟨W0, hW0⟩ : ∃ W0, w.alloc (.cells (d.c ++ [.int .i64 n, ab]).toArray 50) = W0 := ⟨_, rfl⟩
  have p0 : W0.cell? ⟨w.heap.size, 0, none⟩ = some (.int .i64 k) := by rw [← hW0]; exact new_cell _ _ _ 0 q0
  have p4 : W0.cell? ⟨w.heap.size, 4, none⟩ = some (.slice TA tl tc) := by rw [← hW0]; exact new_cell _ _ _ 4 q4
  have p15 : W0.cell? ⟨w.heap.size, 15, none⟩ = some ab := by rw [← hW0]; exact new_cell _ _ _ 15 q15
  have hb0 : Below w.heap.size w W0 := by rw [← hW0]; exact bel1 _ _
  have hz0 : w.heap.size < W0.heap.size := by rw [← hW0]; simp
  have hnu := Lib.hid (pnumbers_any tl W0 dt)
  have HW0 := Lib.hid hW0
  have Hv1 := Lib.hid hv1
  have Hv3 := Lib.hid hv3
  have Hv4 := Lib.hid hv4
  have Hd := Lib.hid hd
  have Hk := Lib.hid hk
  have Htl := Lib.hid htl
  have HS := Lib.hid hS
  clear hW0 hv1 hv3 hv4 hvs hd hlen q0 q4 q15 d0 d4 hk htl hS
  have h1' : ¬ k = 1 := by rw [← Hk.out]; exact h1
  clear h1
  go_enter Try.func18, Try.ntmps18
  go_upto_region 1 with (fail)
  rw [HW0.out]
  go_wp2_with fail
  refine bodyPost_ret (results_none rfl _ _ _) rfl ?_
  refine ⟨rfl, _, ⟨(hb0.block vb (Array.getElem?_eq_some_iff.1 Hv1.out).1).trans Hv1.out, hv2, xs, own_below Hv3.out hb0, Hv4.out.keep (KeepI.below hb0)⟩, PFr.below hb0⟩
set_option maxRecDepth 100000 in
set_option maxHeartbeats 2000000 in
theorem see_none (vb B : Nat) (d : DT) (n : Int) (ab : Value) (S : Nat → Prop) (w : World) (v : Value) (L : List (List Int)) (hd : DT.In S w .rel d) (hS : ∀ k, S k → k < w.heap.size) (hv : OInv vb B w v L) (hB : B ≤ w.heap.size) (hL : L.length + 1 ≤ 1048576) (h1 : dInt d 0 = 1) (hab : AbOk S w ab none) :
    Calls Try.prog 18 #[.agg (d.c ++ [.int .i64 n, ab]).toArray, .pointer (some ⟨vb, 0, none⟩)] w (SeePost vb B v (L ++ [ownOf none d]) w) := by
  obtain ⟨i0, hi, iz, isz, iby⟩ := info_parts infoInts
  obtain ⟨d0, ⟨TA, tc, d4⟩, dt, _, _, _, _, _⟩ := hd.relCells
  obtain ⟨hv1, hv2, xs, hv3, hv4⟩ := hv
  obtain ⟨Av, cv, rfl, hvs, hv5, hv6, hv7⟩ := own_src hv3
  have hlen := hd.len
  obtain ⟨k, hk⟩ : ∃ k, dInt d 0 = k := ⟨_, rfl⟩
  obtain ⟨tl, htl⟩ : ∃ tl, dLen d 4 = tl := ⟨_, rfl⟩
  rw [hk] at d0
  rw [htl] at d4 dt
  have q0 : (d.c ++ [.int .i64 n, ab])[0]? = some (.int .i64 k) := by rw [List.getElem?_append_left (by rw [hlen]; decide)]; exact d0
  have q4 : (d.c ++ [.int .i64 n, ab])[4]? = some (.slice TA tl tc) := by rw [List.getElem?_append_left (by rw [hlen]; decide)]; exact d4
  have q15 : (d.c ++ [.int .i64 n, ab])[15]? = some ab := by rw [List.getElem?_append_right (by rw [hlen]; decide), hlen]; rfl
  obtain ⟨W0, hW0⟩ : ∃ W0, w.alloc (.cells (d.c ++ [.int .i64 n, ab]).toArray 50) = W0 := ⟨_, rfl⟩
  have p0 : W0.cell? ⟨w.heap.size, 0, none⟩ = some (.int .i64 k) := by rw [← hW0]; exact new_cell _ _ _ 0 q0
  have p4 : W0.cell? ⟨w.heap.size, 4, none⟩ = some (.slice TA tl tc) := by rw [← hW0]; exact new_cell _ _ _ 4 q4
  have p15 : W0.cell? ⟨w.heap.size, 15, none⟩ = some ab := by rw [← hW0]; exact new_cell _ _ _ 15 q15
  have hb0 : Below w.heap.size w W0 := by rw [← hW0]; exact bel1 _ _
  have hz0 : w.heap.size < W0.heap.size := by rw [← hW0]; simp
  have hnu := Lib.hid (pnumbers_any tl W0 dt)
  have HW0 := Lib.hid hW0
  have Hv1 := Lib.hid hv1
  have Hv3 := Lib.hid hv3
  have Hv4 := Lib.hid hv4
  have Hd := Lib.hid hd
  have Hk := Lib.hid hk
  have Htl := Lib.hid htl
  have HS := Lib.hid hS
  clear hW0 hv1 hv3 hv4 hvs hd hlen q0 q4 q15 d0 d4 hk htl hS
  rw [show ab = .pointer none from hab] at p15
  obtain rfl : k = 1 := by rw [← Hk.out]; exact h1
  have hab' : ab = .pointer none := hab
  subst hab'
  clear h1 hab
  go_enter Try.func18, Try.ntmps18
  go_upto_region 1 with (fail)
  rw [HW0.out]
  go_wp2_with fail
  refine hnu.out.mono ?_
  rintro e w1 ⟨v1, rfl, hown1, hb1⟩
  obtain ⟨A1, cap1, rfl, _, _, _, _⟩ := own_src hown1
  rw [nums_eq] at hown1
  have Hl : Hid (IRow w1 A1 cap1 (upTo tl)) := (IOwn.of_own hown1).row
  have Hb1 : Hid (Below w.heap.size w w1) := hb0.trans (hb1.mono hb0.size)
  have p15' := (hb1.cell (p := ⟨w.heap.size, 15, none⟩) hz0).trans p15
  clear hown1 p0 p4 p15
  go_upto_region 6 with (fail)
  have c_vb : w1.cell? ⟨vb, 0, none⟩ = some (.slice Av L.length cv) := cell_of_row _ _ _ _ _ _ ((Hb1.out.block vb (Array.getElem?_eq_some_iff.1 Hv1.out).1).trans Hv1.out)
  have hbt : Hid (∀ o, B ≤ (w1.alloc o).heap.size) := fun o => by have := Hb1.out.size; simp; omega
  have hOt : Hid (∀ o, (w1.alloc o).ownsRow B 37 1 (.slice Av L.length cv) L.length xs) := fun o => (own_below Hv3.out Hb1.out).alloc o
  have h3 : Hid (L.length + 1 ≤ maxLen) := by show _ ≤ _; unfold maxLen; omega
  have h4 : Hid ((L.length + 1) * 24 ≤ 140737488355328) := by show _ ≤ _; omega
  have hbw : Hid (∀ o, Below w.heap.size w (w1.alloc o)) := fun o => Hb1.out.trans ((bel1 _ _).mono Hb1.out.size)
  go_wp2_with (at_builtin; refine wpList_append_row _ rfl _ _ 29 rfl B 37 i0 _ 1 24 Try.underlying29 hi iz isz iby rfl (by decide) (.slice Av L.length cv) _ _ rfl (hOt.out _) (some ⟨w1.heap.size, 0, none⟩) 1 1 [.slice A1 tl cap1] rfl rfl (new_src _ _ _) (by simp [Value.oneCell']) h3.out h4.out (hbt.out _) ?_; intro v' w6 hown6 hg6 hm6; obtain ⟨A6, cap6, rfl, _, _, _, _⟩ := own_src hown6; obtain ⟨c6, f6⟩ := vb_cell Hv1.out Hv3.out (by decide) (hbw.out _) hg6; have Hst := Lib.hid (OInv.store2 (upTo_len tl) Hv1.out hv2 Hv3.out Hv4.out Hb1.out Hl.out hg6 hm6 hown6); clear hown6 hg6 hm6)
  go_end0
  refine ⟨rfl, _, ?_, Hst.out.2⟩
  have hfin := Hst.out.1
  rw [show ownOf none d = upTo tl by show upTo (dLen d 4) = _; rw [Htl.out]]
  exact hfin
set_option maxRecDepth 100000 in
set_option maxHeartbeats 2000000 in
theorem see_other (vb B : Nat) (d p : DT) (n : Int) (ab : Value) (S : Nat → Prop) (w : World) (v : Value) (L : List (List Int)) (hd : DT.In S w .rel d) (hS : ∀ k, S k → k < w.heap.size) (hv : OInv vb B w v L) (hB : B ≤ w.heap.size) (hL : L.length + 1 ≤ 1048576) (h1 : dInt d 0 = 1) (hpn : p.n ≤ 1048576) (hab : AbOk S w ab (some p)) (h4' : dInt p 0 ≠ 4) :
    Calls Try.prog 18 #[.agg (d.c ++ [.int .i64 n, ab]).toArray, .pointer (some ⟨vb, 0, none⟩)] w (SeePost vb B v (L ++ [ownOf (some p) d]) w) := by
  obtain ⟨q, hq1, hq2, hp⟩ := hab
  obtain ⟨pc0, _, _, _, ⟨EA, ecap, pc7, pre⟩, _, pie, _⟩ := hp.relCells
  have hql : q < w.heap.size := (Array.getElem?_eq_some_iff.1 hq2).1
  obtain ⟨kp, hkp⟩ : ∃ kp, dInt p 0 = kp := ⟨_, rfl⟩
  obtain ⟨en, hen⟩ : ∃ en, (p.kid 1).length = en := ⟨_, rfl⟩
  rw [hkp] at pc0
  rw [hen] at pc7
  have hepn : en ≤ 1048576 := by have := kids5 p; have := len_nL (p.kid 1); omega
  have c0q : w.cell? ⟨q, 0, none⟩ = some (.int .i64 kp) := by rw [cell_of_row _ _ 0 _ _ _ hq2]; simpa using pc0
  have c7q : w.cell? ⟨q, 7, none⟩ = some (.slice EA en ecap) := by rw [cell_of_row _ _ 7 _ _ _ hq2]; simpa using pc7
  have Hcf : Hid (∀ W, Below w.heap.size w W → Calls Try.prog 21 #[.slice EA en ecap, .func (.func 20) #[] #[]] W fun e w' => e = .returned (.bool (!((p.kid 1).all colE))) ∧ Below W.heap.size W w') := fun W h => by
    have := contains1_any (p.kid 1) EA ecap S W (pre.keep (fun k hk => h.block k (hS k hk)) (fun _ h => h)) (fun x hx => (pie x hx).keep (fun k hk => h.block k (hS k hk)) (fun _ h => h)) (fun k hk => Nat.lt_of_lt_of_le (hS k hk) h.size) (by rw [hen]; exact hepn)
    rw [hen] at this
    exact this
  have Hli : Hid (∀ W, Below w.heap.size w W → Calls Try.prog 23 #[.slice EA en ecap, .func (.func 24) #[] #[]] W (IPost W.heap.size ((p.kid 1).map fun e => dInt e 3) W)) := fun W h => by
    have := listAt_any (p.kid 1) EA ecap S W (pre.keep (fun k hk => h.block k (hS k hk)) (fun _ h => h)) (fun x hx => (pie x hx).keep (fun k hk => h.block k (hS k hk)) (fun _ h => h)) (fun k hk => Nat.lt_of_lt_of_le (hS k hk) h.size) (by rw [hen]; exact hepn)
    rw [hen] at this
    exact this
  have Hkp := Lib.hid hkp
  have Hen := Lib.hid hen
  have Hpq := Lib.hid hp
  clear hq2 hp pc0 pc7 pre pie hkp hen
  obtain ⟨i0, hi, iz, isz, iby⟩ := info_parts infoInts
  obtain ⟨d0, ⟨TA, tc, d4⟩, dt, _, _, _, _, _⟩ := hd.relCells
  obtain ⟨hv1, hv2, xs, hv3, hv4⟩ := hv
  obtain ⟨Av, cv, rfl, hvs, hv5, hv6, hv7⟩ := own_src hv3
  have hlen := hd.len
  obtain ⟨k, hk⟩ : ∃ k, dInt d 0 = k := ⟨_, rfl⟩
  obtain ⟨tl, htl⟩ : ∃ tl, dLen d 4 = tl := ⟨_, rfl⟩
  rw [hk] at d0
  rw [htl] at d4 dt
  have q0 : (d.c ++ [.int .i64 n, ab])[0]? = some (.int .i64 k) := by rw [List.getElem?_append_left (by rw [hlen]; decide)]; exact d0
  have q4 : (d.c ++ [.int .i64 n, ab])[4]? = some (.slice TA tl tc) := by rw [List.getElem?_append_left (by rw [hlen]; decide)]; exact d4
  have q15 : (d.c ++ [.int .i64 n, ab])[15]? = some ab := by rw [List.getElem?_append_right (by rw [hlen]; decide), hlen]; rfl
  obtain ⟨W0, hW0⟩ : ∃ W0, w.alloc (.cells (d.c ++ [.int .i64 n, ab]).toArray 50) = W0 := ⟨_, rfl⟩
  have p0 : W0.cell? ⟨w.heap.size, 0, none⟩ = some (.int .i64 k) := by rw [← hW0]; exact new_cell _ _ _ 0 q0
  have p4 : W0.cell? ⟨w.heap.size, 4, none⟩ = some (.slice TA tl tc) := by rw [← hW0]; exact new_cell _ _ _ 4 q4
  have p15 : W0.cell? ⟨w.heap.size, 15, none⟩ = some ab := by rw [← hW0]; exact new_cell _ _ _ 15 q15
  have hb0 : Below w.heap.size w W0 := by rw [← hW0]; exact bel1 _ _
  have hz0 : w.heap.size < W0.heap.size := by rw [← hW0]; simp
  have hnu := Lib.hid (pnumbers_any tl W0 dt)
  have HW0 := Lib.hid hW0
  have Hv1 := Lib.hid hv1
  have Hv3 := Lib.hid hv3
  have Hv4 := Lib.hid hv4
  have Hd := Lib.hid hd
  have Hk := Lib.hid hk
  have Htl := Lib.hid htl
  have HS := Lib.hid hS
  clear hW0 hv1 hv3 hv4 hvs hd hlen q0 q4 q15 d0 d4 hk htl hS
  subst hq1
  obtain rfl : k = 1 := by rw [← Hk.out]; exact h1
  have hk4 : ¬ kp = 4 := by rw [← Hkp.out]; exact h4'
  clear h1 h4'
  go_enter Try.func18, Try.ntmps18
  go_upto_region 1 with (fail)
  rw [HW0.out]
  go_wp2_with fail
  refine hnu.out.mono ?_
  rintro e w1 ⟨v1, rfl, hown1, hb1⟩
  obtain ⟨A1, cap1, rfl, _, _, _, _⟩ := own_src hown1
  rw [nums_eq] at hown1
  have Hl : Hid (IRow w1 A1 cap1 (upTo tl)) := (IOwn.of_own hown1).row
  have Hb1 : Hid (Below w.heap.size w w1) := hb0.trans (hb1.mono hb0.size)
  have p15' := (hb1.cell (p := ⟨w.heap.size, 15, none⟩) hz0).trans p15
  clear hown1 p0 p4 p15
  have r0 := (Hb1.out.cell (p := ⟨q, 0, none⟩) hql).trans c0q
  clear c0q c7q
  go_upto_region 6 with (fail)
  have c_vb : w1.cell? ⟨vb, 0, none⟩ = some (.slice Av L.length cv) := cell_of_row _ _ _ _ _ _ ((Hb1.out.block vb (Array.getElem?_eq_some_iff.1 Hv1.out).1).trans Hv1.out)
  have hbt : Hid (∀ o, B ≤ (w1.alloc o).heap.size) := fun o => by have := Hb1.out.size; simp; omega
  have hOt : Hid (∀ o, (w1.alloc o).ownsRow B 37 1 (.slice Av L.length cv) L.length xs) := fun o => (own_below Hv3.out Hb1.out).alloc o
  have h3 : Hid (L.length + 1 ≤ maxLen) := by show _ ≤ _; unfold maxLen; omega
  have h4 : Hid ((L.length + 1) * 24 ≤ 140737488355328) := by show _ ≤ _; omega
  have hbw : Hid (∀ o, Below w.heap.size w (w1.alloc o)) := fun o => Hb1.out.trans ((bel1 _ _).mono Hb1.out.size)
  go_wp2_with (at_builtin; refine wpList_append_row _ rfl _ _ 29 rfl B 37 i0 _ 1 24 Try.underlying29 hi iz isz iby rfl (by decide) (.slice Av L.length cv) _ _ rfl (hOt.out _) (some ⟨w1.heap.size, 0, none⟩) 1 1 [.slice A1 tl cap1] rfl rfl (new_src _ _ _) (by simp [Value.oneCell']) h3.out h4.out (hbt.out _) ?_; intro v' w6 hown6 hg6 hm6; obtain ⟨A6, cap6, rfl, _, _, _, _⟩ := own_src hown6; obtain ⟨c6, f6⟩ := vb_cell Hv1.out Hv3.out (by decide) (hbw.out _) hg6; have Hst := Lib.hid (OInv.store2 (upTo_len tl) Hv1.out hv2 Hv3.out Hv4.out Hb1.out Hl.out hg6 hm6 hown6); clear hown6 hg6 hm6)
  go_end0
  refine ⟨rfl, _, ?_, Hst.out.2⟩
  have hfin := Hst.out.1
  rw [show ownOf (some p) d = upTo tl by show readOf p d = _; unfold readOf; rw [if_neg (fun h => hk4 (Hkp.out ▸ h.1)), Htl.out]]
  exact hfin
set_option maxRecDepth 100000 in
set_option maxHeartbeats 2000000 in
theorem see_mixed (vb B : Nat) (d p : DT) (n : Int) (ab : Value) (S : Nat → Prop) (w : World) (v : Value) (L : List (List Int)) (hd : DT.In S w .rel d) (hS : ∀ k, S k → k < w.heap.size) (hv : OInv vb B w v L) (hB : B ≤ w.heap.size) (hL : L.length + 1 ≤ 1048576) (h1 : dInt d 0 = 1) (hpn : p.n ≤ 1048576) (hab : AbOk S w ab (some p)) (h4' : dInt p 0 = 4) (hc : (p.kid 1).all colE = false) :
    Calls Try.prog 18 #[.agg (d.c ++ [.int .i64 n, ab]).toArray, .pointer (some ⟨vb, 0, none⟩)] w (SeePost vb B v (L ++ [ownOf (some p) d]) w) := by
  obtain ⟨q, hq1, hq2, hp⟩ := hab
  obtain ⟨pc0, _, _, _, ⟨EA, ecap, pc7, pre⟩, _, pie, _⟩ := hp.relCells
  have hql : q < w.heap.size := (Array.getElem?_eq_some_iff.1 hq2).1
  obtain ⟨kp, hkp⟩ : ∃ kp, dInt p 0 = kp := ⟨_, rfl⟩
  obtain ⟨en, hen⟩ : ∃ en, (p.kid 1).length = en := ⟨_, rfl⟩
  rw [hkp] at pc0
  rw [hen] at pc7
  have hepn : en ≤ 1048576 := by have := kids5 p; have := len_nL (p.kid 1); omega
  have c0q : w.cell? ⟨q, 0, none⟩ = some (.int .i64 kp) := by rw [cell_of_row _ _ 0 _ _ _ hq2]; simpa using pc0
  have c7q : w.cell? ⟨q, 7, none⟩ = some (.slice EA en ecap) := by rw [cell_of_row _ _ 7 _ _ _ hq2]; simpa using pc7
  have Hcf : Hid (∀ W, Below w.heap.size w W → Calls Try.prog 21 #[.slice EA en ecap, .func (.func 20) #[] #[]] W fun e w' => e = .returned (.bool (!((p.kid 1).all colE))) ∧ Below W.heap.size W w') := fun W h => by
    have := contains1_any (p.kid 1) EA ecap S W (pre.keep (fun k hk => h.block k (hS k hk)) (fun _ h => h)) (fun x hx => (pie x hx).keep (fun k hk => h.block k (hS k hk)) (fun _ h => h)) (fun k hk => Nat.lt_of_lt_of_le (hS k hk) h.size) (by rw [hen]; exact hepn)
    rw [hen] at this
    exact this
  have Hli : Hid (∀ W, Below w.heap.size w W → Calls Try.prog 23 #[.slice EA en ecap, .func (.func 24) #[] #[]] W (IPost W.heap.size ((p.kid 1).map fun e => dInt e 3) W)) := fun W h => by
    have := listAt_any (p.kid 1) EA ecap S W (pre.keep (fun k hk => h.block k (hS k hk)) (fun _ h => h)) (fun x hx => (pie x hx).keep (fun k hk => h.block k (hS k hk)) (fun _ h => h)) (fun k hk => Nat.lt_of_lt_of_le (hS k hk) h.size) (by rw [hen]; exact hepn)
    rw [hen] at this
    exact this
  have Hkp := Lib.hid hkp
  have Hen := Lib.hid hen
  have Hpq := Lib.hid hp
  clear hq2 hp pc0 pc7 pre pie hkp hen
  obtain ⟨i0, hi, iz, isz, iby⟩ := info_parts infoInts
  obtain ⟨d0, ⟨TA, tc, d4⟩, dt, _, _, _, _, _⟩ := hd.relCells
  obtain ⟨hv1, hv2, xs, hv3, hv4⟩ := hv
  obtain ⟨Av, cv, rfl, hvs, hv5, hv6, hv7⟩ := own_src hv3
  have hlen := hd.len
  obtain ⟨k, hk⟩ : ∃ k, dInt d 0 = k := ⟨_, rfl⟩
  obtain ⟨tl, htl⟩ : ∃ tl, dLen d 4 = tl := ⟨_, rfl⟩
  rw [hk] at d0
  rw [htl] at d4 dt
  have q0 : (d.c ++ [.int .i64 n, ab])[0]? = some (.int .i64 k) := by rw [List.getElem?_append_left (by rw [hlen]; decide)]; exact d0
  have q4 : (d.c ++ [.int .i64 n, ab])[4]? = some (.slice TA tl tc) := by rw [List.getElem?_append_left (by rw [hlen]; decide)]; exact d4
  have q15 : (d.c ++ [.int .i64 n, ab])[15]? = some ab := by rw [List.getElem?_append_right (by rw [hlen]; decide), hlen]; rfl
  obtain ⟨W0, hW0⟩ : ∃ W0, w.alloc (.cells (d.c ++ [.int .i64 n, ab]).toArray 50) = W0 := ⟨_, rfl⟩
  have p0 : W0.cell? ⟨w.heap.size, 0, none⟩ = some (.int .i64 k) := by rw [← hW0]; exact new_cell _ _ _ 0 q0
  have p4 : W0.cell? ⟨w.heap.size, 4, none⟩ = some (.slice TA tl tc) := by rw [← hW0]; exact new_cell _ _ _ 4 q4
  have p15 : W0.cell? ⟨w.heap.size, 15, none⟩ = some ab := by rw [← hW0]; exact new_cell _ _ _ 15 q15
  have hb0 : Below w.heap.size w W0 := by rw [← hW0]; exact bel1 _ _
  have hz0 : w.heap.size < W0.heap.size := by rw [← hW0]; simp
  have hnu := Lib.hid (pnumbers_any tl W0 dt)
  have HW0 := Lib.hid hW0
  have Hv1 := Lib.hid hv1
  have Hv3 := Lib.hid hv3
  have Hv4 := Lib.hid hv4
  have Hd := Lib.hid hd
  have Hk := Lib.hid hk
  have Htl := Lib.hid htl
  have HS := Lib.hid hS
  clear hW0 hv1 hv3 hv4 hvs hd hlen q0 q4 q15 d0 d4 hk htl hS
  subst hq1
  obtain rfl : k = 1 := by rw [← Hk.out]; exact h1
  obtain rfl : kp = 4 := by rw [← Hkp.out]; exact h4'
  rw [hc] at Hcf
  have Hc := Lib.hid hc
  clear h1 h4' hc
  go_enter Try.func18, Try.ntmps18
  go_upto_region 1 with (fail)
  rw [HW0.out]
  go_wp2_with fail
  refine hnu.out.mono ?_
  rintro e w1 ⟨v1, rfl, hown1, hb1⟩
  obtain ⟨A1, cap1, rfl, _, _, _, _⟩ := own_src hown1
  rw [nums_eq] at hown1
  have Hl : Hid (IRow w1 A1 cap1 (upTo tl)) := (IOwn.of_own hown1).row
  have Hb1 : Hid (Below w.heap.size w w1) := hb0.trans (hb1.mono hb0.size)
  have p15' := (hb1.cell (p := ⟨w.heap.size, 15, none⟩) hz0).trans p15
  clear hown1 p0 p4 p15
  have r0 := (Hb1.out.cell (p := ⟨q, 0, none⟩) hql).trans c0q
  have r7 := (Hb1.out.cell (p := ⟨q, 7, none⟩) hql).trans c7q
  clear c0q c7q
  go_wp2_with fail
  refine (Hcf.out w1 Hb1.out).mono ?_
  rintro e w2 ⟨rfl, hb2⟩
  have Hb2 : Hid (Below w.heap.size w w2) := Hb1.out.trans (hb2.mono Hb1.out.size)
  have Hl2 : Hid (IRow w2 A1 cap1 (upTo tl)) := Hl.out.keep (KeepI.below hb2)
  go_upto_region 6 with (fail)
  have c_vb : w2.cell? ⟨vb, 0, none⟩ = some (.slice Av L.length cv) := cell_of_row _ _ _ _ _ _ ((Hb2.out.block vb (Array.getElem?_eq_some_iff.1 Hv1.out).1).trans Hv1.out)
  have hbt : Hid (∀ o, B ≤ (w2.alloc o).heap.size) := fun o => by have := Hb2.out.size; simp; omega
  have hOt : Hid (∀ o, (w2.alloc o).ownsRow B 37 1 (.slice Av L.length cv) L.length xs) := fun o => (own_below Hv3.out Hb2.out).alloc o
  have h3 : Hid (L.length + 1 ≤ maxLen) := by show _ ≤ _; unfold maxLen; omega
  have h4 : Hid ((L.length + 1) * 24 ≤ 140737488355328) := by show _ ≤ _; omega
  have hbw : Hid (∀ o, Below w.heap.size w (w2.alloc o)) := fun o => Hb2.out.trans ((bel1 _ _).mono Hb2.out.size)
  go_wp2_with (at_builtin; refine wpList_append_row _ rfl _ _ 29 rfl B 37 i0 _ 1 24 Try.underlying29 hi iz isz iby rfl (by decide) (.slice Av L.length cv) _ _ rfl (hOt.out _) (some ⟨w2.heap.size, 0, none⟩) 1 1 [.slice A1 tl cap1] rfl rfl (new_src _ _ _) (by simp [Value.oneCell']) h3.out h4.out (hbt.out _) ?_; intro v' w6 hown6 hg6 hm6; obtain ⟨A6, cap6, rfl, _, _, _, _⟩ := own_src hown6; obtain ⟨c6, f6⟩ := vb_cell Hv1.out Hv3.out (by decide) (hbw.out _) hg6; have Hst := Lib.hid (OInv.store2 (upTo_len tl) Hv1.out hv2 Hv3.out Hv4.out Hb2.out Hl2.out hg6 hm6 hown6); clear hown6 hg6 hm6)
  go_end0
  refine ⟨rfl, _, ?_, Hst.out.2⟩
  have hfin := Hst.out.1
  rw [show ownOf (some p) d = upTo tl by show readOf p d = _; unfold readOf; rw [if_neg (fun h => by rw [Hc.out] at h; exact absurd h.2.2 (by decide)), Htl.out]]
  exact hfin
set_option maxRecDepth 100000 in
set_option maxHeartbeats 2000000 in
theorem see_cols (vb B : Nat) (d p : DT) (n : Int) (ab : Value) (S : Nat → Prop) (w : World) (v : Value) (L : List (List Int)) (hd : DT.In S w .rel d) (hS : ∀ k, S k → k < w.heap.size) (hv : OInv vb B w v L) (hB : B ≤ w.heap.size) (hL : L.length + 1 ≤ 1048576) (h1 : dInt d 0 = 1) (hpn : p.n ≤ 1048576) (hab : AbOk S w ab (some p)) (h4' : dInt p 0 = 4) (hc : (p.kid 1).all colE = true) :
    Calls Try.prog 18 #[.agg (d.c ++ [.int .i64 n, ab]).toArray, .pointer (some ⟨vb, 0, none⟩)] w (SeePost vb B v (L ++ [ownOf (some p) d]) w) := by
  obtain ⟨q, hq1, hq2, hp⟩ := hab
  obtain ⟨pc0, _, _, _, ⟨EA, ecap, pc7, pre⟩, _, pie, _⟩ := hp.relCells
  have hql : q < w.heap.size := (Array.getElem?_eq_some_iff.1 hq2).1
  obtain ⟨kp, hkp⟩ : ∃ kp, dInt p 0 = kp := ⟨_, rfl⟩
  obtain ⟨en, hen⟩ : ∃ en, (p.kid 1).length = en := ⟨_, rfl⟩
  rw [hkp] at pc0
  rw [hen] at pc7
  have hepn : en ≤ 1048576 := by have := kids5 p; have := len_nL (p.kid 1); omega
  have c0q : w.cell? ⟨q, 0, none⟩ = some (.int .i64 kp) := by rw [cell_of_row _ _ 0 _ _ _ hq2]; simpa using pc0
  have c7q : w.cell? ⟨q, 7, none⟩ = some (.slice EA en ecap) := by rw [cell_of_row _ _ 7 _ _ _ hq2]; simpa using pc7
  have Hcf : Hid (∀ W, Below w.heap.size w W → Calls Try.prog 21 #[.slice EA en ecap, .func (.func 20) #[] #[]] W fun e w' => e = .returned (.bool (!((p.kid 1).all colE))) ∧ Below W.heap.size W w') := fun W h => by
    have := contains1_any (p.kid 1) EA ecap S W (pre.keep (fun k hk => h.block k (hS k hk)) (fun _ h => h)) (fun x hx => (pie x hx).keep (fun k hk => h.block k (hS k hk)) (fun _ h => h)) (fun k hk => Nat.lt_of_lt_of_le (hS k hk) h.size) (by rw [hen]; exact hepn)
    rw [hen] at this
    exact this
  have Hli : Hid (∀ W, Below w.heap.size w W → Calls Try.prog 23 #[.slice EA en ecap, .func (.func 24) #[] #[]] W (IPost W.heap.size ((p.kid 1).map fun e => dInt e 3) W)) := fun W h => by
    have := listAt_any (p.kid 1) EA ecap S W (pre.keep (fun k hk => h.block k (hS k hk)) (fun _ h => h)) (fun x hx => (pie x hx).keep (fun k hk => h.block k (hS k hk)) (fun _ h => h)) (fun k hk => Nat.lt_of_lt_of_le (hS k hk) h.size) (by rw [hen]; exact hepn)
    rw [hen] at this
    exact this
  have Hkp := Lib.hid hkp
  have Hen := Lib.hid hen
  have Hpq := Lib.hid hp
  clear hq2 hp pc0 pc7 pre pie hkp hen
  obtain ⟨i0, hi, iz, isz, iby⟩ := info_parts infoInts
  obtain ⟨d0, ⟨TA, tc, d4⟩, dt, _, _, _, _, _⟩ := hd.relCells
  obtain ⟨hv1, hv2, xs, hv3, hv4⟩ := hv
  obtain ⟨Av, cv, rfl, hvs, hv5, hv6, hv7⟩ := own_src hv3
  have hlen := hd.len
  obtain ⟨k, hk⟩ : ∃ k, dInt d 0 = k := ⟨_, rfl⟩
  obtain ⟨tl, htl⟩ : ∃ tl, dLen d 4 = tl := ⟨_, rfl⟩
  rw [hk] at d0
  rw [htl] at d4 dt
  have q0 : (d.c ++ [.int .i64 n, ab])[0]? = some (.int .i64 k) := by rw [List.getElem?_append_left (by rw [hlen]; decide)]; exact d0
  have q4 : (d.c ++ [.int .i64 n, ab])[4]? = some (.slice TA tl tc) := by rw [List.getElem?_append_left (by rw [hlen]; decide)]; exact d4
  have q15 : (d.c ++ [.int .i64 n, ab])[15]? = some ab := by rw [List.getElem?_append_right (by rw [hlen]; decide), hlen]; rfl
  obtain ⟨W0, hW0⟩ : ∃ W0, w.alloc (.cells (d.c ++ [.int .i64 n, ab]).toArray 50) = W0 := ⟨_, rfl⟩
  have p0 : W0.cell? ⟨w.heap.size, 0, none⟩ = some (.int .i64 k) := by rw [← hW0]; exact new_cell _ _ _ 0 q0
  have p4 : W0.cell? ⟨w.heap.size, 4, none⟩ = some (.slice TA tl tc) := by rw [← hW0]; exact new_cell _ _ _ 4 q4
  have p15 : W0.cell? ⟨w.heap.size, 15, none⟩ = some ab := by rw [← hW0]; exact new_cell _ _ _ 15 q15
  have hb0 : Below w.heap.size w W0 := by rw [← hW0]; exact bel1 _ _
  have hz0 : w.heap.size < W0.heap.size := by rw [← hW0]; simp
  have hnu := Lib.hid (pnumbers_any tl W0 dt)
  have HW0 := Lib.hid hW0
  have Hv1 := Lib.hid hv1
  have Hv3 := Lib.hid hv3
  have Hv4 := Lib.hid hv4
  have Hd := Lib.hid hd
  have Hk := Lib.hid hk
  have Htl := Lib.hid htl
  have HS := Lib.hid hS
  clear hW0 hv1 hv3 hv4 hvs hd hlen q0 q4 q15 d0 d4 hk htl hS
  subst hq1
  obtain rfl : k = 1 := by rw [← Hk.out]; exact h1
  obtain rfl : kp = 4 := by rw [← Hkp.out]; exact h4'
  rw [hc] at Hcf
  have Hc := Lib.hid hc
  have h1k := Lib.hid h1
  clear h1 h4' hc
  go_enter Try.func18, Try.ntmps18
  go_upto_region 1 with (fail)
  rw [HW0.out]
  go_wp2_with fail
  refine hnu.out.mono ?_
  rintro e w1 ⟨v1, rfl, hown1, hb1⟩
  obtain ⟨A1, cap1, rfl, _, _, _, _⟩ := own_src hown1
  rw [nums_eq] at hown1
  have Hl : Hid (IRow w1 A1 cap1 (upTo tl)) := (IOwn.of_own hown1).row
  have Hb1 : Hid (Below w.heap.size w w1) := hb0.trans (hb1.mono hb0.size)
  have p15' := (hb1.cell (p := ⟨w.heap.size, 15, none⟩) hz0).trans p15
  clear hown1 p0 p4 p15
  have r0 := (Hb1.out.cell (p := ⟨q, 0, none⟩) hql).trans c0q
  have r7 := (Hb1.out.cell (p := ⟨q, 7, none⟩) hql).trans c7q
  clear c0q c7q
  go_wp2_with fail
  refine (Hcf.out w1 Hb1.out).mono ?_
  rintro e w2 ⟨rfl, hb2⟩
  have Hb2 : Hid (Below w.heap.size w w2) := Hb1.out.trans (hb2.mono Hb1.out.size)
  have hz1 : w.heap.size < w1.heap.size := by have := hb1.size; omega
  have s15 := (hb2.cell (p := ⟨w.heap.size, 15, none⟩) hz1).trans p15'
  have s0 := (hb2.cell (p := ⟨q, 0, none⟩) (show q < w1.heap.size by omega)).trans r0
  have s7 := (hb2.cell (p := ⟨q, 7, none⟩) (show q < w1.heap.size by omega)).trans r7
  clear r0 r7 p15'
  go_wp2_with fail
  refine (Hli.out w2 Hb2.out).mono ?_
  rintro e w3 ⟨A3, cap3, rfl, hI3, hb3⟩
  have hinc := increasing_any ((p.kid 1).map fun e => dInt e 3) A3 cap3 w2.heap.size w3 hI3 (by rw [List.length_map, Hen.out]; exact hepn)
  rw [List.length_map] at hinc
  have Hinc := Lib.hid hinc
  clear hI3 hinc
  go_wp2_with fail
  refine Hinc.out.mono ?_
  rintro e w4 ⟨A4, cap4, rfl, hI4, hb4⟩
  have Hb4 : Hid (Below w.heap.size w w4) := Hb2.out.trans ((hb3.trans hb4).mono Hb2.out.size)
  have Hl4 : Hid (IRow w4 A4 cap4 (mergeI ((p.kid 1).map fun e => dInt e 3))) := hI4.row
  clear hI4
  go_upto_region 6 with (fail)
  have c_vb : w4.cell? ⟨vb, 0, none⟩ = some (.slice Av L.length cv) := cell_of_row _ _ _ _ _ _ ((Hb4.out.block vb (Array.getElem?_eq_some_iff.1 Hv1.out).1).trans Hv1.out)
  have hbt : Hid (∀ o, B ≤ (w4.alloc o).heap.size) := fun o => by have := Hb4.out.size; simp; omega
  have hOt : Hid (∀ o, (w4.alloc o).ownsRow B 37 1 (.slice Av L.length cv) L.length xs) := fun o => (own_below Hv3.out Hb4.out).alloc o
  have h3 : Hid (L.length + 1 ≤ maxLen) := by show _ ≤ _; unfold maxLen; omega
  have h4 : Hid ((L.length + 1) * 24 ≤ 140737488355328) := by show _ ≤ _; omega
  have hbw : Hid (∀ o, Below w.heap.size w (w4.alloc o)) := fun o => Hb4.out.trans ((bel1 _ _).mono Hb4.out.size)
  go_wp2_with (at_builtin; refine wpList_append_row _ rfl _ _ 29 rfl B 37 i0 _ 1 24 Try.underlying29 hi iz isz iby rfl (by decide) (.slice Av L.length cv) _ _ rfl (hOt.out _) (some ⟨w4.heap.size, 0, none⟩) 1 1 [.slice A4 (mergeI ((p.kid 1).map fun e => dInt e 3)).length cap4] rfl rfl (new_src _ _ _) (by simp [Value.oneCell']) h3.out h4.out (hbt.out _) ?_; intro v' w6 hown6 hg6 hm6; obtain ⟨A6, cap6, rfl, _, _, _, _⟩ := own_src hown6; obtain ⟨c6, f6⟩ := vb_cell Hv1.out Hv3.out (by decide) (hbw.out _) hg6; have Hst := Lib.hid (OInv.store2 rfl Hv1.out hv2 Hv3.out Hv4.out Hb4.out Hl4.out hg6 hm6 hown6); clear hown6 hg6 hm6)
  go_end0
  refine ⟨rfl, _, ?_, Hst.out.2⟩
  have hfin := Hst.out.1
  rw [show ownOf (some p) d = mergeI ((p.kid 1).map fun e => dInt e 3) by show readOf p d = _; unfold readOf; rw [if_pos ⟨Hkp.out, h1k.out, Hc.out⟩]]
  exact hfin
/-- THE CLOSURE. -/
theorem see_any (vb B : Nat) (d : DT) (above : Option DT) (n : Int) (ab : Value) (S : Nat → Prop) (w : World) (v : Value) (L : List (List Int)) (hd : DT.In S w .rel d) (hS : ∀ k, S k → k < w.heap.size) (hv : OInv vb B w v L) (hB : B ≤ w.heap.size) (hL' : dInt d 0 = 1 → L.length + 1 ≤ 1048576) (hpn : ∀ p, above = some p → p.n ≤ 1048576) (hab : AbOk S w ab above) :
    Calls Try.prog 18 #[.agg (d.c ++ [.int .i64 n, ab]).toArray, .pointer (some ⟨vb, 0, none⟩)] w (SeePost vb B v (L ++ if dInt d 0 = 1 then [ownOf above d] else []) w) := by
  by_cases h1 : dInt d 0 = 1
  · rw [if_pos h1]
    have hL := hL' h1
    cases above with
    | none => exact see_none vb B d n ab S w v L hd hS hv hB hL h1 hab
    | some p =>
      have hp := hpn p rfl
      by_cases h4 : dInt p 0 = 4
      · cases hc : (p.kid 1).all colE with
        | true => exact see_cols vb B d p n ab S w v L hd hS hv hB hL h1 hp hab h4 hc
        | false => exact see_mixed vb B d p n ab S w v L hd hS hv hB hL h1 hp hab h4 hc
      · exact see_other vb B d p n ab S w v L hd hS hv hB hL h1 hp hab h4
  · rw [if_neg h1, List.append_nil]
    exact see_not vb B d n ab S w v L hd hS hv h1
end Go.Proofs.Ytlphgceejghfkaa
