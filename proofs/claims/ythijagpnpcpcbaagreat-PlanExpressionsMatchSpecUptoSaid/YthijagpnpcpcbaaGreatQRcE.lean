/-
  The law walked.
-/
import Derived.Test.YthijagpnpcpcbaaGreatQNrB
import Derived.Test.YthijagpnpcpcbaaGreatQRmC
import Derived.Test.YthijagpnpcpcbaaGreatQRmN
import Derived.Test.YthijagpnpcpcbaaGreatQRcD
namespace Go.Proofs.YthijagpnpcpcbaaGreat
open Go.RowKit Go.Sort
/-- An argument of the law in memory below B. -/
structure LawIn (B : Nat) (w : World) (x : DT) (wl : List DT) (A : Option Addr) (cap : Nat) : Prop where
  x : UIn (fun k => k < B) w .expr x
  r : DRow (fun k => k < B) w 14 A cap wl
  i : ∀ y, y ∈ wl → UIn (fun k => k < B) w .expr y
theorem LawIn.blw {B n : Nat} {w w' : World} {x : DT} {wl : List DT} {A : Option Addr} {cap : Nat} (h : LawIn B w x wl A cap) (hb : Below n w w') (hn : B ≤ n) : LawIn B w' x wl A cap :=
  ⟨h.x.keep (fun k hk => hb.block k (by have hk' : k < B := hk; omega)) fun _ h => h, h.r.keep (fun k hk => hb.block k (by have hk' : k < B := hk; omega)) fun _ h => h, fun y hy => (h.i y hy).keep (fun k hk => hb.block k (by have hk' : k < B := hk; omega)) fun _ h => h⟩
/-- A struct is loaded, though guarded. -/
theorem wpList_load_sp {P : Program} {ops : Array Oper} {rest : List Oper} {o : Oper} {a : Act} {w : World} {Q : Exit → Act → World → Prop} (hw : Region.wanted o (yielded ops a.tmps) = true) (t : TypeId) (x : Operand) (ho : o.op = .load t x) (d : TypeDesc)
    (hu : P.underlying t = some d) (hd : d.isRow = true) (b off : Nat) (bt : TypeId) (cur cs : List Value) (hx : a.eval x = .pointer (some ⟨b, off, none⟩)) (hb : Bk w b cur bt) (hi : (P.info? t).map (·.size) = some cs.length) (hc : (cur.drop off).take cs.length = cs)
    (h : wpList P ops Q rest (a.put o.dst (.agg cs.toArray)) w) : wpList P ops Q (o :: rest) a w :=
  wpList_step fun _ hK => by
    rw [if_pos hw]
    unfold Oper.wp execOp
    simp only [ho, hx, Sem.run_bind, run_loadAt_st w t d ⟨b, off, none⟩ cs (fun j u hu => by
      have hj : j < cs.length := (List.getElem?_eq_some_iff.1 hu).1
      rw [Addr.add_mid, hb.cell]
      rw [← hc, List.getElem?_take_of_lt hj, List.getElem?_drop] at hu
      exact hu) hu hd hi, Result.andThen_ok]
    exact hK _ _ h
set_option maxRecDepth 100000 in
set_option maxHeartbeats 8000000 in
theorem law_any (up frm by' : Int) (hfr : I64 frm) (hby : I64 by') (x : DT) (wl : List DT) (A : Option Addr) (cap : Nat) (w : World) (hn : nL wl + wl.length + x.n + 1 ≤ 1048576) (hin : LawIn w.heap.size w x wl A cap) :
    Calls Tryz.prog 3 #[.agg x.c.toArray, .slice A wl.length cap, .int .i64 up, .int .i64 frm, .int .i64 by'] w (Tru w) := by
  obtain ⟨i0, hi, hrest⟩ := Option.map_eq_some_iff.1 infoExp_u
  simp only [Prod.mk.injEq] at hrest
  obtain ⟨hz0, isz, iby⟩ := hrest
  obtain ⟨z0, iz, hzs⟩ := Option.map_eq_some_iff.1 hz0
  obtain ⟨w1, hw1⟩ : ∃ w1, w.alloc (.cells x.c.toArray 31) = w1 := ⟨_, rfl⟩
  have hz1 : w1.heap.size = w.heap.size + 1 := by rw [← hw1]; simp
  have hb1 : Below w.heap.size w w1 := by rw [← hw1]; exact bel1 _ _
  have k1 : Bk w1 w.heap.size x.c 31 := by rw [← hw1]; exact Bk.new w x.c _
  have hin1 := hin.blw hb1 (by omega)
  have Hb1 := Lib.hid hb1
  have Hi : Hid ((Tryz.prog.info? 31).map (·.size) = some x.c.length) := by show _ = _; rw [hin.x.len]; exact uClExpr1
  have X14 : Hid (x.c.toArray.size = 14) := by show _ = _; rw [List.size_toArray, hin.x.len]; rfl
  have Hlx : Hid (x.c.length = 1 * 14) := by show _ = _; rw [hin.x.len]; rfl
  have Hx1 : Hid (∀ u ∈ x.c, u.oneCell' = true) := hin.x.ones
  have H63 : Hid (wl.length + 1 ≤ maxLen) := by show _ ≤ _; unfold maxLen; omega
  have Hby : Hid ((wl.length + 1) * 184 ≤ 140737488355328) := by show _ ≤ _; omega
  have Hel : Hid (∀ y, y ∈ wl ++ [x] → y.c.length = 14) := fun y hy => by
    rcases List.mem_append.1 hy with h | h
    · exact (hin.i y h).len
    · rw [List.mem_singleton.1 h]; exact hin.x.len
  -- what holds in all later worlds
  have HK : Hid (∀ W, Below (w.heap.size + 1) w1 W → Bk W w.heap.size x.c 31) := fun W h => (h.block w.heap.size (by omega)).trans k1
  have HL : Hid (∀ W, Below (w.heap.size + 1) w1 W → LawIn w.heap.size W x wl A cap ∧ w.heap.size + 1 ≤ W.heap.size) := fun W h => ⟨hin1.blw h (by omega), by have := h.size; omega⟩
  have Hn := Lib.hid hn
  have Hc1 : Hid (∀ W, Below (w.heap.size + 1) w1 W → Calls Tryz.prog 4 #[.agg x.c.toArray] W (RcPost w.heap.size (conj x.n x) W)) := fun W h => rConjuncts_any w.heap.size x.n x W (Nat.le_refl _) (by omega) (by have := (HL.out W h).2; omega) (HL.out W h).1.x
  have Hc2 : Hid (∀ W, Below (w.heap.size + 1) w1 W → Calls Tryz.prog 6 #[.agg x.c.toArray] W (ExLs (conj x.n x) W)) := fun W h => pConjuncts_any w.heap.size x W (by have := (HL.out W h).2; omega) (by omega) (HL.out W h).1.x
  have Hc3 : Hid (∀ W, Below (w.heap.size + 1) w1 W → Calls Tryz.prog 8 #[.slice A wl.length cap] W fun e w' => ∃ y : DT, e = .returned (.agg y.c.toArray) ∧ Below W.heap.size W w' ∧ UIn (Lv w') w' .expr y ∧ USm .expr (cjo wl) y) := fun W h => pConjoin_any w.heap.size wl A cap W (by have := (HL.out W h).2; omega) (by omega) (HL.out W h).1.r (HL.out W h).1.i
  have Hc4 : Hid (∀ W, Below (w.heap.size + 1) w1 W → Calls Tryz.prog 9 #[.slice A wl.length cap] W (ExOne (fun k => k < w.heap.size) (cjo wl) W)) := fun W h => rConjoin_any w.heap.size wl A cap W (by have := (HL.out W h).2; omega) (by omega) (HL.out W h).1.r (HL.out W h).1.i
  clear hin hin1 k1 hb1
  go_enter Tryz.func3, Tryz.ntmps3
  go_upto_region 4 with (first
    | (refine wpList_load_part rfl 31 _ rfl _ Tryz.underlying31 rfl _ _ _ _ x.c rfl (HK.out w1 (Below.refl _ _)) Hi.out (by rw [List.drop_zero, List.take_length]) ?_)
    | (refine wpList_load_part rfl 31 _ rfl _ Tryz.underlying31 rfl _ _ _ _ x.c rfl (HK.out w2 B2.out) Hi.out (by rw [List.drop_zero, List.take_length]) ?_)
    | (go_at_call 4; refine (Hc1.out w1 (Below.refl _ _)).mono ?_; rintro e w2 ⟨A2, c2, rfl, hb2, hr2⟩; have B2 : Hid (Below (w.heap.size + 1) w1 w2) := (belLo hb2 (by omega)); have R2 := Lib.hid hr2; clear hb2 hr2)
    | (go_at_call 6; refine (Hc2.out w2 B2.out).mono ?_; rintro e w3 ⟨A3, c3, ys, rfl, hb3, hu3, hr3, hi3⟩
       have hex := lexprs_sm ys (conj x.n x) A3 A2 c3 c2 w3 hu3.symm hr3 hi3 (R2.out.keep (fun k hk => hb3.block k hk.2) fun k hk => (by have := hb3.size; have := hk.2; show _ < _; omega)) (fun y hy => (conj_in x.n ((HL.out w3 (belTr B2.out (belLo hb3 (HL.out w2 B2.out).2))).1.x) y hy).1.keep (fun _ _ => rfl) (fun k hk => (by have := (HL.out w2 B2.out).2; have := hb3.size; have hk' : k < w.heap.size := hk; show _ < _; omega)))
       have Hex := Lib.hid hex
       have B3 : Hid (Below (w.heap.size + 1) w1 w3) := (belTr B2.out (belLo hb3 (HL.out w2 B2.out).2)); clear hex hb3 hu3 hr3 hi3)
    | (go_at_call 5; refine Hex.out.mono ?_; rintro e w4 ⟨rfl, hb4⟩; have B4 : Hid (Below (w.heap.size + 1) w1 w4) := (belTr B3.out (belLo hb4 (HL.out w3 B3.out).2)); clear hb4)
    | (go_at_call 8; refine (Hc3.out w4 B4.out).mono ?_; rintro e w5 ⟨y5, rfl, hb5, hy5, hu5⟩; have B5 : Hid (Below (w.heap.size + 1) w1 w5) := (belTr B4.out (belLo hb5 (HL.out w4 B4.out).2)); have Y5 := Lib.hid hy5; have U5 := Lib.hid hu5; clear hb5 hy5 hu5)
    | (go_at_call 9; refine (Hc4.out w5 B5.out).mono ?_; rintro e w6 ⟨y6, rfl, hb6, hy6, hu6, _⟩
       have hsm := Lib.hid (rSameExpr_sm y5 y6 w6 (U5.out.symm.trans hu6) (Y5.out.blw hb6) (hy6.keep (fun _ _ => rfl) fun k hk => (by rcases hk with h | h; (have := (HL.out w5 B5.out).2; have := hb6.size; have h' : k < w.heap.size := h; show _ < _; omega); exact h.2)))
       have B6 : Hid (Below (w.heap.size + 1) w1 w6) := (belTr B5.out (belLo hb6 (HL.out w5 B5.out).2)); clear hb6 hy6 hu6)
    | (go_at_call 7; refine hsm.out.mono ?_; rintro e w7 ⟨rfl, hb7⟩; have B7 : Hid (Below (w.heap.size + 1) w1 w7) := (belTr B6.out (belLo hb7 (HL.out w6 B6.out).2)); clear hb7))
  have Hcl : Hid (∀ W, Below w7.heap.size w7 W → Calls Tryz.prog 11 #[.slice A wl.length cap] W fun e w' => ∃ v, e = .returned v ∧ w'.ownsRow W.heap.size 31 14 v wl.length (wl.flatMap DT.c) ∧ Below W.heap.size W w') := fun W h => by
    have hl := (HL.out W (belTr B7.out (belLo h (HL.out w7 B7.out).2))).1
    exact cloneE_any A cap wl (fun k => k < w.heap.size) W hl.r (fun y hy => (hl.i y hy).len) (fun y hy => (hl.i y hy).ones) (by have := Hn.out; omega)
  have Hnear : Hid (∀ W, Below w7.heap.size w7 W → ∀ (A4 : Option Addr) (c4 g8 : Nat), DRow (Lv W) W 14 A4 c4 (wl ++ [x]) → Bk W g8 [.int .i64 up, .int .i64 frm, .int .i64 by'] 3 → Calls Tryz.prog 10 #[.slice A4 (wl.length + 1) c4, .slice (some ⟨g8, 0, none⟩) 3 3] W (NePost (∀ z, z ∈ wl ++ [x] → NearT .expr z) W)) := fun W h A4 c4 g8 hr4 hb8 => by
    have hl := HL.out W (belTr B7.out (belLo h (HL.out w7 B7.out).2))
    have h1 := rNear_any (wl ++ [x]) A4 c4 (Lv W) W (some ⟨g8, 0, none⟩) 3 [up, frm, by'] (by rw [nL_append, nL_cons]; have h0 : nL ([] : List DT) = 0 := rfl; have := Hn.out; omega) hr4 (fun y hy => by
      have hlt : ∀ k, k < w.heap.size → k < W.heap.size := fun k hk => by have := hl.2; omega
      rcases List.mem_append.1 hy with h | h
      · exact (hl.1.i y h).keep (fun _ _ => rfl) hlt
      · rw [List.mem_singleton.1 h]; exact hl.1.x.keep (fun _ _ => rfl) hlt) (fun _ h => h) (Bk.irow (l := [up, frm, by']) hb8 (by simp) (by unfold maxLen; omega)) (by simp)
    simpa using h1
  have Hn7 : Hid (w7.heap.size ≤ w7.heap.size) := Nat.le_refl _
  go_cut [41] (fun v wx => ∃ b : Bool, v = .bool (!b) ∧ Below w7.heap.size w7 wx ∧ (b = true → ∀ z, z ∈ wl ++ [x] → NearT .expr z))
  case first =>
    obtain ⟨n7, hn7⟩ : ∃ n7, w7.heap.size = n7 := ⟨_, rfl⟩
    rw [hn7] at Hcl Hnear
    have hS : (fun W => Below n7 w7 W) w7.drew := by show Below n7 w7 _; rw [← hn7]; exact (Below.refl _ _).drew
    refine wp_region_held_drew (S := fun W => Below n7 w7 W) (by kernel_rfl) hS fun hS => ?_
    show wpAnyH _ .any _ _ _ 11 (Array.replicate 11 false) _ _
    refine take_op (i := 0) (v := .slice A wl.length cap) rfl rfl (by kernel_rfl) (by kernel_rfl) (by kernel_rfl) (fun _ _ _ h => h) (yields_of rfl fun w' _ => by go_simp) hS ?_
    simp only [List.setIfInBounds_toArray, List.set_cons_zero, List.set_cons_succ]
    refine take_op (i := 2) (v := .agg x.c.toArray) rfl rfl (by kernel_rfl) (by kernel_rfl) (by kernel_rfl) (fun _ _ _ h => h) (yields_load_part rfl 31 _ rfl _ Tryz.underlying31 rfl _ 0 _ _ x.c rfl (fun W h => HK.out W (belTr B7.out (belLo h (by rw [← hn7]; exact (HL.out w7 B7.out).2)))) Hi.out (by rw [List.drop_zero, List.take_length])) hS ?_
    simp only [List.setIfInBounds_toArray, List.set_cons_zero, List.set_cons_succ]
    refine take_op (i := 5) (v := .int .i64 up) rfl rfl (by kernel_rfl) (by kernel_rfl) (by kernel_rfl) (fun _ _ _ h => h) (yields_of rfl fun w' _ => by go_simp) hS ?_
    simp only [List.setIfInBounds_toArray, List.set_cons_zero, List.set_cons_succ]
    refine take_op (i := 6) (v := .int .i64 frm) rfl rfl (by kernel_rfl) (by kernel_rfl) (by kernel_rfl) (fun _ _ _ h => h) (yields_of rfl fun w' _ => by go_simp) hS ?_
    simp only [List.setIfInBounds_toArray, List.set_cons_zero, List.set_cons_succ]
    refine take_op (i := 7) (v := .int .i64 by') rfl rfl (by kernel_rfl) (by kernel_rfl) (by kernel_rfl) (fun _ _ _ h => h) (yields_of rfl fun w' _ => by go_simp) hS ?_
    simp only [List.setIfInBounds_toArray, List.set_cons_zero, List.set_cons_succ]
    obtain ⟨Wc, hWc⟩ : ∃ Wc, w7.drew = Wc := ⟨_, rfl⟩
    rw [hWc] at hS ⊢
    clear hWc
    replace hS : Below n7 w7 Wc := hS
    have Hn7 : Hid (n7 ≤ w7.heap.size) := Nat.le_of_eq hn7.symm
    refine three_op (i := 1) (j := 3) (q := 8) (by kernel_rfl) rfl rfl rfl rfl rfl rfl ?_ ?_ ?_
    · skip
      refine call_wp rfl 11 #[.slice A wl.length cap] (by go_simp) ((Hcl.out Wc hS).mono ?_)
      rintro e Wn ⟨v1, rfl, h1', hbn⟩
      try have e8 : some g8 ≠ v1.ownBlock := fun e => by have := (own_out h1' e).1; have := h8.lt; omega
      have h1 := h1'.mono (Nat.le_trans Hn7.out hS.size)
      clear h1'
      try replace h3 := h3.blw hbn
      try replace h8 := h8.blw hbn
      replace hS := belTr hS (belLo hbn (Nat.le_trans Hn7.out hS.size))
      clear hbn
      refine ⟨_, rfl, hS, ?_⟩
      simp only [List.setIfInBounds_toArray, List.set_cons_zero, List.set_cons_succ]
      try clear Wc
      obtain ⟨Wc, rfl⟩ : ∃ W, W = Wn := ⟨_, rfl⟩
      refine two_op (i := 3) (j := 8) (by kernel_rfl) rfl rfl rfl rfl ?_ ?_
      · skip
        obtain ⟨g3, hg3⟩ : ∃ g3, Wc.heap.size = g3 := ⟨_, rfl⟩
        obtain ⟨Wn, hWn⟩ : ∃ Wn, Wc.alloc (.cells x.c.toArray 31) = Wn := ⟨_, rfl⟩
        have hbn : Below Wc.heap.size Wc Wn := by rw [← hWn]; exact bel1 _ _
        have h3 : Bk Wn g3 x.c 31 := by rw [← hWn, ← hg3]; exact Bk.new Wc x.c _
        refine val_wp (v := .slice (some ⟨g3, 0, none⟩) 1 1) (w' := Wn) rfl (by rw [← hg3, ← hWn]; exact exec_one_st 28 31 _ rfl i0 Tryz.underlying28 hi z0 iz x.c.toArray (isz.trans X14.out.symm) (hzs.trans X14.out.symm) (by rw [X14.out]; decide) (by rw [X14.out]; decide) rfl) ?_
        clear hg3 hWn
        try replace h1 := own_blw h1 hbn
        try replace h8 := h8.blw hbn
        replace hS := belTr hS (belLo hbn (Nat.le_trans Hn7.out hS.size))
        clear hbn
        refine ⟨hS, ?_⟩
        simp only [List.setIfInBounds_toArray, List.set_cons_zero, List.set_cons_succ]
        try clear Wc
        obtain ⟨Wc, rfl⟩ : ∃ W, W = Wn := ⟨_, rfl⟩
        refine mix_op (i := 4) (j := 8) (by kernel_rfl) rfl rfl rfl rfl ?_ ?_
        · skip
          at_builtin
          refine wpList_append_row _ rfl _ _ 28 rfl n7 31 i0 _ 14 184 Tryz.underlying28 hi iz isz iby hzs (by decide) v1 _ _ rfl h1 (some ⟨g3, 0, none⟩) 1 1 x.c rfl (by rw [Hlx.out]) h3.src Hx1.out H63.out Hby.out (Nat.le_trans Hn7.out hS.size) ?_
          intro v4 Wn h4 hg4 _
          try replace h8 := h8.grown hg4 e8
          replace hS := below_grown hS h1 hg4 (Nat.le_refl _) (Nat.le_trans Hn7.out hS.size)
          clear hg4 h1 h3
          refine And.intro hS ?_
          simp only [Act.put, List.setIfInBounds_toArray, List.set_cons_zero, List.set_cons_succ]
          try clear Wc
          obtain ⟨Wc, rfl⟩ : ∃ W, W = Wn := ⟨_, rfl⟩
          refine one_op (i := 8) (by kernel_rfl) rfl rfl ?_
          obtain ⟨g8, hg8⟩ : ∃ g8, Wc.heap.size = g8 := ⟨_, rfl⟩
          obtain ⟨Wn, hWn⟩ : ∃ Wn, Wc.alloc (.cells #[.int .i64 up, .int .i64 frm, .int .i64 by'] 3) = Wn := ⟨_, rfl⟩
          have hbn : Below Wc.heap.size Wc Wn := by rw [← hWn]; exact bel1 _ _
          have h8 : Bk Wn g8 [.int .i64 up, .int .i64 frm, .int .i64 by'] 3 := by rw [← hWn, ← hg8]; exact Bk.new Wc [.int .i64 up, .int .i64 frm, .int .i64 by'] _
          refine val_wp (v := .slice (some ⟨g8, 0, none⟩) 3 3) (w' := Wn) rfl (by rw [← hg8, ← hWn]; go_simp) ?_
          try have e8 : some g8 ≠ v1.ownBlock := fun e => by have := (own_out h1 e).2; omega
          clear hg8 hWn
          try replace h1 := own_blw h1 hbn
          try replace h3 := h3.blw hbn
          try replace h4 := own_blw h4 hbn
          replace hS := belTr hS (belLo hbn (Nat.le_trans Hn7.out hS.size))
          clear hbn
          refine ⟨hS, ?_⟩
          simp only [List.setIfInBounds_toArray, List.set_cons_zero, List.set_cons_succ]
          try clear Wc
          obtain ⟨Wc, rfl⟩ : ∃ W, W = Wn := ⟨_, rfl⟩
          refine one_op (i := 9) (by kernel_rfl) rfl rfl ?_
          obtain ⟨A4, c4, hov, hr4, _⟩ := own_structs (l := wl ++ [x]) (by simpa using h4) (by simp) Hel.out
          subst hov
          refine call_wp rfl 10 #[.slice A4 (wl.length + 1) c4, .slice (some ⟨g8, 0, none⟩) 3 3] (by go_simp) ((Hnear.out Wc hS A4 c4 g8 (hr4.keep (fun _ _ => rfl) fun k hk => hk.2.2) h8).mono ?_)
          rintro e Wn ⟨b, rfl, hbn, hP⟩
          replace hS := belTr hS (belLo hbn (Nat.le_trans Hn7.out hS.size))
          refine ⟨_, rfl, hS, ?_⟩
          simp only [List.setIfInBounds_toArray, List.set_cons_zero, List.set_cons_succ]
          refine take_op (i := 10) (v := .bool (!b)) rfl rfl (by kernel_rfl) (by kernel_rfl) (by kernel_rfl) (fun _ _ _ h => h) (yields_of rfl fun w' _ => by go_simp) hS ?_
          simp only [List.setIfInBounds_toArray, List.set_cons_zero, List.set_cons_succ]
          refine wpAnyH_done (by kernel_rfl) ?_ _
          go_wp2_with fail
          go_meet
          exact ⟨b, rfl, by rw [hn7]; exact hS, hP⟩
        · skip
          obtain ⟨g8, hg8⟩ : ∃ g8, Wc.heap.size = g8 := ⟨_, rfl⟩
          obtain ⟨Wn, hWn⟩ : ∃ Wn, Wc.alloc (.cells #[.int .i64 up, .int .i64 frm, .int .i64 by'] 3) = Wn := ⟨_, rfl⟩
          have hbn : Below Wc.heap.size Wc Wn := by rw [← hWn]; exact bel1 _ _
          have h8 : Bk Wn g8 [.int .i64 up, .int .i64 frm, .int .i64 by'] 3 := by rw [← hWn, ← hg8]; exact Bk.new Wc [.int .i64 up, .int .i64 frm, .int .i64 by'] _
          refine val_wp (v := .slice (some ⟨g8, 0, none⟩) 3 3) (w' := Wn) rfl (by rw [← hg8, ← hWn]; go_simp) ?_
          try have e8 : some g8 ≠ v1.ownBlock := fun e => by have := (own_out h1 e).2; omega
          clear hg8 hWn
          try replace h1 := own_blw h1 hbn
          try replace h3 := h3.blw hbn
          try replace h4 := own_blw h4 hbn
          replace hS := belTr hS (belLo hbn (Nat.le_trans Hn7.out hS.size))
          clear hbn
          refine ⟨hS, ?_⟩
          simp only [List.setIfInBounds_toArray, List.set_cons_zero, List.set_cons_succ]
          try clear Wc
          obtain ⟨Wc, rfl⟩ : ∃ W, W = Wn := ⟨_, rfl⟩
          refine one_list (i := 4) (by kernel_rfl) rfl rfl ?_
          at_builtin
          refine wpList_append_row _ rfl _ _ 28 rfl n7 31 i0 _ 14 184 Tryz.underlying28 hi iz isz iby hzs (by decide) v1 _ _ rfl h1 (some ⟨g3, 0, none⟩) 1 1 x.c rfl (by rw [Hlx.out]) h3.src Hx1.out H63.out Hby.out (Nat.le_trans Hn7.out hS.size) ?_
          intro v4 Wn h4 hg4 _
          try replace h8 := h8.grown hg4 e8
          replace hS := below_grown hS h1 hg4 (Nat.le_refl _) (Nat.le_trans Hn7.out hS.size)
          clear hg4 h1 h3
          refine And.intro hS ?_
          simp only [Act.put, List.setIfInBounds_toArray, List.set_cons_zero, List.set_cons_succ]
          try clear Wc
          obtain ⟨Wc, rfl⟩ : ∃ W, W = Wn := ⟨_, rfl⟩
          refine one_op (i := 9) (by kernel_rfl) rfl rfl ?_
          obtain ⟨A4, c4, hov, hr4, _⟩ := own_structs (l := wl ++ [x]) (by simpa using h4) (by simp) Hel.out
          subst hov
          refine call_wp rfl 10 #[.slice A4 (wl.length + 1) c4, .slice (some ⟨g8, 0, none⟩) 3 3] (by go_simp) ((Hnear.out Wc hS A4 c4 g8 (hr4.keep (fun _ _ => rfl) fun k hk => hk.2.2) h8).mono ?_)
          rintro e Wn ⟨b, rfl, hbn, hP⟩
          replace hS := belTr hS (belLo hbn (Nat.le_trans Hn7.out hS.size))
          refine ⟨_, rfl, hS, ?_⟩
          simp only [List.setIfInBounds_toArray, List.set_cons_zero, List.set_cons_succ]
          refine take_op (i := 10) (v := .bool (!b)) rfl rfl (by kernel_rfl) (by kernel_rfl) (by kernel_rfl) (fun _ _ _ h => h) (yields_of rfl fun w' _ => by go_simp) hS ?_
          simp only [List.setIfInBounds_toArray, List.set_cons_zero, List.set_cons_succ]
          refine wpAnyH_done (by kernel_rfl) ?_ _
          go_wp2_with fail
          go_meet
          exact ⟨b, rfl, by rw [hn7]; exact hS, hP⟩
      · skip
        obtain ⟨g8, hg8⟩ : ∃ g8, Wc.heap.size = g8 := ⟨_, rfl⟩
        obtain ⟨Wn, hWn⟩ : ∃ Wn, Wc.alloc (.cells #[.int .i64 up, .int .i64 frm, .int .i64 by'] 3) = Wn := ⟨_, rfl⟩
        have hbn : Below Wc.heap.size Wc Wn := by rw [← hWn]; exact bel1 _ _
        have h8 : Bk Wn g8 [.int .i64 up, .int .i64 frm, .int .i64 by'] 3 := by rw [← hWn, ← hg8]; exact Bk.new Wc [.int .i64 up, .int .i64 frm, .int .i64 by'] _
        refine val_wp (v := .slice (some ⟨g8, 0, none⟩) 3 3) (w' := Wn) rfl (by rw [← hg8, ← hWn]; go_simp) ?_
        try have e8 : some g8 ≠ v1.ownBlock := fun e => by have := (own_out h1 e).2; omega
        clear hg8 hWn
        try replace h1 := own_blw h1 hbn
        try replace h3 := h3.blw hbn
        try replace h4 := own_blw h4 hbn
        replace hS := belTr hS (belLo hbn (Nat.le_trans Hn7.out hS.size))
        clear hbn
        refine ⟨hS, ?_⟩
        simp only [List.setIfInBounds_toArray, List.set_cons_zero, List.set_cons_succ]
        try clear Wc
        obtain ⟨Wc, rfl⟩ : ∃ W, W = Wn := ⟨_, rfl⟩
        refine one_op (i := 3) (by kernel_rfl) rfl rfl ?_
        obtain ⟨g3, hg3⟩ : ∃ g3, Wc.heap.size = g3 := ⟨_, rfl⟩
        obtain ⟨Wn, hWn⟩ : ∃ Wn, Wc.alloc (.cells x.c.toArray 31) = Wn := ⟨_, rfl⟩
        have hbn : Below Wc.heap.size Wc Wn := by rw [← hWn]; exact bel1 _ _
        have h3 : Bk Wn g3 x.c 31 := by rw [← hWn, ← hg3]; exact Bk.new Wc x.c _
        refine val_wp (v := .slice (some ⟨g3, 0, none⟩) 1 1) (w' := Wn) rfl (by rw [← hg3, ← hWn]; exact exec_one_st 28 31 _ rfl i0 Tryz.underlying28 hi z0 iz x.c.toArray (isz.trans X14.out.symm) (hzs.trans X14.out.symm) (by rw [X14.out]; decide) (by rw [X14.out]; decide) rfl) ?_
        clear hg3 hWn
        try replace h1 := own_blw h1 hbn
        try replace h8 := h8.blw hbn
        replace hS := belTr hS (belLo hbn (Nat.le_trans Hn7.out hS.size))
        clear hbn
        refine ⟨hS, ?_⟩
        simp only [List.setIfInBounds_toArray, List.set_cons_zero, List.set_cons_succ]
        try clear Wc
        obtain ⟨Wc, rfl⟩ : ∃ W, W = Wn := ⟨_, rfl⟩
        refine one_list (i := 4) (by kernel_rfl) rfl rfl ?_
        at_builtin
        refine wpList_append_row _ rfl _ _ 28 rfl n7 31 i0 _ 14 184 Tryz.underlying28 hi iz isz iby hzs (by decide) v1 _ _ rfl h1 (some ⟨g3, 0, none⟩) 1 1 x.c rfl (by rw [Hlx.out]) h3.src Hx1.out H63.out Hby.out (Nat.le_trans Hn7.out hS.size) ?_
        intro v4 Wn h4 hg4 _
        try replace h8 := h8.grown hg4 e8
        replace hS := below_grown hS h1 hg4 (Nat.le_refl _) (Nat.le_trans Hn7.out hS.size)
        clear hg4 h1 h3
        refine And.intro hS ?_
        simp only [Act.put, List.setIfInBounds_toArray, List.set_cons_zero, List.set_cons_succ]
        try clear Wc
        obtain ⟨Wc, rfl⟩ : ∃ W, W = Wn := ⟨_, rfl⟩
        refine one_op (i := 9) (by kernel_rfl) rfl rfl ?_
        obtain ⟨A4, c4, hov, hr4, _⟩ := own_structs (l := wl ++ [x]) (by simpa using h4) (by simp) Hel.out
        subst hov
        refine call_wp rfl 10 #[.slice A4 (wl.length + 1) c4, .slice (some ⟨g8, 0, none⟩) 3 3] (by go_simp) ((Hnear.out Wc hS A4 c4 g8 (hr4.keep (fun _ _ => rfl) fun k hk => hk.2.2) h8).mono ?_)
        rintro e Wn ⟨b, rfl, hbn, hP⟩
        replace hS := belTr hS (belLo hbn (Nat.le_trans Hn7.out hS.size))
        refine ⟨_, rfl, hS, ?_⟩
        simp only [List.setIfInBounds_toArray, List.set_cons_zero, List.set_cons_succ]
        refine take_op (i := 10) (v := .bool (!b)) rfl rfl (by kernel_rfl) (by kernel_rfl) (by kernel_rfl) (fun _ _ _ h => h) (yields_of rfl fun w' _ => by go_simp) hS ?_
        simp only [List.setIfInBounds_toArray, List.set_cons_zero, List.set_cons_succ]
        refine wpAnyH_done (by kernel_rfl) ?_ _
        go_wp2_with fail
        go_meet
        exact ⟨b, rfl, by rw [hn7]; exact hS, hP⟩
    · skip
      obtain ⟨g3, hg3⟩ : ∃ g3, Wc.heap.size = g3 := ⟨_, rfl⟩
      obtain ⟨Wn, hWn⟩ : ∃ Wn, Wc.alloc (.cells x.c.toArray 31) = Wn := ⟨_, rfl⟩
      have hbn : Below Wc.heap.size Wc Wn := by rw [← hWn]; exact bel1 _ _
      have h3 : Bk Wn g3 x.c 31 := by rw [← hWn, ← hg3]; exact Bk.new Wc x.c _
      refine val_wp (v := .slice (some ⟨g3, 0, none⟩) 1 1) (w' := Wn) rfl (by rw [← hg3, ← hWn]; exact exec_one_st 28 31 _ rfl i0 Tryz.underlying28 hi z0 iz x.c.toArray (isz.trans X14.out.symm) (hzs.trans X14.out.symm) (by rw [X14.out]; decide) (by rw [X14.out]; decide) rfl) ?_
      clear hg3 hWn
      try replace h1 := own_blw h1 hbn
      try replace h8 := h8.blw hbn
      replace hS := belTr hS (belLo hbn (Nat.le_trans Hn7.out hS.size))
      clear hbn
      refine ⟨hS, ?_⟩
      simp only [List.setIfInBounds_toArray, List.set_cons_zero, List.set_cons_succ]
      try clear Wc
      obtain ⟨Wc, rfl⟩ : ∃ W, W = Wn := ⟨_, rfl⟩
      refine two_op (i := 1) (j := 8) (by kernel_rfl) rfl rfl rfl rfl ?_ ?_
      · skip
        refine call_wp rfl 11 #[.slice A wl.length cap] (by go_simp) ((Hcl.out Wc hS).mono ?_)
        rintro e Wn ⟨v1, rfl, h1', hbn⟩
        try have e8 : some g8 ≠ v1.ownBlock := fun e => by have := (own_out h1' e).1; have := h8.lt; omega
        have h1 := h1'.mono (Nat.le_trans Hn7.out hS.size)
        clear h1'
        try replace h3 := h3.blw hbn
        try replace h8 := h8.blw hbn
        replace hS := belTr hS (belLo hbn (Nat.le_trans Hn7.out hS.size))
        clear hbn
        refine ⟨_, rfl, hS, ?_⟩
        simp only [List.setIfInBounds_toArray, List.set_cons_zero, List.set_cons_succ]
        try clear Wc
        obtain ⟨Wc, rfl⟩ : ∃ W, W = Wn := ⟨_, rfl⟩
        refine mix_op (i := 4) (j := 8) (by kernel_rfl) rfl rfl rfl rfl ?_ ?_
        · skip
          at_builtin
          refine wpList_append_row _ rfl _ _ 28 rfl n7 31 i0 _ 14 184 Tryz.underlying28 hi iz isz iby hzs (by decide) v1 _ _ rfl h1 (some ⟨g3, 0, none⟩) 1 1 x.c rfl (by rw [Hlx.out]) h3.src Hx1.out H63.out Hby.out (Nat.le_trans Hn7.out hS.size) ?_
          intro v4 Wn h4 hg4 _
          try replace h8 := h8.grown hg4 e8
          replace hS := below_grown hS h1 hg4 (Nat.le_refl _) (Nat.le_trans Hn7.out hS.size)
          clear hg4 h1 h3
          refine And.intro hS ?_
          simp only [Act.put, List.setIfInBounds_toArray, List.set_cons_zero, List.set_cons_succ]
          try clear Wc
          obtain ⟨Wc, rfl⟩ : ∃ W, W = Wn := ⟨_, rfl⟩
          refine one_op (i := 8) (by kernel_rfl) rfl rfl ?_
          obtain ⟨g8, hg8⟩ : ∃ g8, Wc.heap.size = g8 := ⟨_, rfl⟩
          obtain ⟨Wn, hWn⟩ : ∃ Wn, Wc.alloc (.cells #[.int .i64 up, .int .i64 frm, .int .i64 by'] 3) = Wn := ⟨_, rfl⟩
          have hbn : Below Wc.heap.size Wc Wn := by rw [← hWn]; exact bel1 _ _
          have h8 : Bk Wn g8 [.int .i64 up, .int .i64 frm, .int .i64 by'] 3 := by rw [← hWn, ← hg8]; exact Bk.new Wc [.int .i64 up, .int .i64 frm, .int .i64 by'] _
          refine val_wp (v := .slice (some ⟨g8, 0, none⟩) 3 3) (w' := Wn) rfl (by rw [← hg8, ← hWn]; go_simp) ?_
          try have e8 : some g8 ≠ v1.ownBlock := fun e => by have := (own_out h1 e).2; omega
          clear hg8 hWn
          try replace h1 := own_blw h1 hbn
          try replace h3 := h3.blw hbn
          try replace h4 := own_blw h4 hbn
          replace hS := belTr hS (belLo hbn (Nat.le_trans Hn7.out hS.size))
          clear hbn
          refine ⟨hS, ?_⟩
          simp only [List.setIfInBounds_toArray, List.set_cons_zero, List.set_cons_succ]
          try clear Wc
          obtain ⟨Wc, rfl⟩ : ∃ W, W = Wn := ⟨_, rfl⟩
          refine one_op (i := 9) (by kernel_rfl) rfl rfl ?_
          obtain ⟨A4, c4, hov, hr4, _⟩ := own_structs (l := wl ++ [x]) (by simpa using h4) (by simp) Hel.out
          subst hov
          refine call_wp rfl 10 #[.slice A4 (wl.length + 1) c4, .slice (some ⟨g8, 0, none⟩) 3 3] (by go_simp) ((Hnear.out Wc hS A4 c4 g8 (hr4.keep (fun _ _ => rfl) fun k hk => hk.2.2) h8).mono ?_)
          rintro e Wn ⟨b, rfl, hbn, hP⟩
          replace hS := belTr hS (belLo hbn (Nat.le_trans Hn7.out hS.size))
          refine ⟨_, rfl, hS, ?_⟩
          simp only [List.setIfInBounds_toArray, List.set_cons_zero, List.set_cons_succ]
          refine take_op (i := 10) (v := .bool (!b)) rfl rfl (by kernel_rfl) (by kernel_rfl) (by kernel_rfl) (fun _ _ _ h => h) (yields_of rfl fun w' _ => by go_simp) hS ?_
          simp only [List.setIfInBounds_toArray, List.set_cons_zero, List.set_cons_succ]
          refine wpAnyH_done (by kernel_rfl) ?_ _
          go_wp2_with fail
          go_meet
          exact ⟨b, rfl, by rw [hn7]; exact hS, hP⟩
        · skip
          obtain ⟨g8, hg8⟩ : ∃ g8, Wc.heap.size = g8 := ⟨_, rfl⟩
          obtain ⟨Wn, hWn⟩ : ∃ Wn, Wc.alloc (.cells #[.int .i64 up, .int .i64 frm, .int .i64 by'] 3) = Wn := ⟨_, rfl⟩
          have hbn : Below Wc.heap.size Wc Wn := by rw [← hWn]; exact bel1 _ _
          have h8 : Bk Wn g8 [.int .i64 up, .int .i64 frm, .int .i64 by'] 3 := by rw [← hWn, ← hg8]; exact Bk.new Wc [.int .i64 up, .int .i64 frm, .int .i64 by'] _
          refine val_wp (v := .slice (some ⟨g8, 0, none⟩) 3 3) (w' := Wn) rfl (by rw [← hg8, ← hWn]; go_simp) ?_
          try have e8 : some g8 ≠ v1.ownBlock := fun e => by have := (own_out h1 e).2; omega
          clear hg8 hWn
          try replace h1 := own_blw h1 hbn
          try replace h3 := h3.blw hbn
          try replace h4 := own_blw h4 hbn
          replace hS := belTr hS (belLo hbn (Nat.le_trans Hn7.out hS.size))
          clear hbn
          refine ⟨hS, ?_⟩
          simp only [List.setIfInBounds_toArray, List.set_cons_zero, List.set_cons_succ]
          try clear Wc
          obtain ⟨Wc, rfl⟩ : ∃ W, W = Wn := ⟨_, rfl⟩
          refine one_list (i := 4) (by kernel_rfl) rfl rfl ?_
          at_builtin
          refine wpList_append_row _ rfl _ _ 28 rfl n7 31 i0 _ 14 184 Tryz.underlying28 hi iz isz iby hzs (by decide) v1 _ _ rfl h1 (some ⟨g3, 0, none⟩) 1 1 x.c rfl (by rw [Hlx.out]) h3.src Hx1.out H63.out Hby.out (Nat.le_trans Hn7.out hS.size) ?_
          intro v4 Wn h4 hg4 _
          try replace h8 := h8.grown hg4 e8
          replace hS := below_grown hS h1 hg4 (Nat.le_refl _) (Nat.le_trans Hn7.out hS.size)
          clear hg4 h1 h3
          refine And.intro hS ?_
          simp only [Act.put, List.setIfInBounds_toArray, List.set_cons_zero, List.set_cons_succ]
          try clear Wc
          obtain ⟨Wc, rfl⟩ : ∃ W, W = Wn := ⟨_, rfl⟩
          refine one_op (i := 9) (by kernel_rfl) rfl rfl ?_
          obtain ⟨A4, c4, hov, hr4, _⟩ := own_structs (l := wl ++ [x]) (by simpa using h4) (by simp) Hel.out
          subst hov
          refine call_wp rfl 10 #[.slice A4 (wl.length + 1) c4, .slice (some ⟨g8, 0, none⟩) 3 3] (by go_simp) ((Hnear.out Wc hS A4 c4 g8 (hr4.keep (fun _ _ => rfl) fun k hk => hk.2.2) h8).mono ?_)
          rintro e Wn ⟨b, rfl, hbn, hP⟩
          replace hS := belTr hS (belLo hbn (Nat.le_trans Hn7.out hS.size))
          refine ⟨_, rfl, hS, ?_⟩
          simp only [List.setIfInBounds_toArray, List.set_cons_zero, List.set_cons_succ]
          refine take_op (i := 10) (v := .bool (!b)) rfl rfl (by kernel_rfl) (by kernel_rfl) (by kernel_rfl) (fun _ _ _ h => h) (yields_of rfl fun w' _ => by go_simp) hS ?_
          simp only [List.setIfInBounds_toArray, List.set_cons_zero, List.set_cons_succ]
          refine wpAnyH_done (by kernel_rfl) ?_ _
          go_wp2_with fail
          go_meet
          exact ⟨b, rfl, by rw [hn7]; exact hS, hP⟩
      · skip
        obtain ⟨g8, hg8⟩ : ∃ g8, Wc.heap.size = g8 := ⟨_, rfl⟩
        obtain ⟨Wn, hWn⟩ : ∃ Wn, Wc.alloc (.cells #[.int .i64 up, .int .i64 frm, .int .i64 by'] 3) = Wn := ⟨_, rfl⟩
        have hbn : Below Wc.heap.size Wc Wn := by rw [← hWn]; exact bel1 _ _
        have h8 : Bk Wn g8 [.int .i64 up, .int .i64 frm, .int .i64 by'] 3 := by rw [← hWn, ← hg8]; exact Bk.new Wc [.int .i64 up, .int .i64 frm, .int .i64 by'] _
        refine val_wp (v := .slice (some ⟨g8, 0, none⟩) 3 3) (w' := Wn) rfl (by rw [← hg8, ← hWn]; go_simp) ?_
        try have e8 : some g8 ≠ v1.ownBlock := fun e => by have := (own_out h1 e).2; omega
        clear hg8 hWn
        try replace h1 := own_blw h1 hbn
        try replace h3 := h3.blw hbn
        try replace h4 := own_blw h4 hbn
        replace hS := belTr hS (belLo hbn (Nat.le_trans Hn7.out hS.size))
        clear hbn
        refine ⟨hS, ?_⟩
        simp only [List.setIfInBounds_toArray, List.set_cons_zero, List.set_cons_succ]
        try clear Wc
        obtain ⟨Wc, rfl⟩ : ∃ W, W = Wn := ⟨_, rfl⟩
        refine one_op (i := 1) (by kernel_rfl) rfl rfl ?_
        refine call_wp rfl 11 #[.slice A wl.length cap] (by go_simp) ((Hcl.out Wc hS).mono ?_)
        rintro e Wn ⟨v1, rfl, h1', hbn⟩
        try have e8 : some g8 ≠ v1.ownBlock := fun e => by have := (own_out h1' e).1; have := h8.lt; omega
        have h1 := h1'.mono (Nat.le_trans Hn7.out hS.size)
        clear h1'
        try replace h3 := h3.blw hbn
        try replace h8 := h8.blw hbn
        replace hS := belTr hS (belLo hbn (Nat.le_trans Hn7.out hS.size))
        clear hbn
        refine ⟨_, rfl, hS, ?_⟩
        simp only [List.setIfInBounds_toArray, List.set_cons_zero, List.set_cons_succ]
        try clear Wc
        obtain ⟨Wc, rfl⟩ : ∃ W, W = Wn := ⟨_, rfl⟩
        refine one_list (i := 4) (by kernel_rfl) rfl rfl ?_
        at_builtin
        refine wpList_append_row _ rfl _ _ 28 rfl n7 31 i0 _ 14 184 Tryz.underlying28 hi iz isz iby hzs (by decide) v1 _ _ rfl h1 (some ⟨g3, 0, none⟩) 1 1 x.c rfl (by rw [Hlx.out]) h3.src Hx1.out H63.out Hby.out (Nat.le_trans Hn7.out hS.size) ?_
        intro v4 Wn h4 hg4 _
        try replace h8 := h8.grown hg4 e8
        replace hS := below_grown hS h1 hg4 (Nat.le_refl _) (Nat.le_trans Hn7.out hS.size)
        clear hg4 h1 h3
        refine And.intro hS ?_
        simp only [Act.put, List.setIfInBounds_toArray, List.set_cons_zero, List.set_cons_succ]
        try clear Wc
        obtain ⟨Wc, rfl⟩ : ∃ W, W = Wn := ⟨_, rfl⟩
        refine one_op (i := 9) (by kernel_rfl) rfl rfl ?_
        obtain ⟨A4, c4, hov, hr4, _⟩ := own_structs (l := wl ++ [x]) (by simpa using h4) (by simp) Hel.out
        subst hov
        refine call_wp rfl 10 #[.slice A4 (wl.length + 1) c4, .slice (some ⟨g8, 0, none⟩) 3 3] (by go_simp) ((Hnear.out Wc hS A4 c4 g8 (hr4.keep (fun _ _ => rfl) fun k hk => hk.2.2) h8).mono ?_)
        rintro e Wn ⟨b, rfl, hbn, hP⟩
        replace hS := belTr hS (belLo hbn (Nat.le_trans Hn7.out hS.size))
        refine ⟨_, rfl, hS, ?_⟩
        simp only [List.setIfInBounds_toArray, List.set_cons_zero, List.set_cons_succ]
        refine take_op (i := 10) (v := .bool (!b)) rfl rfl (by kernel_rfl) (by kernel_rfl) (by kernel_rfl) (fun _ _ _ h => h) (yields_of rfl fun w' _ => by go_simp) hS ?_
        simp only [List.setIfInBounds_toArray, List.set_cons_zero, List.set_cons_succ]
        refine wpAnyH_done (by kernel_rfl) ?_ _
        go_wp2_with fail
        go_meet
        exact ⟨b, rfl, by rw [hn7]; exact hS, hP⟩
    · skip
      obtain ⟨g8, hg8⟩ : ∃ g8, Wc.heap.size = g8 := ⟨_, rfl⟩
      obtain ⟨Wn, hWn⟩ : ∃ Wn, Wc.alloc (.cells #[.int .i64 up, .int .i64 frm, .int .i64 by'] 3) = Wn := ⟨_, rfl⟩
      have hbn : Below Wc.heap.size Wc Wn := by rw [← hWn]; exact bel1 _ _
      have h8 : Bk Wn g8 [.int .i64 up, .int .i64 frm, .int .i64 by'] 3 := by rw [← hWn, ← hg8]; exact Bk.new Wc [.int .i64 up, .int .i64 frm, .int .i64 by'] _
      refine val_wp (v := .slice (some ⟨g8, 0, none⟩) 3 3) (w' := Wn) rfl (by rw [← hg8, ← hWn]; go_simp) ?_
      try have e8 : some g8 ≠ v1.ownBlock := fun e => by have := (own_out h1 e).2; omega
      clear hg8 hWn
      try replace h1 := own_blw h1 hbn
      try replace h3 := h3.blw hbn
      try replace h4 := own_blw h4 hbn
      replace hS := belTr hS (belLo hbn (Nat.le_trans Hn7.out hS.size))
      clear hbn
      refine ⟨hS, ?_⟩
      simp only [List.setIfInBounds_toArray, List.set_cons_zero, List.set_cons_succ]
      try clear Wc
      obtain ⟨Wc, rfl⟩ : ∃ W, W = Wn := ⟨_, rfl⟩
      refine two_op (i := 1) (j := 3) (by kernel_rfl) rfl rfl rfl rfl ?_ ?_
      · skip
        refine call_wp rfl 11 #[.slice A wl.length cap] (by go_simp) ((Hcl.out Wc hS).mono ?_)
        rintro e Wn ⟨v1, rfl, h1', hbn⟩
        try have e8 : some g8 ≠ v1.ownBlock := fun e => by have := (own_out h1' e).1; have := h8.lt; omega
        have h1 := h1'.mono (Nat.le_trans Hn7.out hS.size)
        clear h1'
        try replace h3 := h3.blw hbn
        try replace h8 := h8.blw hbn
        replace hS := belTr hS (belLo hbn (Nat.le_trans Hn7.out hS.size))
        clear hbn
        refine ⟨_, rfl, hS, ?_⟩
        simp only [List.setIfInBounds_toArray, List.set_cons_zero, List.set_cons_succ]
        try clear Wc
        obtain ⟨Wc, rfl⟩ : ∃ W, W = Wn := ⟨_, rfl⟩
        refine one_op (i := 3) (by kernel_rfl) rfl rfl ?_
        obtain ⟨g3, hg3⟩ : ∃ g3, Wc.heap.size = g3 := ⟨_, rfl⟩
        obtain ⟨Wn, hWn⟩ : ∃ Wn, Wc.alloc (.cells x.c.toArray 31) = Wn := ⟨_, rfl⟩
        have hbn : Below Wc.heap.size Wc Wn := by rw [← hWn]; exact bel1 _ _
        have h3 : Bk Wn g3 x.c 31 := by rw [← hWn, ← hg3]; exact Bk.new Wc x.c _
        refine val_wp (v := .slice (some ⟨g3, 0, none⟩) 1 1) (w' := Wn) rfl (by rw [← hg3, ← hWn]; exact exec_one_st 28 31 _ rfl i0 Tryz.underlying28 hi z0 iz x.c.toArray (isz.trans X14.out.symm) (hzs.trans X14.out.symm) (by rw [X14.out]; decide) (by rw [X14.out]; decide) rfl) ?_
        clear hg3 hWn
        try replace h1 := own_blw h1 hbn
        try replace h8 := h8.blw hbn
        replace hS := belTr hS (belLo hbn (Nat.le_trans Hn7.out hS.size))
        clear hbn
        refine ⟨hS, ?_⟩
        simp only [List.setIfInBounds_toArray, List.set_cons_zero, List.set_cons_succ]
        try clear Wc
        obtain ⟨Wc, rfl⟩ : ∃ W, W = Wn := ⟨_, rfl⟩
        refine one_list (i := 4) (by kernel_rfl) rfl rfl ?_
        at_builtin
        refine wpList_append_row _ rfl _ _ 28 rfl n7 31 i0 _ 14 184 Tryz.underlying28 hi iz isz iby hzs (by decide) v1 _ _ rfl h1 (some ⟨g3, 0, none⟩) 1 1 x.c rfl (by rw [Hlx.out]) h3.src Hx1.out H63.out Hby.out (Nat.le_trans Hn7.out hS.size) ?_
        intro v4 Wn h4 hg4 _
        try replace h8 := h8.grown hg4 e8
        replace hS := below_grown hS h1 hg4 (Nat.le_refl _) (Nat.le_trans Hn7.out hS.size)
        clear hg4 h1 h3
        refine And.intro hS ?_
        simp only [Act.put, List.setIfInBounds_toArray, List.set_cons_zero, List.set_cons_succ]
        try clear Wc
        obtain ⟨Wc, rfl⟩ : ∃ W, W = Wn := ⟨_, rfl⟩
        refine one_op (i := 9) (by kernel_rfl) rfl rfl ?_
        obtain ⟨A4, c4, hov, hr4, _⟩ := own_structs (l := wl ++ [x]) (by simpa using h4) (by simp) Hel.out
        subst hov
        refine call_wp rfl 10 #[.slice A4 (wl.length + 1) c4, .slice (some ⟨g8, 0, none⟩) 3 3] (by go_simp) ((Hnear.out Wc hS A4 c4 g8 (hr4.keep (fun _ _ => rfl) fun k hk => hk.2.2) h8).mono ?_)
        rintro e Wn ⟨b, rfl, hbn, hP⟩
        replace hS := belTr hS (belLo hbn (Nat.le_trans Hn7.out hS.size))
        refine ⟨_, rfl, hS, ?_⟩
        simp only [List.setIfInBounds_toArray, List.set_cons_zero, List.set_cons_succ]
        refine take_op (i := 10) (v := .bool (!b)) rfl rfl (by kernel_rfl) (by kernel_rfl) (by kernel_rfl) (fun _ _ _ h => h) (yields_of rfl fun w' _ => by go_simp) hS ?_
        simp only [List.setIfInBounds_toArray, List.set_cons_zero, List.set_cons_succ]
        refine wpAnyH_done (by kernel_rfl) ?_ _
        go_wp2_with fail
        go_meet
        exact ⟨b, rfl, by rw [hn7]; exact hS, hP⟩
      · skip
        obtain ⟨g3, hg3⟩ : ∃ g3, Wc.heap.size = g3 := ⟨_, rfl⟩
        obtain ⟨Wn, hWn⟩ : ∃ Wn, Wc.alloc (.cells x.c.toArray 31) = Wn := ⟨_, rfl⟩
        have hbn : Below Wc.heap.size Wc Wn := by rw [← hWn]; exact bel1 _ _
        have h3 : Bk Wn g3 x.c 31 := by rw [← hWn, ← hg3]; exact Bk.new Wc x.c _
        refine val_wp (v := .slice (some ⟨g3, 0, none⟩) 1 1) (w' := Wn) rfl (by rw [← hg3, ← hWn]; exact exec_one_st 28 31 _ rfl i0 Tryz.underlying28 hi z0 iz x.c.toArray (isz.trans X14.out.symm) (hzs.trans X14.out.symm) (by rw [X14.out]; decide) (by rw [X14.out]; decide) rfl) ?_
        clear hg3 hWn
        try replace h1 := own_blw h1 hbn
        try replace h8 := h8.blw hbn
        replace hS := belTr hS (belLo hbn (Nat.le_trans Hn7.out hS.size))
        clear hbn
        refine ⟨hS, ?_⟩
        simp only [List.setIfInBounds_toArray, List.set_cons_zero, List.set_cons_succ]
        try clear Wc
        obtain ⟨Wc, rfl⟩ : ∃ W, W = Wn := ⟨_, rfl⟩
        refine one_op (i := 1) (by kernel_rfl) rfl rfl ?_
        refine call_wp rfl 11 #[.slice A wl.length cap] (by go_simp) ((Hcl.out Wc hS).mono ?_)
        rintro e Wn ⟨v1, rfl, h1', hbn⟩
        try have e8 : some g8 ≠ v1.ownBlock := fun e => by have := (own_out h1' e).1; have := h8.lt; omega
        have h1 := h1'.mono (Nat.le_trans Hn7.out hS.size)
        clear h1'
        try replace h3 := h3.blw hbn
        try replace h8 := h8.blw hbn
        replace hS := belTr hS (belLo hbn (Nat.le_trans Hn7.out hS.size))
        clear hbn
        refine ⟨_, rfl, hS, ?_⟩
        simp only [List.setIfInBounds_toArray, List.set_cons_zero, List.set_cons_succ]
        try clear Wc
        obtain ⟨Wc, rfl⟩ : ∃ W, W = Wn := ⟨_, rfl⟩
        refine one_list (i := 4) (by kernel_rfl) rfl rfl ?_
        at_builtin
        refine wpList_append_row _ rfl _ _ 28 rfl n7 31 i0 _ 14 184 Tryz.underlying28 hi iz isz iby hzs (by decide) v1 _ _ rfl h1 (some ⟨g3, 0, none⟩) 1 1 x.c rfl (by rw [Hlx.out]) h3.src Hx1.out H63.out Hby.out (Nat.le_trans Hn7.out hS.size) ?_
        intro v4 Wn h4 hg4 _
        try replace h8 := h8.grown hg4 e8
        replace hS := below_grown hS h1 hg4 (Nat.le_refl _) (Nat.le_trans Hn7.out hS.size)
        clear hg4 h1 h3
        refine And.intro hS ?_
        simp only [Act.put, List.setIfInBounds_toArray, List.set_cons_zero, List.set_cons_succ]
        try clear Wc
        obtain ⟨Wc, rfl⟩ : ∃ W, W = Wn := ⟨_, rfl⟩
        refine one_op (i := 9) (by kernel_rfl) rfl rfl ?_
        obtain ⟨A4, c4, hov, hr4, _⟩ := own_structs (l := wl ++ [x]) (by simpa using h4) (by simp) Hel.out
        subst hov
        refine call_wp rfl 10 #[.slice A4 (wl.length + 1) c4, .slice (some ⟨g8, 0, none⟩) 3 3] (by go_simp) ((Hnear.out Wc hS A4 c4 g8 (hr4.keep (fun _ _ => rfl) fun k hk => hk.2.2) h8).mono ?_)
        rintro e Wn ⟨b, rfl, hbn, hP⟩
        replace hS := belTr hS (belLo hbn (Nat.le_trans Hn7.out hS.size))
        refine ⟨_, rfl, hS, ?_⟩
        simp only [List.setIfInBounds_toArray, List.set_cons_zero, List.set_cons_succ]
        refine take_op (i := 10) (v := .bool (!b)) rfl rfl (by kernel_rfl) (by kernel_rfl) (by kernel_rfl) (fun _ _ _ h => h) (yields_of rfl fun w' _ => by go_simp) hS ?_
        simp only [List.setIfInBounds_toArray, List.set_cons_zero, List.set_cons_succ]
        refine wpAnyH_done (by kernel_rfl) ?_ _
        go_wp2_with fail
        go_meet
        exact ⟨b, rfl, by rw [hn7]; exact hS, hP⟩
  case rest =>
    obtain ⟨b, rfl, hb8, hP⟩ := hcut
    have B8 : Hid (Below (w.heap.size + 1) w1 wc) := belTr B7.out (belLo hb8 (HL.out w7 B7.out).2)
    have Hend : Hid (∀ W, Below (w.heap.size + 1) w1 W → Below w.heap.size w W) := fun W h => belTr Hb1.out (belLo h (Nat.le_succ _))
    clear Hc1 Hc2 Hc3 Hc4 Hcl Hnear hb8 Hex hsm R2 Y5 U5 Hn7 H63 Hby Hel
    obtain ⟨w8, rfl⟩ : ∃ W, W = wc := ⟨_, rfl⟩
    cases b with
    | false =>
      go_wp2
      go_ret
      exact ⟨rfl, Hend.out _ B8.out⟩
    | true =>
      have HP := Lib.hid (hP rfl)
      clear hP
      have Hpc : Hid (∀ W, Below (w.heap.size + 1) w1 W → Calls Tryz.prog 13 #[.agg x.c.toArray, .int .i64 up] W (ColsPost up x W)) := fun W h => pColumns_any w.heap.size up x W (by have := (HL.out W h).2; omega) (by have := Hn.out; omega) (HL.out W h).1.x
      have Hrc : Hid (∀ W, Below (w.heap.size + 1) w1 W → Calls Tryz.prog 14 #[.agg x.c.toArray, .int .i64 up] W (ColsPost up x W)) := fun W h => rColumns_any w.heap.size up x W (by have := (HL.out W h).2; omega) (by have := Hn.out; omega) (HL.out W h).1.x
      go_upto_region 6 with (fail)
      go_cut [49] (fun v wx => v = .bool false ∧ Below (w.heap.size + 1) w1 wx)
      case first =>
        have hS : (fun W => Below (w.heap.size + 1) w1 W) w8.drew := B8.out.drew
        refine wp_region_held_drew (S := fun W => Below (w.heap.size + 1) w1 W) (by kernel_rfl) hS fun hS => ?_
        show wpAnyH _ .any _ _ _ 8 (Array.replicate 8 false) _ _
        refine take_op (i := 0) (v := .agg x.c.toArray) rfl rfl (by kernel_rfl) (by kernel_rfl) (by kernel_rfl) (fun _ _ _ h => h) (yields_load_part rfl 31 _ rfl _ Tryz.underlying31 rfl _ 0 _ _ x.c rfl (fun W h => HK.out W h) Hi.out (by rw [List.drop_zero, List.take_length])) hS ?_
        simp only [List.setIfInBounds_toArray, List.set_cons_zero, List.set_cons_succ]
        refine take_op (i := 1) (v := .int .i64 up) rfl rfl (by kernel_rfl) (by kernel_rfl) (by kernel_rfl) (fun _ _ _ h => h) (yields_of rfl fun w' _ => by go_simp) hS ?_
        simp only [List.setIfInBounds_toArray, List.set_cons_zero, List.set_cons_succ]
        refine take_op (i := 3) (v := .agg x.c.toArray) rfl rfl (by kernel_rfl) (by kernel_rfl) (by kernel_rfl) (fun _ _ _ h => h) (yields_load_part rfl 31 _ rfl _ Tryz.underlying31 rfl _ 0 _ _ x.c rfl (fun W h => HK.out W h) Hi.out (by rw [List.drop_zero, List.take_length])) hS ?_
        simp only [List.setIfInBounds_toArray, List.set_cons_zero, List.set_cons_succ]
        refine take_op (i := 4) (v := .int .i64 up) rfl rfl (by kernel_rfl) (by kernel_rfl) (by kernel_rfl) (fun _ _ _ h => h) (yields_of rfl fun w' _ => by go_simp) hS ?_
        simp only [List.setIfInBounds_toArray, List.set_cons_zero, List.set_cons_succ]
        obtain ⟨Wc, hWc⟩ : ∃ Wc, w8.drew = Wc := ⟨_, rfl⟩
        rw [hWc] at hS ⊢
        clear hWc
        replace hS : Below (w.heap.size + 1) w1 Wc := hS
        refine one_op (i := 2) (by kernel_rfl) rfl rfl ?_
        refine call_wp rfl 13 #[.agg x.c.toArray, .int .i64 up] (by go_simp) ((Hpc.out Wc hS).mono ?_)
        rintro e Wn ⟨a1, n1, l1, rfl, i1, hbn, s1, m1, _⟩
        try replace i2 := i2.keep (KeepI.below hbn)
        replace hS := belTr hS (belLo hbn (HL.out Wc hS).2)
        clear hbn
        refine ⟨_, rfl, hS, ?_⟩
        simp only [List.setIfInBounds_toArray, List.set_cons_zero, List.set_cons_succ]
        try clear Wc
        obtain ⟨Wc, rfl⟩ : ∃ W, W = Wn := ⟨_, rfl⟩
        refine one_op (i := 5) (by kernel_rfl) rfl rfl ?_
        refine call_wp rfl 14 #[.agg x.c.toArray, .int .i64 up] (by go_simp) ((Hrc.out Wc hS).mono ?_)
        rintro e Wn ⟨a2, n2, l2, rfl, i2, hbn, s2, m2, _⟩
        try replace i1 := i1.keep (KeepI.below hbn)
        replace hS := belTr hS (belLo hbn (HL.out Wc hS).2)
        clear hbn
        refine ⟨_, rfl, hS, ?_⟩
        simp only [List.setIfInBounds_toArray, List.set_cons_zero, List.set_cons_succ]
        try clear Wc
        obtain ⟨Wc, rfl⟩ : ∃ W, W = Wn := ⟨_, rfl⟩
        obtain rfl := cols_agree s1 s2 m1 m2
        refine one_op (i := 6) (by kernel_rfl) rfl rfl ?_
        refine call_wp rfl 12 #[.slice a1 l1.length n1, .slice a2 l1.length n2] (by go_simp) ((equalI_any l1 a1 a2 n1 n2 Wc i1 i2).mono ?_)
        rintro e Wn ⟨rfl, hbn⟩
        replace hS := belTr hS (belLo hbn (HL.out Wc hS).2)
        refine ⟨_, rfl, hS, ?_⟩
        simp only [List.setIfInBounds_toArray, List.set_cons_zero, List.set_cons_succ]
        refine take_op (i := 7) (v := .bool false) rfl rfl (by kernel_rfl) (by kernel_rfl) (by kernel_rfl) (fun _ _ _ h => h) (yields_of rfl fun w' _ => by go_simp) hS ?_
        simp only [List.setIfInBounds_toArray, List.set_cons_zero, List.set_cons_succ]
        refine wpAnyH_done (by kernel_rfl) ?_ _
        go_wp2_with fail
        go_meet
        exact ⟨rfl, hS⟩
      case rest =>
        obtain ⟨rfl, hb9⟩ := hcut
        have B9 := Lib.hid hb9
        clear Hpc Hrc hb9 B8 B7 B6 B5 B4 B3 B2
        obtain ⟨w9, rfl⟩ : ∃ W, W = wc := ⟨_, rfl⟩
        have Hs1 : Hid (∀ W, Below (w.heap.size + 1) w1 W → Calls Tryz.prog 15 #[.agg x.c.toArray, .int .i64 frm, .int .i64 by'] W (ShPost w.heap.size frm by' x W)) := fun W h => shift_any w.heap.size frm by' hfr hby x W (by have := (HL.out W h).2; omega) (by have := Hn.out; omega) (HL.out W h).1.x
        have Hs2 : Hid (∀ W, Below (w.heap.size + 1) w1 W → Calls Tryz.prog 16 #[.agg x.c.toArray, .int .i64 frm, .int .i64 by'] W (ShPost w.heap.size frm by' x W)) := fun W h => rshift_any w.heap.size frm by' hfr hby x W (by have := (HL.out W h).2; omega) (by have := Hn.out; omega) (HL.out W h).1.x
        have hwn : ∀ y, y ∈ wl → y.n ≤ 1048576 := fun y hy => by have := n_mem hy; have := Hn.out; omega
        have Hq1 : Hid (∀ W, Below (w.heap.size + 1) w1 W → Calls Tryz.prog 17 #[.agg x.c.toArray, .slice A wl.length cap] W (SbPost w.heap.size wl x W)) := fun W h => subst_any w.heap.size A cap wl x W (by have := (HL.out W h).2; omega) (by have := Hn.out; omega) (HL.out W h).1.x (HL.out W h).1.r (HL.out W h).1.i hwn
        have Hq2 : Hid (∀ W, Below (w.heap.size + 1) w1 W → Calls Tryz.prog 18 #[.agg x.c.toArray, .slice A wl.length cap] W (RSbPost w.heap.size wl x W)) := fun W h => rsubst_any w.heap.size A cap wl x W (by have := (HL.out W h).2; omega) (by have := Hn.out; omega) (HL.out W h).1.x (HL.out W h).1.r (HL.out W h).1.i hwn
        have Hag : Hid (∀ (y y' : DT) (f f' : Int), _ → _ → (f = f' ∧ (f = 0 ∨ f = 3)) ∧ USm .expr y y') := fun y y' f f' h h' => sb_agree (wl := wl) (x := x) (y := y) (y' := y') (f := f) (f' := f') (by have := Hn.out; omega) (fun z hz => ⟨HP.out z (List.mem_append_left _ hz), hwn z hz⟩) h h'
        clear hwn HP
        go_upto_region 9 with (first
          | (refine wpList_load_part rfl 31 _ rfl _ Tryz.underlying31 rfl _ _ _ _ x.c rfl (HK.out w9 B9.out) Hi.out (by rw [List.drop_zero, List.take_length]) ?_)
          | (go_at_call 15; refine (Hs1.out w9 B9.out).mono ?_; rintro e w10 ⟨y, f, rfl, hb10, hy, hr1⟩
             obtain ⟨w11, hw11⟩ : ∃ w11, w10.alloc (.cells y.c.toArray 31) = w11 := ⟨_, rfl⟩
             have B10 : Hid (Below (w.heap.size + 1) w1 w10) := belTr B9.out (belLo hb10 (HL.out w9 B9.out).2)
             have yi : Hid ((Tryz.prog.info? 31).map (·.size) = some y.c.toArray.size) := (by show _ = _; rw [List.size_toArray, hy.len]; exact uClExpr1)
             have y14 : Hid (y.c.toArray.size = 14) := (by show _ = _; rw [List.size_toArray, hy.len]; rfl)
             have y1 := Lib.hid (all_one hy.ones)
             have HW11 := Lib.hid hw11
             have Hy := Lib.hid hy; have Hr1 := Lib.hid hr1
             clear hb10 hy hr1 hw11)
          | (refine wpList_store_st rfl 31 _ _ rfl _ y.c.toArray yi.out y14.out.symm y1.out rfl rfl ?_; rw [HW11.out]))
        have hz11 : w11.heap.size = w10.heap.size + 1 := by rw [← HW11.out]; simp
        have K11 : Hid (Bk w11 w10.heap.size y.c 31) := by show Bk _ _ _ _; rw [← HW11.out]; exact Bk.new w10 y.c _
        have B11 : Hid (Below (w.heap.size + 1) w1 w11) := by show Below _ _ _; rw [← HW11.out]; exact belTr B10.out (belLo (bel1 _ _) (HL.out w10 B10.out).2)
        have Y11 : Hid (UIn (fun k => k < w10.heap.size) w11 .expr y) := Hy.out.keep (fun k hk => by rw [← HW11.out]; exact Below.heap_alloc w10 _ k hk.2.1) fun k hk => hk.2.1
        have G10 := Lib.hid (HL.out w10 B10.out).2
        clear Hs1 Hy HW11 B10 B9
        go_upto_region 10 with (first
          | (refine wpList_load_part rfl 31 _ rfl _ Tryz.underlying31 rfl _ _ _ _ x.c rfl (HK.out w11 B11.out) Hi.out (by rw [List.drop_zero, List.take_length]) ?_)
          | (go_at_call 16; refine (Hs2.out w11 B11.out).mono ?_; rintro e w12 ⟨z, f', rfl, hb12, hz, hr2⟩
             obtain ⟨w13, hw13⟩ : ∃ w13, w12.alloc (.cells z.c.toArray 31) = w13 := ⟨_, rfl⟩
             have zi : Hid ((Tryz.prog.info? 31).map (·.size) = some z.c.toArray.size) := (by show _ = _; rw [List.size_toArray, hz.len]; exact uClExpr1)
             have z14 : Hid (z.c.toArray.size = 14) := (by show _ = _; rw [List.size_toArray, hz.len]; rfl)
             have z1 := Lib.hid (all_one hz.ones)
             have HW13 := Lib.hid hw13
             have hag := sh_agree Hr1.out hr2
             have Hag1 := Lib.hid hag
             have Hz := Lib.hid hz
             have Hb12 := Lib.hid hb12
             clear hb12 hz hr2 hw13 hag)
          | (refine wpList_store_st rfl 31 _ _ rfl _ z.c.toArray zi.out z14.out.symm z1.out rfl rfl ?_; rw [HW13.out]))
        have hz13 : w13.heap.size = w12.heap.size + 1 := by rw [← HW13.out]; simp
        have hs12 := Hb12.out.size
        have C13 : Hid (Bk w13 w12.heap.size z.c 31) := by show Bk _ _ _ _; rw [← HW13.out]; exact Bk.new w12 z.c _
        have B12 : Hid (Below w11.heap.size w11 w13) := by show Below _ _ _; rw [← HW13.out]; exact belTr Hb12.out (belLo (bel1 _ _) hs12)
        have K13 : Hid (Bk w13 w10.heap.size y.c 31) := K11.out.blw B12.out
        have B13 : Hid (Below (w.heap.size + 1) w1 w13) := belTr B11.out (belLo B12.out (HL.out w11 B11.out).2)
        have Z13 : Hid (UIn (Lv w13) w13 .expr z) := Hz.out.keep (fun k hk => by rw [← HW13.out]; exact Below.heap_alloc w12 _ k hk.2.1) fun k hk => by have := hk.2.1; show _ < _; omega
        have Y13 : Hid (UIn (Lv w13) w13 .expr y) := Y11.out.keep (fun k hk => B12.out.block k (by omega)) fun k hk => by have hk' : k < w10.heap.size := hk; show _ < _; omega
        obtain ⟨⟨hff, hfv⟩, hus⟩ := Hag1.out
        have Hsm := Lib.hid (rSameExpr_sm y z w13 hus Y13.out Z13.out)
        have yi2 : Hid ((Tryz.prog.info? 31).map (·.size) = some y.c.length) := by show _ = _; rw [Y13.out.len]; exact uClExpr1
        have zi2 : Hid ((Tryz.prog.info? 31).map (·.size) = some z.c.length) := by show _ = _; rw [Z13.out.len]; exact uClExpr1
        subst hff
        clear Hag1 hus HW13 Hs2 Hr1 K11 B12 Hb12 Y11 B11 yi zi y1 z1 Hz
        go_upto_region 12 with (first
          | (refine wpList_load_sp rfl 31 _ rfl _ Tryz.underlying31 rfl _ _ _ _ y.c rfl K13.out yi2.out (by rw [List.drop_zero, List.take_length]) ?_)
          | (refine wpList_load_sp rfl 31 _ rfl _ Tryz.underlying31 rfl _ _ _ _ z.c rfl C13.out zi2.out (by rw [List.drop_zero, List.take_length]) ?_)
          | (go_guarded; go_at_call 7; refine Hsm.out.mono ?_; rintro e w14 ⟨rfl, hb14⟩; have Hb14 := Lib.hid hb14; clear hb14))
        have B14 : Hid (Below (w.heap.size + 1) w1 w14) := belTr B13.out (belLo Hb14.out (HL.out w13 B13.out).2)
        have K14 : Hid (Bk w14 w10.heap.size y.c 31) := K13.out.blw Hb14.out
        have C14 : Hid (Bk w14 w12.heap.size z.c 31) := C13.out.blw Hb14.out
        have hs14 := Hb14.out.size
        have g10 := G10.out
        have y14' : Hid (y.c.length = 14) := Y13.out.len
        have z14' : Hid (z.c.length = 14) := Z13.out.len
        clear Hb14 Hsm K13 C13 B13 Y13 Z13 yi2 zi2 y14 z14
        go_upto_region 13 with (first
          | (refine wpList_load_part rfl 31 _ rfl _ Tryz.underlying31 rfl _ _ _ _ x.c rfl (HK.out w14 B14.out) Hi.out (by rw [List.drop_zero, List.take_length]) ?_)
          | (go_at_call 17; refine (Hq1.out w14 B14.out).mono ?_; rintro e w15 ⟨y2, f2, rfl, hb15, hy2, hr3⟩
             have K15 : Hid (Bk w15 w10.heap.size y.c 31) := K14.out.blw hb15
             have C15 : Hid (Bk w15 w12.heap.size z.c 31) := C14.out.blw hb15
             have B15 : Hid (Below (w.heap.size + 1) w1 w15) := belTr B14.out (belLo hb15 (HL.out w14 B14.out).2)
             have Hs15 := Lib.hid hb15.size
             have y2i : Hid ((Tryz.prog.info? 31).map (·.size) = some y2.c.length) := (by show _ = _; rw [hy2.len]; exact uClExpr1)
             have y2l : Hid (y2.c.length = y.c.length) := hy2.len.trans y14'.out.symm
             have y2o : Hid (y2.c.all (·.oneCell') = true) := List.all_eq_true.2 hy2.ones
             have Hy2 := Lib.hid hy2; have Hr3 := Lib.hid hr3
             clear hb15 hy2 hr3)
          | (refine wpList_store_blk rfl 31 _ _ rfl _ _ _ _ y2.c rfl rfl K15.out y2i.out (Nat.le_of_eq ((Nat.zero_add _).trans y2l.out)) y2o.out ?_; intro w16 hw16; rw [setL_all _ _ y2l.out] at hw16; have W16 := Lib.hid hw16; clear hw16))
        have hs15 := Hs15.out
        have hz16 := W16.out.size
        have B16 : Hid (Below (w.heap.size + 1) w1 w16) := belTr B15.out (W16.out.below G10.out)
        have K16 : Hid (Bk w16 w10.heap.size y2.c 31) := W16.out.bk
        have C16 : Hid (Bk w16 w12.heap.size z.c 31) := (W16.out.block w12.heap.size (by omega)).trans C15.out
        have Y16 : Hid (UIn (fun k => (k < w.heap.size ∨ w14.heap.size ≤ k) ∧ k < w16.heap.size) w16 .expr y2) := Hy2.out.keep (fun k hk => W16.out.block k (by have := hk.1; have hk' : k < w.heap.size ∨ w14.heap.size ≤ k := hk.1; omega)) fun k hk => ⟨hk.1, by have := hk.2.1; omega⟩
        clear W16 K15 C15 B15 Hy2 B14 K14 C14 Hq1 Hs15 y2i y2o
        go_upto_region 14 with (first
          | (refine wpList_load_part rfl 31 _ rfl _ Tryz.underlying31 rfl _ _ _ _ x.c rfl (HK.out w16 B16.out) Hi.out (by rw [List.drop_zero, List.take_length]) ?_)
          | (go_at_call 18; refine (Hq2.out w16 B16.out).mono ?_; rintro e w17 ⟨z2, f3, rfl, hb17, hz2, hr4⟩
             have K17 : Hid (Bk w17 w10.heap.size y2.c 31) := K16.out.blw hb17
             have C17 : Hid (Bk w17 w12.heap.size z.c 31) := C16.out.blw hb17
             have B17 : Hid (Below (w.heap.size + 1) w1 w17) := belTr B16.out (belLo hb17 (HL.out w16 B16.out).2)
             have Hb17 := Lib.hid hb17
             have z2i : Hid ((Tryz.prog.info? 31).map (·.size) = some z2.c.length) := (by show _ = _; rw [hz2.len]; exact uClExpr1)
             have z2l : Hid (z2.c.length = z.c.length) := hz2.len.trans z14'.out.symm
             have z2o : Hid (z2.c.all (·.oneCell') = true) := List.all_eq_true.2 hz2.ones
             have Hz2 := Lib.hid hz2
             have Hag2 := Lib.hid (Hag.out y2 z2 f2 f3 Hr3.out hr4)
             clear hb17 hz2 hr4)
          | (refine wpList_store_blk rfl 31 _ _ rfl _ _ _ _ z2.c rfl rfl C17.out z2i.out (Nat.le_of_eq ((Nat.zero_add _).trans z2l.out)) z2o.out ?_; intro w18 hw18; rw [setL_all _ _ z2l.out] at hw18; have W18 := Lib.hid hw18; clear hw18))
        have hs17 := Hb17.out.size
        have hz18 := W18.out.size
        have B18 : Hid (Below (w.heap.size + 1) w1 w18) := belTr B17.out (W18.out.below (by omega))
        have K18 : Hid (Bk w18 w10.heap.size y2.c 31) := (W18.out.block w10.heap.size (by omega)).trans K17.out
        have C18 : Hid (Bk w18 w12.heap.size z2.c 31) := W18.out.bk
        have Y18 : Hid (UIn (Lv w18) w18 .expr y2) := Y16.out.keep (fun k hk => (W18.out.block k (by have hk' : k < w.heap.size ∨ w14.heap.size ≤ k := hk.1; omega)).trans (Hb17.out.block k hk.2)) fun k hk => by have := hk.2; show _ < _; omega
        have Z18 : Hid (UIn (Lv w18) w18 .expr z2) := Hz2.out.keep (fun k hk => W18.out.block k (by have hk' : k < w.heap.size ∨ w16.heap.size ≤ k := hk.1; omega)) fun k hk => by have := hk.2.1; show _ < _; omega
        obtain ⟨⟨hff2, hfv2⟩, hus2⟩ := Hag2.out
        have Hsm2 := Lib.hid (rSameExpr_sm y2 z2 w18 hus2 Y18.out Z18.out)
        have yi3 : Hid ((Tryz.prog.info? 31).map (·.size) = some y2.c.length) := by show _ = _; rw [Y18.out.len]; exact uClExpr1
        have zi3 : Hid ((Tryz.prog.info? 31).map (·.size) = some z2.c.length) := by show _ = _; rw [Z18.out.len]; exact uClExpr1
        subst hff2
        clear W18 K17 C17 B17 Hz2 B16 K16 C16 Y16 Hq2 Hb17 z2i z2o Hag Hag2 Hr3 hus2 y2l z2l y14' z14'
        go_wp2_with (first
          | (refine wpList_load_sp rfl 31 _ rfl _ Tryz.underlying31 rfl _ _ _ _ y2.c rfl K18.out yi3.out (by rw [List.drop_zero, List.take_length]) ?_)
          | (refine wpList_load_sp rfl 31 _ rfl _ Tryz.underlying31 rfl _ _ _ _ z2.c rfl C18.out zi3.out (by rw [List.drop_zero, List.take_length]) ?_)
          | (go_guarded; go_at_call 7; refine Hsm2.out.mono ?_; rintro e w19 ⟨rfl, hb19⟩; have Hb19 := Lib.hid hb19; clear hb19))
        go_ret
        exact ⟨rfl, Hend.out _ (belTr B18.out (belLo Hb19.out (HL.out w18 B18.out).2))⟩
end Go.Proofs.YthijagpnpcpcbaaGreat

