/-
  The reference's mode.column: shifts.
  The reference's Shift.
-/
import Derived.Test.YthijagpnpcpcbaaGreatQRmC
import Derived.Test.YthijagpnpcpcbaaGreatQRmH
import Derived.Deep.DeepCutAuto
namespace Go.Proofs.YthijagpnpcpcbaaGreat
open Go.RowKit Go.Sort
/-- The state of a mode that shifts. -/
def RSh (B mp : Nat) (frm by' : Int) : Cl ((Int × DT → Prop) × Bool) :=
  { CBx B (FlagOk (shBad frm by')) fun s => [(mp, 68, [.int .i64 2, .int .i64 (mx0 frm), .int .i64 by', .slice none 0 0, .slice none 0 0, .bool s.2])] with sh := fun k => k < B, shB := fun _ h => h }
theorem rsh_bx {B mp : Nat} {frm by' : Int} {s : (Int × DT → Prop) × Bool} {W : World} (h : (RSh B mp frm by').St s W) : B ≤ mp ∧ Bk W mp [.int .i64 2, .int .i64 (mx0 frm), .int .i64 by', .slice none 0 0, .slice none 0 0, .bool s.2] 68 := h.2.2 _ (List.mem_singleton.2 rfl)
theorem RSh.st {B mp : Nat} {frm by' : Int} {s s' : (Int × DT → Prop) × Bool} {W W' : World} (h : (RSh B mp frm by').St s W) (hz : W.heap.size ≤ W'.heap.size) (hf : FlagOk (shBad frm by') s') (hb : Bk W' mp [.int .i64 2, .int .i64 (mx0 frm), .int .i64 by', .slice none 0 0, .slice none 0 0, .bool s'.2] 68) : (RSh B mp frm by').St s' W' :=
  ⟨Nat.le_trans h.1 hz, hf, fun p hp => by rw [List.mem_singleton] at hp; subst hp; exact ⟨(rsh_bx h).1, hb⟩⟩
theorem RSh.own {B mp : Nat} {frm by' : Int} {s s' : (Int × DT → Prop) × Bool} {k : Nat} (h : (RSh B mp frm by').O s k) : (RSh B mp frm by').O s' k := by
  obtain ⟨h1, p, hp, rfl⟩ := h
  rw [List.mem_singleton] at hp
  subst hp
  exact ⟨h1, _, List.mem_singleton.2 rfl, rfl⟩
theorem RSh.at {B mp : Nat} {frm by' : Int} {s : (Int × DT → Prop) × Bool} {k : Nat} (h : (RSh B mp frm by').O s k) : k = mp := by
  obtain ⟨h1, p, hp, rfl⟩ := h
  rw [List.mem_singleton] at hp
  subst hp
  rfl
theorem rsh_end {B mp : Nat} {frm by' d : Int} {s : (Int × DT → Prop) × Bool} {W w' : World} {x : DT} {nb : Bool} (hst : (RSh B mp frm by').St s W) (hx : UIn (fun k => k < B) W .expr x) (hk : kd x.c = 2) (hf : Fr (RSh B mp frm by') s W (fun v => s.1 v ∨ v = (d, x), nb) w') {c1 : List Value} (hc : c1 = x.c.set 2 (.int .i64 (shUp frm by' d x))) :
    RColPost (RSh B mp frm by') (fun s v => s.1 v) (fun _ => 0) (shCm frm by') d x s W (.returned (.agg c1.toArray)) w' := by
  subst hc
  have hu : I64 (shUp frm by' d x) := by
    unfold shUp
    split
    · unfold wrap64 I64; omega
    · exact hx.upAt.2.2.2.1
  refine ⟨.node (x.c.set 2 (.int .i64 (shUp frm by' d x))) x.k, _, rfl, hf, ⟨fun v => Iff.rfl, Nat.zero_le _⟩, fun _ => ⟨rfl, ?_, by rw [← hk]; exact kd_set⟩, fun h => by cases h⟩
  have hx' := hx.keep (hf.src hst) fun _ h => h
  obtain ⟨c, k⟩ := x
  exact hx'.setUp hu
set_option maxRecDepth 100000 in
set_option maxHeartbeats 4000000 in
theorem rcol2_any (B mp : Nat) (frm by' : Int) (_hfr : I64 frm) (_hby : I64 by') (s : (Int × DT → Prop) × Bool) (W : World) (d : Int) (x : DT) (_hd : 0 ≤ d) (_hd2 : d ≤ 1048576) (hst : (RSh B mp frm by').St s W) (hx : UIn (fun k => k < B) W .expr x) (hk : kd x.c = 2) :
    Calls Tryz.prog 54 #[.pointer (some ⟨mp, 0, none⟩), .agg x.c.toArray, .int .i64 d] W (RColPost (RSh B mp frm by') (fun s v => s.1 v) (fun _ => 0) (shCm frm by') d x s W) := by
  obtain ⟨w1, hw1⟩ : ∃ w1, W.alloc (.cells x.c.toArray 31) = w1 := ⟨_, rfl⟩
  obtain ⟨w2, hw2⟩ : ∃ w2, w1.alloc (.cells #[.int .i64 0, .int .i64 0, .int .i64 0, .int .i64 0, .int .i64 0, .int .i64 0, .slice none 0 0, .int .i64 0, .int .i64 0, .int .i64 0, .string ⟨#[]⟩, .slice none 0 0, .slice none 0 0, .slice none 0 0] 31) = w2 := ⟨_, rfl⟩
  have hz1 : w1.heap.size = W.heap.size + 1 := by rw [← hw1]; simp
  have hz2 : w2.heap.size = W.heap.size + 2 := by rw [← hw2]; simp [hz1]
  have hb1 : Bk w2 W.heap.size x.c 31 := by rw [← hw2, ← hw1]; exact (Bk.new W x.c _).alloc _
  have hb2 : Bk w2 (W.heap.size + 1) zEx 31 := by rw [← hw2, ← hz1]; exact Bk.new w1 zEx _
  have hbw : Below W.heap.size W w2 := by rw [← hw2, ← hw1]; exact ((Below.refl _ _).alloc (Nat.le_refl _) _).alloc (by simp) _
  have hst2 := (Fr.below hst hbw).st
  have hlen : x.c.length = 14 := hx.len
  obtain ⟨u0, u2, _, iu, _⟩ := hx.upAt
  have hm := (rsh_bx hst2).2
  have lm := (rsh_bx hst).2.lt
  have Hi : Hid ((Tryz.prog.info? 31).map (·.size) = some x.c.length) := by show _ = _; rw [hlen]; exact uClExpr1
  have Hx3 : Hid (x.c.all (·.oneCell') = true) := by have := all_one hx.ones; show _ = _; simpa using this
  obtain ⟨sm, fl⟩ := s
  obtain ⟨up, hup⟩ : ∃ up, upOf x.c = up := ⟨_, rfl⟩
  rw [hup] at u2 iu
  have hlv : lvl (d, x) = wrap64 (up - d) := by show wrap64 (upOf x.c - d) = _; rw [hup]
  obtain ⟨mm, hmm⟩ : ∃ mm, mx0 frm = mm := ⟨_, rfl⟩
  rw [hmm] at hm
  have uInt1 := Lib.hid uInt1
  have uBool1 := Lib.hid uBool1
  have Hst := Lib.hid hst
  have H1 := Lib.hid hb1
  have H2 := Lib.hid hb2
  have Hm := Lib.hid hm
  have Hx := Lib.hid hx
  have U2 := Lib.hid u2
  have Hlv := Lib.hid hlv
  have Hup := Lib.hid hup
  have Hmm := Lib.hid hmm
  have Iu := Lib.hid iu
  have Hl := Lib.hid hlen
  have Hk := Lib.hid hk
  have Hbw := Lib.hid hbw
  clear hb1 hb2 hbw hst2 hlen u0 u2 iu hm hx hk hst hlv hup hmm
  go_enter Tryz.func54, Tryz.ntmps54
  go_upto_region 7 with (first
    | (refine wpList_load_one rfl 3 _ rfl _ Tryz.underlying3 rfl _ 2 _ _ _ rfl H1.out U2.out ?_)
    | (refine wpList_load_one rfl 3 _ rfl _ Tryz.underlying3 rfl _ 0 _ _ _ rfl Hm.out rfl ?_))
  by_cases hle : mm ≤ wrap64 (up - d)
  · have hle' := Lib.hid hle
    have Inu : Hid (I64 (wrap64 (up + by'))) := by show I64 _; unfold wrap64 I64; omega
    have Hc : Hid ((x.c.set 2 (.int .i64 (wrap64 (up + by'))))[2]? = some (.int .i64 (wrap64 (up + by')))) := by show _ = _; rw [List.getElem?_set_self (by rw [Hl.out]; decide)]
    have Hxs : Hid (UIn (fun k => k < B) W .expr (.node (x.c.set 2 (.int .i64 (wrap64 (up + by')))) x.k)) := by
      cases x
      exact Hx.out.setUp Inu.out
    have Hi1 : Hid ((Tryz.prog.info? 31).map (·.size) = some (x.c.set 2 (.int .i64 (wrap64 (up + by')))).length) := by show _ = _; rw [List.length_set]; exact Hi.out
    have Ha1 : Hid ((x.c.set 2 (.int .i64 (wrap64 (up + by')))).all (·.oneCell') = true) := List.all_eq_true.2 fun u hu => Hxs.out.ones u hu
    have Hc1 : Hid (x.c.set 2 (.int .i64 (wrap64 (up + by'))) = x.c.set 2 (.int .i64 (shUp frm by' d x))) := by show _ = _; unfold shUp; rw [Hlv.out, Hmm.out, if_pos hle, Hup.out]
    cases fl with
    | true =>
      go_upto_region 8 with (refine wpList_load_one rfl 3 _ rfl _ Tryz.underlying3 rfl _ 1 _ _ _ rfl Hm.out rfl ?_)
      have hD : Bk w2 W.heap.size x.c 31 ∧ Bk w2 mp [.int .i64 2, .int .i64 mm, .int .i64 by', .slice none 0 0, .slice none 0 0, .bool true] 68 := ⟨H1.out, Hm.out⟩
      refine wp_region_split 8 (fun w' => Bk w' W.heap.size x.c 31 ∧ Bk w' mp [.int .i64 2, .int .i64 mm, .int .i64 by', .slice none 0 0, .slice none 0 0, .bool true] 68) (by kernel_rfl) (by kernel_rfl) ?_
      simp only [List.take_succ_cons, List.take_zero, List.drop_succ_cons, List.drop_zero]
      refine take_op (i := 0) (v := .pointer (some ⟨W.heap.size, 2, none⟩)) rfl rfl (by kernel_rfl) (by kernel_rfl) (by kernel_rfl) (fun _ _ _ h => h) (yields_of rfl fun w' _ => by go_simp) hD ?_
      simp only [List.setIfInBounds_toArray, List.set_cons_zero, List.set_cons_succ]
      refine take_op (i := 1) (v := .int .i64 up) rfl rfl (by kernel_rfl) (by kernel_rfl) (by kernel_rfl) (fun _ _ _ h => h) (yields_load_one rfl 3 _ rfl _ Tryz.underlying3 rfl _ _ _ _ _ rfl (fun _ h => h.1) U2.out) hD ?_
      simp only [List.setIfInBounds_toArray, List.set_cons_zero, List.set_cons_succ]
      refine take_op (i := 2) (v := .pointer (some ⟨mp, 0, none⟩)) rfl rfl (by kernel_rfl) (by kernel_rfl) (by kernel_rfl) (fun _ _ _ h => h) (yields_of rfl fun w' _ => by go_simp) hD ?_
      simp only [List.setIfInBounds_toArray, List.set_cons_zero, List.set_cons_succ]
      refine take_op (i := 3) (v := .pointer (some ⟨mp, 0, none⟩)) rfl rfl (by kernel_rfl) (by kernel_rfl) (by kernel_rfl) (fun _ _ _ h => h) (yields_of rfl fun w' _ => by go_simp) hD ?_
      simp only [List.setIfInBounds_toArray, List.set_cons_zero, List.set_cons_succ]
      refine take_op (i := 4) (v := .pointer (some ⟨mp, 2, none⟩)) rfl rfl (by kernel_rfl) (by kernel_rfl) (by kernel_rfl) (fun _ _ _ h => h) (yields_of rfl fun w' _ => by go_simp) hD ?_
      simp only [List.setIfInBounds_toArray, List.set_cons_zero, List.set_cons_succ]
      refine take_op (i := 5) (v := .int .i64 by') rfl rfl (by kernel_rfl) (by kernel_rfl) (by kernel_rfl) (fun _ _ _ h => h) (yields_load_one rfl 3 _ rfl _ Tryz.underlying3 rfl _ _ _ _ _ rfl (fun _ h => h.2) rfl) hD ?_
      simp only [List.setIfInBounds_toArray, List.set_cons_zero, List.set_cons_succ]
      refine take_op (i := 6) (v := .int .i64 (wrap64 (up + by'))) rfl rfl (by kernel_rfl) (by kernel_rfl) (by kernel_rfl) (fun _ _ _ h => h) (yields_of rfl fun w' _ => by go_simp; first | exact IntWalk.i64_left _ | (unfold wrap64; rw [IntKind.wrap_i64]; done)) hD ?_
      simp only [List.setIfInBounds_toArray, List.set_cons_zero, List.set_cons_succ]
      refine take_op (i := 7) (v := .pointer (some ⟨W.heap.size, 2, none⟩)) rfl rfl (by kernel_rfl) (by kernel_rfl) (by kernel_rfl) (fun _ _ _ h => h) (yields_of rfl fun w' _ => by go_simp) hD ?_
      simp only [List.setIfInBounds_toArray, List.set_cons_zero, List.set_cons_succ]
      refine done_op (by kernel_rfl) ?_
      have D1 : Hid (Bk w2.drew W.heap.size x.c 31) := hD.1
      have D2 : Hid (Bk w2.drew mp [.int .i64 2, .int .i64 mm, .int .i64 by', .slice none 0 0, .slice none 0 0, .bool true] 68) := hD.2
      have D3 : Hid (Bk w2.drew (W.heap.size + 1) zEx 31) := H2.out
      have D4 : Hid (Below W.heap.size W w2.drew) := Hbw.out.drew
      clear hD H1 H2 Hm
      generalize w2.drew = wd at D1 D2 D3 D4 ⊢
      go_wp2_with (first
        | (refine wpList_store_blk rfl 3 _ _ rfl _ 2 _ _ [.int .i64 (wrap64 (up + by'))] rfl rfl D1.out uInt1.out (by rw [Hl.out]; simp) rfl ?_; intro w3 hw3; have k1 := Lib.hid hw3.bk; have kc : w3.cell? ⟨W.heap.size, 2, none⟩ = some (.int .i64 (wrap64 (up + by'))) := (by rw [hw3.bk.cell]; exact Hc.out); have k8 := Lib.hid (D2.out.wrt hw3 (by omega)); have k2 := Lib.hid (D3.out.wrt hw3 (by omega)))
        | (refine wpList_load_one rfl 4 _ rfl _ Tryz.underlying4 rfl _ 5 _ _ _ rfl k8.out rfl ?_)
        | (show wpList _ _ _ (⟨none, .store 4 _ _, _, _, _, _⟩ :: _) _ _; refine wpList_store_blk rfl 4 _ _ rfl _ 5 _ _ [.bool true] rfl rfl k8.out uBool1.out (by simp) rfl ?_; intro w4 hw4; have j1 := Lib.hid (k1.out.wrt hw4 (by omega)); have j2 := Lib.hid (k2.out.wrt hw4 (by omega)); have HW3 := Lib.hid hw3; have HW4 := Lib.hid hw4; clear hw3 hw4)
        | (refine wpList_load_part rfl 31 _ rfl _ Tryz.underlying31 rfl _ _ _ _ (x.c.set 2 (.int .i64 (wrap64 (up + by')))) rfl j1.out Hi1.out (by rw [List.drop_zero, List.take_of_length_le (by simp [setL])]; rfl) ?_)
        | (refine wpList_store_blk rfl 31 _ _ rfl _ _ _ _ (x.c.set 2 (.int .i64 (wrap64 (up + by')))) rfl rfl j2.out Hi1.out (by rw [List.length_set, Hl.out]; decide) Ha1.out ?_; intro w5 hw5))
      rw [setL_all _ _ (by rw [List.length_set, Hl.out]; rfl)] at hw5
      refine bodyPost_blk rfl (W.heap.size + 1) (x.c.set 2 (.int .i64 (wrap64 (up + by')))) _ rfl _ hw5.bk Tryz.underlying31 rfl Hi1.out rfl ?_
      have hBB : (RSh B mp frm by').B ≤ W.heap.size := Hst.out.1
      have hno : ∀ k, W.heap.size ≤ k → ∀ s', ¬ (RSh B mp frm by').O s' k := fun k hk s' e => by have := RSh.at e; omega
      have f1 := (Fr.below Hst.out D4.out).wrt HW3.out (Nat.le_refl _) (hno _ (Nat.le_refl _) _)
      have q8 := (rsh_bx Hst.out).1
      have hb4 := HW4.out.bk
      have f2 := f1.wrtO (s' := (fun v => sm v ∨ v = (d, x), true)) HW4.out ⟨q8, _, List.mem_singleton.2 rfl, rfl⟩ (fun k hk => RSh.own hk) (RSh.st Hst.out (by rw [HW4.out.size]; exact f1.size) (FlagOk.step Hst.out.2.1 ⟨fun _ => .inl rfl, fun _ => rfl⟩) (by rw [Hmm.out]; exact hb4))
      exact rsh_end Hst.out Hx.out Hk.out (f2.wrt hw5 (by omega) (hno _ (by omega) _)) Hc1.out
    | false =>
      have HB : Hid (shBad frm by' (d, x) ↔ wrap64 (up + by') < 0) := by
        show _ ↔ _
        unfold shBad
        rw [Hlv.out, Hmm.out, Hup.out]
        exact ⟨fun h => h.2, fun h => ⟨hle, h⟩⟩
      go_upto_region 8 with (refine wpList_load_one rfl 3 _ rfl _ Tryz.underlying3 rfl _ 1 _ _ _ rfl Hm.out rfl ?_)
      have hD : Bk w2 W.heap.size x.c 31 ∧ Bk w2 mp [.int .i64 2, .int .i64 mm, .int .i64 by', .slice none 0 0, .slice none 0 0, .bool false] 68 := ⟨H1.out, Hm.out⟩
      refine wp_region_split 8 (fun w' => Bk w' W.heap.size x.c 31 ∧ Bk w' mp [.int .i64 2, .int .i64 mm, .int .i64 by', .slice none 0 0, .slice none 0 0, .bool false] 68) (by kernel_rfl) (by kernel_rfl) ?_
      simp only [List.take_succ_cons, List.take_zero, List.drop_succ_cons, List.drop_zero]
      refine take_op (i := 0) (v := .pointer (some ⟨W.heap.size, 2, none⟩)) rfl rfl (by kernel_rfl) (by kernel_rfl) (by kernel_rfl) (fun _ _ _ h => h) (yields_of rfl fun w' _ => by go_simp) hD ?_
      simp only [List.setIfInBounds_toArray, List.set_cons_zero, List.set_cons_succ]
      refine take_op (i := 1) (v := .int .i64 up) rfl rfl (by kernel_rfl) (by kernel_rfl) (by kernel_rfl) (fun _ _ _ h => h) (yields_load_one rfl 3 _ rfl _ Tryz.underlying3 rfl _ _ _ _ _ rfl (fun _ h => h.1) U2.out) hD ?_
      simp only [List.setIfInBounds_toArray, List.set_cons_zero, List.set_cons_succ]
      refine take_op (i := 2) (v := .pointer (some ⟨mp, 0, none⟩)) rfl rfl (by kernel_rfl) (by kernel_rfl) (by kernel_rfl) (fun _ _ _ h => h) (yields_of rfl fun w' _ => by go_simp) hD ?_
      simp only [List.setIfInBounds_toArray, List.set_cons_zero, List.set_cons_succ]
      refine take_op (i := 3) (v := .pointer (some ⟨mp, 0, none⟩)) rfl rfl (by kernel_rfl) (by kernel_rfl) (by kernel_rfl) (fun _ _ _ h => h) (yields_of rfl fun w' _ => by go_simp) hD ?_
      simp only [List.setIfInBounds_toArray, List.set_cons_zero, List.set_cons_succ]
      refine take_op (i := 4) (v := .pointer (some ⟨mp, 2, none⟩)) rfl rfl (by kernel_rfl) (by kernel_rfl) (by kernel_rfl) (fun _ _ _ h => h) (yields_of rfl fun w' _ => by go_simp) hD ?_
      simp only [List.setIfInBounds_toArray, List.set_cons_zero, List.set_cons_succ]
      refine take_op (i := 5) (v := .int .i64 by') rfl rfl (by kernel_rfl) (by kernel_rfl) (by kernel_rfl) (fun _ _ _ h => h) (yields_load_one rfl 3 _ rfl _ Tryz.underlying3 rfl _ _ _ _ _ rfl (fun _ h => h.2) rfl) hD ?_
      simp only [List.setIfInBounds_toArray, List.set_cons_zero, List.set_cons_succ]
      refine take_op (i := 6) (v := .int .i64 (wrap64 (up + by'))) rfl rfl (by kernel_rfl) (by kernel_rfl) (by kernel_rfl) (fun _ _ _ h => h) (yields_of rfl fun w' _ => by go_simp; first | exact IntWalk.i64_left _ | (unfold wrap64; rw [IntKind.wrap_i64]; done)) hD ?_
      simp only [List.setIfInBounds_toArray, List.set_cons_zero, List.set_cons_succ]
      refine take_op (i := 7) (v := .pointer (some ⟨W.heap.size, 2, none⟩)) rfl rfl (by kernel_rfl) (by kernel_rfl) (by kernel_rfl) (fun _ _ _ h => h) (yields_of rfl fun w' _ => by go_simp) hD ?_
      simp only [List.setIfInBounds_toArray, List.set_cons_zero, List.set_cons_succ]
      refine done_op (by kernel_rfl) ?_
      have D1 : Hid (Bk w2.drew W.heap.size x.c 31) := hD.1
      have D2 : Hid (Bk w2.drew mp [.int .i64 2, .int .i64 mm, .int .i64 by', .slice none 0 0, .slice none 0 0, .bool false] 68) := hD.2
      have D3 : Hid (Bk w2.drew (W.heap.size + 1) zEx 31) := H2.out
      have D4 : Hid (Below W.heap.size W w2.drew) := Hbw.out.drew
      clear hD H1 H2 Hm
      generalize w2.drew = wd at D1 D2 D3 D4 ⊢
      go_wp2_with (first
        | (refine wpList_store_blk rfl 3 _ _ rfl _ 2 _ _ [.int .i64 (wrap64 (up + by'))] rfl rfl D1.out uInt1.out (by rw [Hl.out]; simp) rfl ?_; intro w3 hw3; have k1 := Lib.hid hw3.bk; have kc : w3.cell? ⟨W.heap.size, 2, none⟩ = some (.int .i64 (wrap64 (up + by'))) := (by rw [hw3.bk.cell]; exact Hc.out); have k8 := Lib.hid (D2.out.wrt hw3 (by omega)); have k2 := Lib.hid (D3.out.wrt hw3 (by omega)))
        | (refine wpList_load_one rfl 4 _ rfl _ Tryz.underlying4 rfl _ 5 _ _ _ rfl k8.out rfl ?_)
        | (show wpList _ _ _ (⟨none, .store 4 _ _, _, _, _, _⟩ :: _) _ _; refine wpList_store_blk rfl 4 _ _ rfl _ 5 _ _ [.bool (decide (wrap64 (up + by') < 0))] rfl rfl k8.out uBool1.out (by simp) rfl ?_; intro w4 hw4; have j1 := Lib.hid (k1.out.wrt hw4 (by omega)); have j2 := Lib.hid (k2.out.wrt hw4 (by omega)); have HW3 := Lib.hid hw3; have HW4 := Lib.hid hw4; clear hw3 hw4)
        | (refine wpList_load_part rfl 31 _ rfl _ Tryz.underlying31 rfl _ _ _ _ (x.c.set 2 (.int .i64 (wrap64 (up + by')))) rfl j1.out Hi1.out (by rw [List.drop_zero, List.take_of_length_le (by simp [setL])]; rfl) ?_)
        | (refine wpList_store_blk rfl 31 _ _ rfl _ _ _ _ (x.c.set 2 (.int .i64 (wrap64 (up + by')))) rfl rfl j2.out Hi1.out (by rw [List.length_set, Hl.out]; decide) Ha1.out ?_; intro w5 hw5))
      rw [setL_all _ _ (by rw [List.length_set, Hl.out]; rfl)] at hw5
      refine bodyPost_blk rfl (W.heap.size + 1) (x.c.set 2 (.int .i64 (wrap64 (up + by')))) _ rfl _ hw5.bk Tryz.underlying31 rfl Hi1.out rfl ?_
      have hBB : (RSh B mp frm by').B ≤ W.heap.size := Hst.out.1
      have hno : ∀ k, W.heap.size ≤ k → ∀ s', ¬ (RSh B mp frm by').O s' k := fun k hk s' e => by have := RSh.at e; omega
      have f1 := (Fr.below Hst.out D4.out).wrt HW3.out (Nat.le_refl _) (hno _ (Nat.le_refl _) _)
      have q8 := (rsh_bx Hst.out).1
      have hb4 := HW4.out.bk
      have f2 := f1.wrtO (s' := (fun v => sm v ∨ v = (d, x), (decide (wrap64 (up + by') < 0)))) HW4.out ⟨q8, _, List.mem_singleton.2 rfl, rfl⟩ (fun k hk => RSh.own hk) (RSh.st Hst.out (by rw [HW4.out.size]; exact f1.size) (FlagOk.step Hst.out.2.1 (by rw [HB.out]; simp)) (by rw [Hmm.out]; exact hb4))
      exact rsh_end Hst.out Hx.out Hk.out (f2.wrt hw5 (by omega) (hno _ (by omega) _)) Hc1.out
  · have Hc1 : Hid (x.c = x.c.set 2 (.int .i64 (shUp frm by' d x))) := by show _ = _; unfold shUp; rw [Hlv.out, Hmm.out, if_neg hle, set_up Hx.out]
    have Hnb : Hid (¬ shBad frm by' (d, x)) := by show ¬ _; unfold shBad; rw [Hlv.out, Hmm.out]; exact fun h => hle h.1
    go_wp2_with (first
      | (refine wpList_load_one rfl 3 _ rfl _ Tryz.underlying3 rfl _ 1 _ _ _ rfl Hm.out rfl ?_)
      | (refine wpList_load_part rfl 31 _ rfl _ Tryz.underlying31 rfl _ _ _ _ x.c rfl H1.out Hi.out (by rw [List.drop_zero, List.take_length]) ?_)
      | (refine wpList_store_blk rfl 31 _ _ rfl _ _ _ _ x.c rfl rfl H2.out Hi.out (by rw [Hl.out]; decide) Hx3.out ?_; intro w5 hw5))
    rw [setL_all _ _ (by rw [Hl.out]; rfl)] at hw5
    refine bodyPost_blk rfl (W.heap.size + 1) x.c _ rfl _ hw5.bk Tryz.underlying31 rfl Hi.out rfl ?_
    have hBB : (RSh B mp frm by').B ≤ W.heap.size := Hst.out.1
    have hno : ∀ k, W.heap.size ≤ k → ∀ s', ¬ (RSh B mp frm by').O s' k := fun k hk s' e => by have := RSh.at e; omega
    have f1 := Fr.below Hst.out Hbw.out
    have hm2 := Hm.out
    have f2 := f1.st' (s' := (fun v => sm v ∨ v = (d, x), fl)) (fun k hk => RSh.own hk) (RSh.st Hst.out f1.size (FlagOk.step Hst.out.2.1 ⟨.inl, fun h => h.elim id fun h => absurd h Hnb.out⟩) (by rw [Hmm.out]; exact hm2))
    exact rsh_end Hst.out Hx.out Hk.out (f2.wrt hw5 (by omega) (hno _ (by omega) _)) Hc1.out
end Go.Proofs.YthijagpnpcpcbaaGreat
namespace Go.Proofs.YthijagpnpcpcbaaGreat
open Go.RowKit Go.Sort
/-- Shift's mode. -/
def MdSh (B mp : Nat) (frm by' : Int) (hfr : I64 frm) (hby : I64 by') : Mde ((Int × DT → Prop) × Bool) where
  C := RSh B mp frm by'
  mem := fun s v => s.1 v
  cnt := fun _ => 0
  mp := mp
  knd := 2
  shr := fun _ h => h
  m := shCm frm by'
  kat := fun _ _ h => ⟨_, (rsh_bx h).2, rfl⟩
  dnk := fun _ _ => by simp [shCm]
  col := fun s W d x hd hd2 hst hx _ hk _ => rcol2_any B mp frm by' hfr hby s W d x hd hd2 hst hx hk
theorem zEx_build : (Tryz.prog.info? 31).map (·.size) = some zEx.length := by kernel_rfl
set_option maxRecDepth 100000 in
set_option maxHeartbeats 4000000 in
theorem rshift_any (B : Nat) (frm by' : Int) (hfr : I64 frm) (hby : I64 by') (x : DT) (w : World) (hB : B ≤ w.heap.size) (hn : x.n ≤ 1048576) (hx : UIn (fun k => k < B) w .expr x) : Calls Tryz.prog 16 #[.agg x.c.toArray, .int .i64 frm, .int .i64 by'] w (ShPost B frm by' x w) := by
  obtain ⟨mm, hmm⟩ : ∃ mm, mx0 frm = mm := ⟨_, rfl⟩
  obtain ⟨w1, hw1⟩ : ∃ w1, w.alloc (.cells x.c.toArray 31) = w1 := ⟨_, rfl⟩
  obtain ⟨w2, hw2⟩ : ∃ w2, w1.alloc (.cells #[.int .i64 0, .int .i64 0, .int .i64 0, .int .i64 0, .int .i64 0, .int .i64 0, .slice none 0 0, .int .i64 0, .int .i64 0, .int .i64 0, .string ⟨#[]⟩, .slice none 0 0, .slice none 0 0, .slice none 0 0] 31) = w2 := ⟨_, rfl⟩
  obtain ⟨w3, hw3⟩ : ∃ w3, w2.alloc (.cells #[.int .i64 2, .int .i64 mm, .int .i64 by', .slice none 0 0, .slice none 0 0, .bool false] 68) = w3 := ⟨_, rfl⟩
  have hz1 : w1.heap.size = w.heap.size + 1 := by rw [← hw1]; simp
  have hz2 : w2.heap.size = w.heap.size + 2 := by rw [← hw2]; simp [hz1]
  have hz3 : w3.heap.size = w.heap.size + 3 := by rw [← hw3]; simp [hz2]
  have k1 : Hid (Bk w3 w.heap.size x.c 31) := by show Bk _ _ _ _; rw [← hw3, ← hw2, ← hw1]; exact ((Bk.new w x.c _).alloc _).alloc _
  have k2 : Hid (Bk w3 (w.heap.size + 1) zEx 31) := by show Bk _ _ _ _; rw [← hw3, ← hw2, ← hz1]; exact (Bk.new w1 zEx _).alloc _
  have k3 : Bk w3 (w.heap.size + 2) [.int .i64 2, .int .i64 mm, .int .i64 by', .slice none 0 0, .slice none 0 0, .bool false] 68 := by rw [← hw3, ← hz2]; exact Bk.new w2 [.int .i64 2, .int .i64 mm, .int .i64 by', .slice none 0 0, .slice none 0 0, .bool false] _
  have hbw : Hid (Below w.heap.size w w3) := by show Below _ _ _; rw [← hw3, ← hw2, ← hw1]; exact (((Below.refl _ _).alloc (Nat.le_refl _) _).alloc (by simp) _).alloc (by simp; omega) _
  have Hi : Hid ((Tryz.prog.info? 31).map (·.size) = some x.c.length) := by show _ = _; rw [hx.len]; exact uClExpr1
  have Hie := Lib.hid zEx_build
  have Hcl : Hid (Calls Tryz.prog 33 #[.pointer (some ⟨w.heap.size + 2, 0, none⟩), .agg x.c.toArray, .int .i64 0] w3 fun e w9 => ∃ (y : DT) (fl : Bool), e = .returned (.agg y.c.toArray) ∧
        Below w.heap.size w w9 ∧ w.heap.size + 3 ≤ w9.heap.size ∧ UIn (Nw (CBs B) (w.heap.size + 3) () w9) w9 .expr y ∧ Mp (shCm frm by') .expr 0 x y ∧ (fl = true ↔ ∃ v, Vs (shCm frm by') .expr 0 x v ∧ shBad frm by' v) ∧ Bk w9 (w.heap.size + 2) [.int .i64 2, .int .i64 mm, .int .i64 by', .slice none 0 0, .slice none 0 0, .bool fl] 68 ∧ Bk w9 (w.heap.size + 1) zEx 31) := by
    have hst : (MdSh B (w.heap.size + 2) frm by' hfr hby).C.St (fun _ => False, false) w3 :=
      ⟨by rw [hz3]; omega, Iff.intro (fun h => by cases h) (fun h => h.choose_spec.1.elim), fun p hp => by rw [List.mem_singleton] at hp; subst hp; exact ⟨by show B ≤ w.heap.size + 2; omega, by rw [hmm]; exact k3⟩⟩
    refine (rmexpr_any (MdSh B (w.heap.size + 2) frm by' hfr hby) x 0 (fun _ => False, false) w3 (Int.le_refl _) (by omega) hst (hx.keep (fun k hk => hbw.out.block k (by omega)) fun _ h => h) (by show 0 + _ ≤ _; omega)).mono ?_
    rintro e w9 ⟨y, s', rfl, hf, hv, hy, hm⟩
    have hs9 := hf.size
    have hbx := rsh_bx hf.st
    refine ⟨y, s'.2, rfl, ⟨hf.os.trans hbw.out.os, hf.tape.trans hbw.out.tape, hf.output.trans hbw.out.output, by omega, fun k hk => (hf.block k (by omega) fun e => by have := RSh.at e; omega).trans (hbw.out.block k hk)⟩, by omega, hy.keep (fun _ _ => rfl) fun k hk => ?_, hm, ?_, by have := hbx.2; rw [hmm] at this; exact this, k2.out.fr hf fun e => by have := RSh.at e; omega⟩
    · obtain ⟨h1, h2, _⟩ := hk
      refine ⟨?_, h2, fun e => e⟩
      rcases h1 with h1 | h1
      · exact .inl h1
      · exact .inr (by omega)
    · rw [show s'.2 = true ↔ ∃ v, s'.1 v ∧ shBad frm by' v from hf.st.2.1]
      constructor
      · rintro ⟨v, h1, h2⟩
        exact ⟨v, ((hv.1 v).1 h1).resolve_left fun h => h, h2⟩
      · rintro ⟨v, h1, h2⟩
        exact ⟨v, (hv.1 v).2 (.inr h1), h2⟩
  have hmx : max frm 0 = mm := by rw [← hmm]; unfold mx0; split <;> omega
  clear hx k3 hmm
  go_enter Tryz.func16, Tryz.ntmps16
  go_upto_region 2 with (fail)
  clear hmx
  go_upto_if 21 with (first
    | (refine wpList_load_part rfl 31 _ rfl _ Tryz.underlying31 rfl _ _ _ _ x.c rfl k1.out Hi.out (by rw [List.drop_zero, List.take_length]) ?_)
    | (go_at_call 33; refine Hcl.out.mono ?_; rintro e w9 ⟨y, fl, rfl, b9, hz9, hy, hm, hfl, c5, c4⟩; have Hy := Lib.hid hy; have y14 : Hid (y.c.toArray.size = 14) := (by show _ = _; rw [List.size_toArray, hy.len]; rfl); have yi : Hid ((Tryz.prog.info? 31).map (·.size) = some y.c.length) := (by show _ = _; rw [hy.len]; exact uClExpr1); have y1 := Lib.hid (all_one hy.ones); have C5 := Lib.hid c5; have C4 := Lib.hid c4; have Hm := Lib.hid hm; have Hfl := Lib.hid hfl; have B9 := Lib.hid b9; clear hy c5 c4 hm hfl b9)
    | (refine wpList_store_st rfl 31 _ _ rfl _ y.c.toArray (by simpa using yi.out) y14.out.symm y1.out rfl rfl ?_; obtain ⟨wa, hwa⟩ : ∃ wa, w9.alloc (.cells y.c.toArray 31) = wa := ⟨_, rfl⟩; have D5 : Hid (Bk wa (w.heap.size + 2) [.int .i64 2, .int .i64 mm, .int .i64 by', .slice none 0 0, .slice none 0 0, .bool fl] 68) := (by show Bk _ _ _ _; rw [← hwa]; exact C5.out.alloc _); have D4 : Hid (Bk wa (w.heap.size + 1) zEx 31) := (by show Bk _ _ _ _; rw [← hwa]; exact C4.out.alloc _); have D6 : Hid (Bk wa w9.heap.size y.c 31) := (by show Bk _ _ _ _; rw [← hwa]; exact Bk.new w9 y.c _); have Ha := Lib.hid hwa; rw [hwa])
    | (refine wpList_load_one rfl 4 _ rfl _ Tryz.underlying4 rfl _ 5 _ _ _ rfl D5.out rfl ?_))
  have Hbx : Hid (Below w.heap.size w wa) := by show Below _ _ _; rw [← Ha.out]; exact B9.out.alloc (by omega) _
  have HyA : Hid (UIn (Nw (CBs B) (w.heap.size + 3) () wa) wa .expr y) := by
    show UIn _ _ _ _
    refine Hy.out.keep (fun k hk => ?_) fun k hk => ⟨hk.1, ?_, hk.2.2⟩
    · rw [← Ha.out]; exact Below.heap_alloc w9 _ k hk.2.1
    · rw [← Ha.out]; have := hk.2.1; simp; omega
  cases fl with
  | true =>
    go_wp2_with (refine wpList_store_blk rfl 31 _ _ rfl _ 0 _ _ zEx rfl rfl D4.out Hie.out (by simp [zEx]) rfl ?_; intro wb hwb)
    refine bodyPost_blk2 rfl (w.heap.size + 1) zEx _ (.int .i64 3) rfl rfl _ hwb.bk Tryz.underlying31 rfl Hie.out rfl ?_
    exact ⟨zTr, 3, rfl, Fr.toBelow Hbx.out hwb (by omega), zTr_in _ _, .inl ⟨Hfl.out.1 (by simp), rfl, rfl⟩⟩
  | false =>
    go_wp2_with (first
      | (refine wpList_load_part rfl 31 _ rfl _ Tryz.underlying31 rfl _ _ _ _ y.c rfl D6.out yi.out (by rw [List.drop_zero, List.take_length]) ?_)
      | (refine wpList_store_blk rfl 31 _ _ rfl _ 0 _ _ y.c rfl rfl D4.out yi.out (by simpa [zEx] using Nat.le_of_eq y14.out) (by simpa using y1.out) ?_; intro wb hwb))
    rw [setL_all _ _ (by simpa [zEx] using y14.out)] at hwb
    refine bodyPost_blk2 rfl (w.heap.size + 1) y.c _ (.int .i64 0) rfl rfl _ hwb.bk Tryz.underlying31 rfl yi.out rfl ?_
    refine ⟨y, 0, rfl, Fr.toBelow Hbx.out hwb (by omega), ?_, .inr ⟨fun v hv hb => ?_, rfl, Hm.out⟩⟩
    · exact (HyA.out.wrt hwb (by show B ≤ _; omega) (by omega)).lower (by omega)
    · have := Hfl.out.2 ⟨v, hv, hb⟩
      cases this
end Go.Proofs.YthijagpnpcpcbaaGreat

