/-
  plan.mapper: its methods, for all trees.
  States of closures over boxes. Plain: levels of columns, what is shifted.
  plan.Shift's closure.
-/
import Derived.Test.YthijagpnpcpcbaaGreatQGtRa
import Derived.Test.YthijagpnpcpcbaaGreatQGtQd
namespace Go.Proofs.YthijagpnpcpcbaaGreat
open Go.RowKit Go.Sort
theorem mapper_all : ∀ (N : Nat), HT 36 .expr N ∧ HT 63 .rel N := by
  intro N
  induction N with
  | zero => exact ⟨fun _ _ _ _ _ _ h => by omega, fun _ _ _ _ _ _ h => by omega⟩
  | succ N ih =>
    obtain ⟨he, hr⟩ := ih
    have hk := key_step N he
    have ha := agg_step N (closAgg1 N he)
    have hw := window_step N (closWin1 N he) (closWin2 N hk) (closWin3 N ha)
    exact ⟨expr_step N (closExpr1 N he) (closExpr2 N hr), rel_step N hr (closOwn2 N he) (closOwn4 N ha) (closOwn5 N hw) (closOwn6 N hk)⟩
/-- mapper.expr. -/
theorem mexpr_any {σ : Type} (M : Mpr σ) (x : DT) (d : Int) (s : σ) (W : World) (hd : 0 ≤ d) (hn : d + x.n ≤ 1048576) (hst : M.C.St s W) (hx : UIn (fun k => k < M.C.B) W .expr x) (hcn : M.cnt s + x.n ≤ 1048576) : Calls Tryz.prog 36 #[.agg #[M.v], .agg x.c.toArray, .int .i64 d] W (MPost M .expr d x s W) :=
  (mapper_all (x.n + 1)).1 σ M x d s W (by omega) hd hn hst hx hcn
end Go.Proofs.YthijagpnpcpcbaaGreat
namespace Go.Proofs.YthijagpnpcpcbaaGreat
open Go.RowKit Go.Sort
/-- A closure's boxes; a source below B. -/
def CBx {σ : Type} (B : Nat) (pr : σ → Prop) (bx : σ → List (Nat × TypeId × List Value)) : Cl σ where
  St := fun s W => B ≤ W.heap.size ∧ pr s ∧ ∀ p, p ∈ bx s → B ≤ p.1 ∧ Bk W p.1 p.2.2 p.2.1
  O := fun s k => B ≤ k ∧ ∃ p, p ∈ bx s ∧ p.1 = k
  lt := fun s W h k hk => by
    obtain ⟨_, p, hp, rfl⟩ := hk
    exact (h.2.2 p hp).2.lt
  B := B
  ob := fun _ _ h => h.1
  base := fun _ _ h => h.1
  keep := fun s W W' h hk hz => ⟨Nat.le_trans h.1 hz, h.2.1, fun p hp => ⟨(h.2.2 p hp).1, (hk p.1 (.inl ⟨(h.2.2 p hp).1, p, hp, rfl⟩)).trans (h.2.2 p hp).2⟩⟩
/-- A state's own block is written. -/
theorem Fr.wrtO {σ : Type} {C : Cl σ} {s0 s s' : σ} {w W W' : World} {b : Nat} {cs : List Value} {t : TypeId} (h : Fr C s0 w s W) (hw : Wrt W b cs t W') (hO : C.O s b) (hO' : ∀ k, C.O s' k → C.O s k) (hst : C.St s' W') : Fr C s0 w s' W' where
  os := hw.os.trans h.os
  tape := hw.tape.trans h.tape
  output := hw.output.trans h.output
  size := by rw [hw.size]; exact h.size
  block := fun k hk hn => by
    refine (hw.block k fun e => ?_).trans (h.block k hk hn)
    subst e
    rcases h.own _ hO with e | e
    · exact hn e
    · omega
  own := fun k hk => h.own k (hO' k hk)
  st := hst
/-- The number of levels of a column; its position. -/
def upOf (c : List Value) : Int :=
  match c with
  | _ :: _ :: .int .i64 u :: _ => u
  | _ => 0
def atOf (c : List Value) : Int :=
  match c with
  | _ :: _ :: _ :: .int .i64 u :: _ => u
  | _ => 0
/-- The level that a column refers to. -/
def lvl (v : Int × DT) : Int := wrap64 (upOf v.2.c - v.1)
def mx0 (f : Int) : Int := if f < 0 then 0 else f
/-- A shift. -/
def shUp (frm by' : Int) (d : Int) (x : DT) : Int := if mx0 frm ≤ lvl (d, x) then wrap64 (upOf x.c + by') else upOf x.c
def shCm (frm by' : Int) : Cm := ⟨fun _ _ => false, fun d x => x.c.set 2 (.int .i64 (shUp frm by' d x)), fun _ _ _ => False⟩
def shBad (frm by' : Int) (v : Int × DT) : Prop := mx0 frm ≤ lvl v ∧ wrap64 (upOf v.2.c + by') < 0
theorem UIn.setUp {S : Nat → Prop} {w : World} {c : List Value} {k : List (List DT)} (h : UIn S w .expr (.node c k)) {u : Int} (hu : I64 u) : UIn S w .expr (.node (c.set 2 (.int .i64 u)) k) := by
  obtain ⟨a, F, fc, fz, V, vc, vz, A, ac, az, B, sc, sz, he⟩ := h.ex
  injection he.e with e1 e2
  subst e1 e2
  obtain ⟨o1, o2, o3, o4, o5, o6, o7, o8, o9, o10⟩ := he.ok
  exact UIn.mkK rfl rfl ⟨{ a with up := u }, _, _, _, _, rfl, o1, o2, hu, o4, o5, o6, o7, o8, o9, o10⟩ ⟨⟨F, fc, rfl, he.rf, he.jf⟩, ⟨V, vc, rfl, he.rv, he.iv⟩, ⟨A, ac, rfl, he.ra, he.ia⟩, ⟨B, sc, rfl, he.rs, he.js⟩, trivial⟩
theorem UIn.upAt {S : Nat → Prop} {w : World} {x : DT} (h : UIn S w .expr x) : x.c[0]? = some (.int .i64 (kd x.c)) ∧ x.c[2]? = some (.int .i64 (upOf x.c)) ∧ x.c[3]? = some (.int .i64 (atOf x.c)) ∧ I64 (upOf x.c) ∧ I64 (atOf x.c) := by
  obtain ⟨a, F, fc, fz, V, vc, vz, A, ac, az, B, sc, sz, he⟩ := h.ex
  obtain rfl := he.e
  obtain ⟨o1, o2, o3, o4, _⟩ := he.ok
  exact ⟨rfl, rfl, rfl, o3, o4⟩
theorem kd_set {c : List Value} {v : Value} : kd (c.set 2 v) = kd c := by
  match c with
  | [] => rfl
  | [a] => rfl
  | a :: b :: r => cases a <;> first | rfl | (rename_i q n; cases q <;> rfl)
theorem set_up {S : Nat → Prop} {w : World} {x : DT} (h : UIn S w .expr x) : x.c.set 2 (.int .i64 (upOf x.c)) = x.c := by
  obtain ⟨a, F, fc, fz, V, vc, vz, A, ac, az, B, sc, sz, he⟩ := h.ex
  obtain rfl := he.e
  rfl
/-- What has been visited, and whether that was bad. -/
def FlagOk (bad : Int × DT → Prop) (s : (Int × DT → Prop) × Bool) : Prop := s.2 = true ↔ ∃ v, s.1 v ∧ bad v
theorem FlagOk.step {bad : Int × DT → Prop} {s : (Int × DT → Prop) × Bool} {u : Int × DT} {b : Bool} (h : FlagOk bad s) (hb : b = true ↔ s.2 = true ∨ bad u) : FlagOk bad (fun v => s.1 v ∨ v = u, b) := by
  show b = true ↔ _
  rw [hb, show s.2 = true ↔ ∃ v, s.1 v ∧ bad v from h]
  constructor
  · rintro (⟨v, h1, h2⟩ | h)
    · exact ⟨v, .inl h1, h2⟩
    · exact ⟨u, .inr rfl, h⟩
  · rintro ⟨v, h1 | rfl, h2⟩
    · exact .inl ⟨v, h1, h2⟩
    · exact .inr h2
/-- The state of Shift's closure: the boxes of from, of by and of bad. -/
def CSh (B b4 b5 b8 : Nat) (frm by' : Int) : Cl ((Int × DT → Prop) × Bool) := CBx B (FlagOk (shBad frm by')) fun s => [(b4, 3, [.int .i64 frm]), (b5, 3, [.int .i64 by']), (b8, 4, [.bool s.2])]
end Go.Proofs.YthijagpnpcpcbaaGreat
namespace Go.Proofs.YthijagpnpcpcbaaGreat
open Go.RowKit Go.Sort
theorem Fr.st' {σ : Type} {C : Cl σ} {s0 s s' : σ} {w W : World} (h : Fr C s0 w s W) (hO' : ∀ k, C.O s' k → C.O s k) (hst : C.St s' W) : Fr C s0 w s' W :=
  ⟨h.os, h.tape, h.output, h.size, h.block, fun k hk => h.own k (hO' k hk), hst⟩
theorem CSh.st {B b4 b5 b8 : Nat} {frm by' : Int} {s s' : (Int × DT → Prop) × Bool} {W W' : World} (h : (CSh B b4 b5 b8 frm by').St s W) (hz : W.heap.size ≤ W'.heap.size) (hf : FlagOk (shBad frm by') s') (h4 : Bk W' b4 [.int .i64 frm] 3) (h5 : Bk W' b5 [.int .i64 by'] 3) (h8 : Bk W' b8 [.bool s'.2] 4) : (CSh B b4 b5 b8 frm by').St s' W' := by
  refine ⟨Nat.le_trans h.1 hz, hf, fun p hp => ?_⟩
  have q4 := (h.2.2 (b4, 3, [.int .i64 frm]) (by simp)).1
  have q5 := (h.2.2 (b5, 3, [.int .i64 by']) (by simp)).1
  have q8 := (h.2.2 (b8, 4, [.bool s.2]) (by simp)).1
  simp only [List.mem_cons, List.not_mem_nil, or_false] at hp
  rcases hp with rfl | rfl | rfl
  · exact ⟨q4, h4⟩
  · exact ⟨q5, h5⟩
  · exact ⟨q8, h8⟩
theorem CSh.own {B b4 b5 b8 : Nat} {frm by' : Int} {s s' : (Int × DT → Prop) × Bool} {k : Nat} (h : (CSh B b4 b5 b8 frm by').O s k) : (CSh B b4 b5 b8 frm by').O s' k := by
  obtain ⟨h1, p, hp, rfl⟩ := h
  simp only [List.mem_cons, List.not_mem_nil, or_false] at hp
  rcases hp with rfl | rfl | rfl
  · exact ⟨h1, (b4, 3, [.int .i64 frm]), by simp, rfl⟩
  · exact ⟨h1, (b5, 3, [.int .i64 by']), by simp, rfl⟩
  · exact ⟨h1, (b8, 4, [.bool s'.2]), by simp, rfl⟩
theorem sh_end {B b4 b5 b8 : Nat} {frm by' d : Int} {s : (Int × DT → Prop) × Bool} {W w' : World} {x : DT} {nb : Bool} (hst : (CSh B b4 b5 b8 frm by').St s W) (hx : UIn (fun k => k < B) W .expr x) (_hby : I64 by') (hk : kd x.c = 2) (hf : Fr (CSh B b4 b5 b8 frm by') s W (fun v => s.1 v ∨ v = (d, x), nb) w') {c1 : List Value} (hc : c1 = x.c.set 2 (.int .i64 (shUp frm by' d x))) :
    ColPost (CSh B b4 b5 b8 frm by') (fun s v => s.1 v) (fun _ => 0) (shCm frm by') d x s W (.returned (.tuple #[.agg c1.toArray, .bool false])) w' := by
  subst hc
  have hu : I64 (shUp frm by' d x) := by
    unfold shUp
    split
    · unfold wrap64 I64; omega
    · exact hx.upAt.2.2.2.1
  refine ⟨.node (x.c.set 2 (.int .i64 (shUp frm by' d x))) x.k, _, rfl, hf, ⟨fun v => Iff.rfl, Nat.zero_le _⟩, fun _ => ⟨rfl, ?_, by rw [← hk]; exact kd_set⟩, fun h => by cases h⟩
  have hx' := hx.keep (hf.src hst) fun _ h => h
  obtain ⟨c, k⟩ := x
  exact hx'.setUp hu
theorem uInt1 : (Tryz.prog.info? 3).map (·.size) = some 1 := by kernel_rfl
theorem uBool1 : (Tryz.prog.info? 4).map (·.size) = some 1 := by kernel_rfl
set_option maxRecDepth 100000 in
set_option maxHeartbeats 4000000 in
theorem shift1_any (B b4 b5 b8 : Nat) (frm by' : Int) (_hfr : I64 frm) (hby : I64 by') (h48 : b4 ≠ b8) (h58 : b5 ≠ b8) (s : (Int × DT → Prop) × Bool) (W : World) (d : Int) (x : DT) (_hd : 0 ≤ d) (_hd2 : d ≤ 1048576) (hst : (CSh B b4 b5 b8 frm by').St s W) (hx : UIn (fun k => k < B) W .expr x) (hk : kd x.c = 2) :
    Calls Tryz.prog 35 (#[.agg x.c.toArray, .int .i64 d] ++ #[.pointer (some ⟨b4, 0, none⟩), .pointer (some ⟨b5, 0, none⟩), .pointer (some ⟨b8, 0, none⟩)]) W (ColPost (CSh B b4 b5 b8 frm by') (fun s v => s.1 v) (fun _ => 0) (shCm frm by') d x s W) := by
  obtain ⟨w1, hw1⟩ : ∃ w1, W.alloc (.cells x.c.toArray 31) = w1 := ⟨_, rfl⟩
  obtain ⟨w2, hw2⟩ : ∃ w2, w1.alloc (.cells #[.int .i64 0, .int .i64 0, .int .i64 0, .int .i64 0, .int .i64 0, .int .i64 0, .slice none 0 0, .int .i64 0, .int .i64 0, .int .i64 0, .string ⟨#[]⟩, .slice none 0 0, .slice none 0 0, .slice none 0 0] 31) = w2 := ⟨_, rfl⟩
  have hz1 : w1.heap.size = W.heap.size + 1 := by rw [← hw1]; simp
  have hz2 : w2.heap.size = W.heap.size + 2 := by rw [← hw2]; simp [hz1]
  have hb1 : Bk w2 W.heap.size x.c 31 := by rw [← hw2, ← hw1]; exact (Bk.new W x.c _).alloc _
  have hb2 : Bk w2 (W.heap.size + 1) zEx 31 := by rw [← hw2, ← hz1]; exact Bk.new w1 zEx _
  have hbw : Below W.heap.size W w2 := by rw [← hw2, ← hw1]; exact ((Below.refl _ _).alloc (Nat.le_refl _) _).alloc (by simp) _
  have hst2 := (Fr.below hst hbw).st
  have hlen : x.c.length = 14 := hx.len
  obtain ⟨u0, u2, _, iu, _⟩ := hx.upAt
  have h4 := (hst2.2.2 (b4, 3, [.int .i64 frm]) (by simp)).2
  have h5 := (hst2.2.2 (b5, 3, [.int .i64 by']) (by simp)).2
  have h8 := (hst2.2.2 (b8, 4, [.bool s.2]) (by simp)).2
  have l8 := h8.lt
  have l8' : b8 < W.heap.size := ((hst.2.2 (b8, 4, [.bool s.2]) (by simp)).2).lt
  have l4' : b4 < W.heap.size := ((hst.2.2 (b4, 3, [.int .i64 frm]) (by simp)).2).lt
  have l5' : b5 < W.heap.size := ((hst.2.2 (b5, 3, [.int .i64 by']) (by simp)).2).lt
  have Hi : Hid ((Tryz.prog.info? 31).map (·.size) = some x.c.length) := by show _ = _; rw [hlen]; exact uClExpr1
  have Hx3 : Hid (x.c.all (·.oneCell') = true) := by have := all_one hx.ones; show _ = _; simpa using this
  obtain ⟨sm, fl⟩ := s
  obtain ⟨up, hup⟩ : ∃ up, upOf x.c = up := ⟨_, rfl⟩
  rw [hup] at u2 iu
  have hlv : lvl (d, x) = wrap64 (up - d) := by show wrap64 (upOf x.c - d) = _; rw [hup]
  have uInt1 := Lib.hid uInt1
  have uBool1 := Lib.hid uBool1
  have Hst := Lib.hid hst
  have H1 := Lib.hid hb1
  have H2 := Lib.hid hb2
  have H4 := Lib.hid h4
  have H5 := Lib.hid h5
  have H8 := Lib.hid h8
  have Hx := Lib.hid hx
  have U2 := Lib.hid u2
  have Hlv := Lib.hid hlv
  have Hup := Lib.hid hup
  have Iu := Lib.hid iu
  have Hl := Lib.hid hlen
  have Hk := Lib.hid hk
  have Hbw := Lib.hid hbw
  clear hb1 hb2 hbw hst2 hlen u0 u2 iu h4 h5 h8 hx hk hst hlv hup
  show Calls _ _ #[.agg x.c.toArray, .int .i64 d, .pointer (some ⟨b4, 0, none⟩), .pointer (some ⟨b5, 0, none⟩), .pointer (some ⟨b8, 0, none⟩)] _ _
  obtain ⟨mm, hmm⟩ : ∃ mm, mx0 frm = mm := ⟨_, rfl⟩
  have Hmm := Lib.hid hmm
  unfold mx0 at hmm
  go_enter Tryz.func35, Tryz.ntmps35
  go_upto_if 15 with (first
    | (refine wpList_load_one rfl 3 _ rfl _ Tryz.underlying3 rfl _ 2 _ _ _ rfl H1.out U2.out ?_)
    | (refine wpList_load_one rfl 3 _ rfl _ Tryz.underlying3 rfl _ 0 _ _ _ rfl H4.out rfl ?_))
  clear hmm
  by_cases hle : mm ≤ wrap64 (up - d)
  · have hle' := Lib.hid hle
    have Inu : Hid (I64 (wrap64 (up + by'))) := by show I64 _; unfold wrap64 I64; omega
    have Hc : Hid ((x.c.set 2 (.int .i64 (wrap64 (up + by'))))[2]? = some (.int .i64 (wrap64 (up + by')))) := by show _ = _; rw [List.getElem?_set_self (by rw [Hl.out]; decide)]
    have Hxs : Hid (UIn (fun k => k < B) W .expr (.node (x.c.set 2 (.int .i64 (wrap64 (up + by')))) x.k)) := by
      cases x
      exact Hx.out.setUp Inu.out
    have Hi1 : Hid ((Tryz.prog.info? 31).map (·.size) = some (x.c.set 2 (.int .i64 (wrap64 (up + by')))).length) := by show _ = _; rw [List.length_set]; exact Hi.out
    have Ha1 : Hid ((x.c.set 2 (.int .i64 (wrap64 (up + by')))).all (·.oneCell') = true) := List.all_eq_true.2 fun u hu => Hxs.out.ones u hu
    have Hc1 : Hid (x.c.set 2 (.int .i64 (wrap64 (up + by'))) = x.c.set 2 (.int .i64 (shUp frm by' d x))) := by show _ = _; unfold shUp; rw [Hlv.out, Hmm.out, if_pos hle, Hup.out]
    cases fl with
    | true =>
      go_wp2_with (first
        | (refine wpList_load_one rfl 3 _ rfl _ Tryz.underlying3 rfl _ 2 _ _ _ rfl H1.out U2.out ?_)
        | (refine wpList_load_one rfl 3 _ rfl _ Tryz.underlying3 rfl _ 0 _ _ _ rfl H5.out rfl ?_)
        | (refine wpList_store_blk rfl 3 _ _ rfl _ 2 _ _ [.int .i64 (wrap64 (up + by'))] rfl rfl H1.out uInt1.out (by rw [Hl.out]; simp) rfl ?_; intro w3 hw3; have k1 := Lib.hid hw3.bk; have kc : w3.cell? ⟨W.heap.size, 2, none⟩ = some (.int .i64 (wrap64 (up + by'))) := (by rw [hw3.bk.cell]; exact Hc.out); have k8 := Lib.hid (H8.out.wrt hw3 (by omega)); have k2 := Lib.hid (H2.out.wrt hw3 (by omega)))
        | (refine wpList_load_one rfl 4 _ rfl _ Tryz.underlying4 rfl _ 0 _ _ _ rfl k8.out rfl ?_)
        | (refine wpList_load_one rfl 3 _ rfl _ Tryz.underlying3 rfl _ 2 _ _ _ rfl k1.out Hc.out ?_)
        | (show wpList _ _ _ (⟨none, .store 4 _ _, _, _, _, _⟩ :: _) _ _; go_loud (refine wpList_store_blk rfl 4 _ _ rfl _ 0 _ _ [.bool true] rfl rfl k8.out uBool1.out (by simp) rfl ?_); intro w4 hw4; have j1 := Lib.hid (k1.out.wrt hw4 (by omega)); have j2 := Lib.hid (k2.out.wrt hw4 (by omega)); have HW3 := Lib.hid hw3; have HW4 := Lib.hid hw4; clear hw3 hw4)
        | (refine wpList_load_part rfl 31 _ rfl _ Tryz.underlying31 rfl _ _ _ _ (x.c.set 2 (.int .i64 (wrap64 (up + by')))) rfl j1.out Hi1.out (by rw [List.drop_zero, List.take_of_length_le (by simp [setL])]; rfl) ?_)
        | (refine wpList_store_blk rfl 31 _ _ rfl _ _ _ _ (x.c.set 2 (.int .i64 (wrap64 (up + by')))) rfl rfl j2.out Hi1.out (by rw [List.length_set, Hl.out]; decide) Ha1.out ?_; intro w5 hw5))
      rw [setL_all _ _ (by rw [List.length_set, Hl.out]; rfl)] at hw5
      refine bodyPost_blk2 rfl (W.heap.size + 1) (x.c.set 2 (.int .i64 (wrap64 (up + by')))) _ (.bool false) rfl rfl _ hw5.bk Tryz.underlying31 rfl Hi1.out rfl ?_
      have hBB : (CSh B b4 b5 b8 frm by').B ≤ W.heap.size := Hst.out.1
      have hno : ∀ k, W.heap.size ≤ k → ¬ (CSh B b4 b5 b8 frm by').O (sm, true) k := fun k hk e => by have := (CSh B b4 b5 b8 frm by').lt _ _ Hst.out k e; omega
      have f1 := (Fr.below Hst.out Hbw.out).wrt HW3.out (Nat.le_refl _) (hno _ (Nat.le_refl _))
      have q8 := (Hst.out.2.2 (b8, 4, [.bool true]) (by simp)).1
      have f2 := f1.wrtO (s' := (fun v => sm v ∨ v = (d, x), true)) HW4.out ⟨q8, (b8, 4, [.bool true]), by simp, rfl⟩ (fun k hk => CSh.own hk) (CSh.st Hst.out (by rw [HW4.out.size]; exact f1.size) (FlagOk.step Hst.out.2.1 ⟨fun _ => .inl rfl, fun _ => rfl⟩) ((H4.out.wrt HW3.out (by omega)).wrt HW4.out h48) ((H5.out.wrt HW3.out (by omega)).wrt HW4.out h58) HW4.out.bk)
      exact sh_end Hst.out Hx.out hby Hk.out (f2.wrt hw5 (by omega) fun e => hno (W.heap.size + 1) (by omega) (CSh.own e)) Hc1.out
    | false =>
      have HB : Hid (shBad frm by' (d, x) ↔ wrap64 (up + by') < 0) := by
        show _ ↔ _
        unfold shBad
        rw [Hlv.out, Hmm.out, Hup.out]
        exact ⟨fun h => h.2, fun h => ⟨hle, h⟩⟩
      go_wp2_with (first
        | (refine wpList_load_one rfl 3 _ rfl _ Tryz.underlying3 rfl _ 2 _ _ _ rfl H1.out U2.out ?_)
        | (refine wpList_load_one rfl 3 _ rfl _ Tryz.underlying3 rfl _ 0 _ _ _ rfl H5.out rfl ?_)
        | (refine wpList_store_blk rfl 3 _ _ rfl _ 2 _ _ [.int .i64 (wrap64 (up + by'))] rfl rfl H1.out uInt1.out (by rw [Hl.out]; simp) rfl ?_; intro w3 hw3; have k1 := Lib.hid hw3.bk; have kc : w3.cell? ⟨W.heap.size, 2, none⟩ = some (.int .i64 (wrap64 (up + by'))) := (by rw [hw3.bk.cell]; exact Hc.out); have k8 := Lib.hid (H8.out.wrt hw3 (by omega)); have k2 := Lib.hid (H2.out.wrt hw3 (by omega)))
        | (refine wpList_load_one rfl 4 _ rfl _ Tryz.underlying4 rfl _ 0 _ _ _ rfl k8.out rfl ?_)
        | (refine wpList_load_one rfl 3 _ rfl _ Tryz.underlying3 rfl _ 2 _ _ _ rfl k1.out Hc.out ?_)
        | (show wpList _ _ _ (⟨none, .store 4 _ _, _, _, _, _⟩ :: _) _ _; go_loud (refine wpList_store_blk rfl 4 _ _ rfl _ 0 _ _ [.bool (decide (wrap64 (up + by') < 0))] rfl rfl k8.out uBool1.out (by simp) rfl ?_); intro w4 hw4; have j1 := Lib.hid (k1.out.wrt hw4 (by omega)); have j2 := Lib.hid (k2.out.wrt hw4 (by omega)); have HW3 := Lib.hid hw3; have HW4 := Lib.hid hw4; clear hw3 hw4)
        | (refine wpList_load_part rfl 31 _ rfl _ Tryz.underlying31 rfl _ _ _ _ (x.c.set 2 (.int .i64 (wrap64 (up + by')))) rfl j1.out Hi1.out (by rw [List.drop_zero, List.take_of_length_le (by simp [setL])]; rfl) ?_)
        | (refine wpList_store_blk rfl 31 _ _ rfl _ _ _ _ (x.c.set 2 (.int .i64 (wrap64 (up + by')))) rfl rfl j2.out Hi1.out (by rw [List.length_set, Hl.out]; decide) Ha1.out ?_; intro w5 hw5))
      rw [setL_all _ _ (by rw [List.length_set, Hl.out]; rfl)] at hw5
      refine bodyPost_blk2 rfl (W.heap.size + 1) (x.c.set 2 (.int .i64 (wrap64 (up + by')))) _ (.bool false) rfl rfl _ hw5.bk Tryz.underlying31 rfl Hi1.out rfl ?_
      have hBB : (CSh B b4 b5 b8 frm by').B ≤ W.heap.size := Hst.out.1
      have hno : ∀ k, W.heap.size ≤ k → ¬ (CSh B b4 b5 b8 frm by').O (sm, false) k := fun k hk e => by have := (CSh B b4 b5 b8 frm by').lt _ _ Hst.out k e; omega
      have f1 := (Fr.below Hst.out Hbw.out).wrt HW3.out (Nat.le_refl _) (hno _ (Nat.le_refl _))
      have q8 := (Hst.out.2.2 (b8, 4, [.bool false]) (by simp)).1
      have f2 := f1.wrtO (s' := (fun v => sm v ∨ v = (d, x), (decide (wrap64 (up + by') < 0)))) HW4.out ⟨q8, (b8, 4, [.bool false]), by simp, rfl⟩ (fun k hk => CSh.own hk) (CSh.st Hst.out (by rw [HW4.out.size]; exact f1.size) (FlagOk.step Hst.out.2.1 (by rw [HB.out]; simp)) ((H4.out.wrt HW3.out (by omega)).wrt HW4.out h48) ((H5.out.wrt HW3.out (by omega)).wrt HW4.out h58) HW4.out.bk)
      exact sh_end Hst.out Hx.out hby Hk.out (f2.wrt hw5 (by omega) fun e => hno (W.heap.size + 1) (by omega) (CSh.own e)) Hc1.out
  · have Hc1 : Hid (x.c = x.c.set 2 (.int .i64 (shUp frm by' d x))) := by show _ = _; unfold shUp; rw [Hlv.out, Hmm.out, if_neg hle, set_up Hx.out]
    have Hnb : Hid (¬ shBad frm by' (d, x)) := by show ¬ _; unfold shBad; rw [Hlv.out, Hmm.out]; exact fun h => hle h.1
    go_wp2_with (first
      | (refine wpList_load_part rfl 31 _ rfl _ Tryz.underlying31 rfl _ _ _ _ x.c rfl H1.out Hi.out (by rw [List.drop_zero, List.take_length]) ?_)
      | (refine wpList_store_blk rfl 31 _ _ rfl _ _ _ _ x.c rfl rfl H2.out Hi.out (by rw [Hl.out]; decide) Hx3.out ?_; intro w5 hw5))
    rw [setL_all _ _ (by rw [Hl.out]; rfl)] at hw5
    refine bodyPost_blk2 rfl (W.heap.size + 1) x.c _ (.bool false) rfl rfl _ hw5.bk Tryz.underlying31 rfl Hi.out rfl ?_
    have hBB : (CSh B b4 b5 b8 frm by').B ≤ W.heap.size := Hst.out.1
    have hno : ∀ k, W.heap.size ≤ k → ¬ (CSh B b4 b5 b8 frm by').O (sm, fl) k := fun k hk e => by have := (CSh B b4 b5 b8 frm by').lt _ _ Hst.out k e; omega
    have f1 := Fr.below Hst.out Hbw.out
    have f2 := f1.st' (s' := (fun v => sm v ∨ v = (d, x), fl)) (fun k hk => hk) (CSh.st Hst.out f1.size (FlagOk.step Hst.out.2.1 ⟨fun h => .inl h, fun h => h.elim id fun h => absurd h Hnb.out⟩) H4.out H5.out H8.out)
    exact sh_end Hst.out Hx.out hby Hk.out (f2.wrt hw5 (by omega) (hno _ (by omega))) Hc1.out
end Go.Proofs.YthijagpnpcpcbaaGreat

