/-
  plan.mapper: what is known of any mapper; its closures.
-/
import Derived.Test.YthijagpnpcpcbaaGreatQStQ
namespace Go.Proofs.YthijagpnpcpcbaaGreat
open Go.RowKit Go.Sort
theorem setL_app (cs : List Value) : ∀ (vs : List Value) (o : Nat), o + vs.length ≤ cs.length → setL cs o vs = cs.take o ++ vs ++ cs.drop (o + vs.length) := by
  intro vs
  induction vs generalizing cs with
  | nil => intro o _; simp [setL]
  | cons v r ih =>
    intro o ho
    simp only [List.length_cons] at ho
    simp only [setL]
    rw [ih (cs.set o v) (o + 1) (by simp; omega)]
    rw [List.drop_set_of_lt (by omega)]
    rw [List.take_add_one, List.take_set_of_le (Nat.le_refl _), List.getElem?_set_self (by omega)]
    simp only [Option.toList_some, List.append_assoc, List.length_cons, List.cons_append, List.nil_append]
    rw [show o + 1 + r.length = o + (r.length + 1) by omega]
theorem setL_all (cs vs : List Value) (h : vs.length = cs.length) : setL cs 0 vs = vs := by
  rw [setL_app cs vs 0 (by omega)]
  simp [h]
/-- What column's call comes to. -/
def ColPost {σ : Type} (C : Cl σ) (mem : σ → Int × DT → Prop) (cnt : σ → Nat) (m : Cm) (d : Int) (x : DT) (s : σ) (W : World) (e : Ending) (W1 : World) : Prop :=
  ∃ (y : DT) (s' : σ), e = .returned (.tuple #[.agg y.c.toArray, .bool (m.dn d x)]) ∧ Fr C s W s' W1 ∧ ((∀ v, mem s' v ↔ mem s v ∨ v = (d, x)) ∧ cnt s' ≤ cnt s + 1) ∧
    (m.dn d x = false → y = .node (m.cg d x) x.k ∧ UIn (fun k => k < C.B) W1 .expr y ∧ kd y.c = 2) ∧ (m.dn d x = true → UIn (Nw C W.heap.size s' W1) W1 .expr y ∧ ∃ y0, m.rs d x y0 ∧ USm .expr y0 y)
/-- A mapper: its function value, its state, what it makes of columns. -/
structure Mpr (σ : Type) where
  C : Cl σ
  mem : σ → Int × DT → Prop
  cnt : σ → Nat
  g : Nat
  lb : Array Value
  eg : ∀ args w, (callFunc g args).run Tryz.prog w = .ok (.enter g args) w
  m : Cm
  col : ∀ (s : σ) (W : World) (d : Int) (x : DT), 0 ≤ d → d ≤ 1048576 → C.St s W → UIn (fun k => k < C.B) W .expr x → x.n ≤ 1048576 → kd x.c = 2 → cnt s + 1 ≤ 1048576 → Calls Tryz.prog g (#[.agg x.c.toArray, .int .i64 d] ++ lb) W (ColPost C mem cnt m d x s W)
/-- Its cell. -/
def Mpr.v {σ : Type} (M : Mpr σ) : Value := .func (.func M.g) #[] M.lb
/-- What is visited, and how often. -/
def Mpr.vst {σ : Type} (M : Mpr σ) (s s' : σ) (n : Nat) (X : Int × DT → Prop) : Prop := (∀ v, M.mem s' v ↔ M.mem s v ∨ X v) ∧ M.cnt s' ≤ M.cnt s + n
theorem Mpr.vst.tr {σ : Type} {M : Mpr σ} {s s' s'' : σ} {n m : Nat} {X Y : Int × DT → Prop} (h : M.vst s s' n X) (h' : M.vst s' s'' m Y) : M.vst s s'' (n + m) fun v => X v ∨ Y v :=
  ⟨fun v => by rw [h'.1, h.1, or_assoc], by have := h.2; have := h'.2; omega⟩
theorem Mpr.vst.to {σ : Type} {M : Mpr σ} {s s' : σ} {n m : Nat} {X Y : Int × DT → Prop} (h : M.vst s s' n X) (hn : n ≤ m) (hX : ∀ v, X v ↔ Y v) : M.vst s s' m Y :=
  ⟨fun v => by rw [h.1, hX], by have := h.2; omega⟩
theorem Mpr.vst.no {σ : Type} {M : Mpr σ} {s : σ} {n : Nat} {X : Int × DT → Prop} (h : ∀ v, ¬ X v) : M.vst s s n X := ⟨fun v => ⟨.inl, fun e => e.elim id fun e => absurd e (h v)⟩, by omega⟩
/-- What a method comes to. -/
def MPost {σ : Type} (M : Mpr σ) (t : Uy) (d : Int) (x : DT) (s : σ) (W : World) (e : Ending) (W1 : World) : Prop :=
  OnePost M.C (fun s' => M.vst s s' x.n (Vs M.m t d x)) (Mp M.m t d) t x s W e W1
/-- A method, for trees of less than N parts. -/
def HT (f : Nat) (t : Uy) (N : Nat) : Prop := ∀ (σ : Type) (M : Mpr σ) (x : DT) (d : Int) (s : σ) (W : World), x.n < N → 0 ≤ d → d + x.n ≤ 1048576 → M.C.St s W → UIn (fun k => k < M.C.B) W t x → M.cnt s + x.n ≤ 1048576 → Calls Tryz.prog f #[.agg #[M.v], .agg x.c.toArray, .int .i64 d] W (MPost M t d x s W)
/-- A closure over the mapper and the depth: it calls at depth d + δ. -/
def HC (f : Nat) (t : Uy) (N : Nat) (δ : Int) : Prop := ∀ (σ : Type) (M : Mpr σ) (x : DT) (d dd : Int) (s : σ) (W : World) (b3 b5 : Nat), dd = d + δ → x.n < N → 0 ≤ d → 0 ≤ dd → dd + x.n ≤ 1048576 → M.C.St s W → UIn (fun k => k < M.C.B) W t x →
  Bk W b3 [M.v] 73 → Bk W b5 [.int .i64 d] 3 → ¬ M.C.O s b3 → ¬ M.C.O s b5 → M.cnt s + x.n ≤ 1048576 → Calls Tryz.prog f #[.agg x.c.toArray, .pointer (some ⟨b3, 0, none⟩), .pointer (some ⟨b5, 0, none⟩)] W (MPost M t dd x s W)
theorem uIm : (Tryz.prog.info? 73).map (·.size) = some 1 := by kernel_rfl
theorem uClExpr1 : (Tryz.prog.info? 31).map (·.size) = some 14 := by kernel_rfl
set_option maxRecDepth 100000 in
set_option maxHeartbeats 2000000 in
theorem closExpr1 (N : Nat) (h : HT 36 .expr N) : HC 60 .expr N 0 := by
  intro σ M x d dd s W b3 b5 hdd hn hd hd0 hd2 hst hx hb3 hb5 ho3 ho5 hcn
  obtain rfl : dd = d := by omega
  clear hdd
  have hB := M.C.base s W hst
  obtain ⟨w1, hw1⟩ : ∃ w1, W.alloc (.cells x.c.toArray 31) = w1 := ⟨_, rfl⟩
  obtain ⟨w2, hw2⟩ : ∃ w2, w1.alloc (.cells #[.int .i64 0, .int .i64 0, .int .i64 0, .int .i64 0, .int .i64 0, .int .i64 0, .slice none 0 0, .int .i64 0, .int .i64 0, .int .i64 0, .string ⟨#[]⟩, .slice none 0 0, .slice none 0 0, .slice none 0 0] 31) = w2 := ⟨_, rfl⟩
  have hz1 : w1.heap.size = W.heap.size + 1 := by rw [← hw1]; simp
  have hz2 : w2.heap.size = W.heap.size + 2 := by rw [← hw2]; simp [hz1]
  have hb1 : Bk w2 W.heap.size x.c 31 := by rw [← hw2, ← hw1]; exact (Bk.new W x.c _).alloc _
  have hb2 : Bk w2 (W.heap.size + 1) [.int .i64 0, .int .i64 0, .int .i64 0, .int .i64 0, .int .i64 0, .int .i64 0, .slice none 0 0, .int .i64 0, .int .i64 0, .int .i64 0, .string ⟨#[]⟩, .slice none 0 0, .slice none 0 0, .slice none 0 0] 31 := by rw [← hw2, ← hz1]; exact Bk.new w1 [.int .i64 0, .int .i64 0, .int .i64 0, .int .i64 0, .int .i64 0, .int .i64 0, .slice none 0 0, .int .i64 0, .int .i64 0, .int .i64 0, .string ⟨#[]⟩, .slice none 0 0, .slice none 0 0, .slice none 0 0] _
  have hbw : Below W.heap.size W w2 := by rw [← hw2, ← hw1]; exact ((Below.refl _ _).alloc (Nat.le_refl _) _).alloc (by simp) _
  have hf0 : Fr M.C s W s w2 := Fr.below hst hbw
  have c3 : Bk w2 b3 [M.v] 73 := hb3.fr hf0 ho3
  have c5 : Bk w2 b5 [.int .i64 dd] 3 := hb5.fr hf0 ho5
  have hO2 : ∀ k, M.C.O s k → k < W.heap.size := M.C.lt s W hst
  have Hx1 : Hid (x.c.length = 14) := hx.len
  have Hx2 : Hid ((Tryz.prog.info? 31).map (·.size) = some x.c.length) := by show _ = _; rw [hx.len]; exact uClExpr1
  have Hx3 := Lib.hid (all_one hx.ones)
  have hcall : Hid (Calls Tryz.prog 36 #[.agg #[M.v], .agg x.c.toArray, .int .i64 (dd)] w2 fun e w3 => ∃ (y : DT) (s' : σ), e = .returned (.agg y.c.toArray) ∧ Fr M.C s W s' w3 ∧ M.vst s s' x.n (Vs M.m .expr (dd) x) ∧ UIn (Nw M.C w2.heap.size s' w3) w3 .expr y ∧ Mp M.m .expr (dd) x y ∧ Bk w3 (W.heap.size + 1) [.int .i64 0, .int .i64 0, .int .i64 0, .int .i64 0, .int .i64 0, .int .i64 0, .slice none 0 0, .int .i64 0, .int .i64 0, .int .i64 0, .string ⟨#[]⟩, .slice none 0 0, .slice none 0 0, .slice none 0 0] 31 ∧ ¬ M.C.O s' (W.heap.size + 1) ∧
      y.c.length = 14 ∧ (Tryz.prog.info? 31).map (·.size) = some y.c.length ∧ y.c.all (·.oneCell') = true) := by
    refine (h σ M x (dd) s w2 hn hd0 hd2 hf0.st (hx.keep (hf0.src hst) fun _ h => h) hcn).mono ?_
    rintro e w3 ⟨y, s', rfl, hf, hv, hy, hm⟩
    have hno : ¬ M.C.O s' (W.heap.size + 1) := fun e => by
      rcases hf.own _ e with e | e
      · have := hO2 _ e; omega
      · omega
    refine ⟨y, s', rfl, hf0.trans hf, hv, hy, hm, hb2.fr hf fun e => ?_, hno, hy.len, by rw [hy.len]; exact uClExpr1, ?_⟩
    · have := hO2 _ e; omega
    · have := all_one hy.ones; simpa using this
  have hwr : IntKind.i64.wrap (dd) = dd := IntWalk.i64_in _ ⟨by omega, by omega⟩
  have H3 := Lib.hid c3
  have H5 := Lib.hid c5
  have H1 := Lib.hid hb1
  have Hm := Lib.hid uIm
  clear hb3 hb5 c3 c5 hb1 hb2 hx h hf0 hst hO2 ho3 ho5
  go_enter Tryz.func60, Tryz.ntmps60
  go_upto_region 1 with (fail)
  go_wp2_with (first | (refine wpList_load_part rfl 73 _ rfl _ Tryz.underlying73 rfl _ _ _ _ [M.v] rfl H3.out Hm.out rfl ?_) | (refine wpList_load_part rfl 31 _ rfl _ Tryz.underlying31 rfl _ _ _ _ x.c rfl H1.out Hx2.out (by rw [List.drop_zero, List.take_length]) ?_) | (refine wpList_load_one rfl 3 _ rfl _ Tryz.underlying3 rfl _ _ _ _ _ rfl H5.out rfl ?_) | (go_at_call 36; refine hcall.out.mono ?_; rintro e w3 ⟨y, s', rfl, hf, hv, hy, hm, k2, hno, hyl, hyi, hy1⟩) | (refine wpList_store_blk rfl 31 _ _ rfl _ _ _ _ y.c rfl rfl k2 hyi (by simp [hyl]) hy1 ?_; intro w4 hw4))
  rw [setL_all _ _ (by rw [hyl]; rfl)] at hw4
  refine bodyPost_blk rfl (W.heap.size + 1) y.c _ rfl _ hw4.bk Tryz.underlying31 rfl hyi rfl ?_
  exact ⟨y, s', rfl, hf.wrt hw4 (by omega) hno, hv, (hy.wrt hw4 (by omega) (by omega)).lower (by omega), hm⟩
theorem uClExpr2 : (Tryz.prog.info? 59).map (·.size) = some 14 := by kernel_rfl
set_option maxRecDepth 100000 in
set_option maxHeartbeats 2000000 in
theorem closExpr2 (N : Nat) (h : HT 63 .rel N) : HC 62 .rel N 1 := by
  intro σ M x d dd s W b3 b5 hdd hn hd hd0 hd2 hst hx hb3 hb5 ho3 ho5 hcn
  obtain rfl : dd = d + 1 := by omega
  clear hdd
  have hB := M.C.base s W hst
  obtain ⟨w1, hw1⟩ : ∃ w1, W.alloc (.cells x.c.toArray 59) = w1 := ⟨_, rfl⟩
  obtain ⟨w2, hw2⟩ : ∃ w2, w1.alloc (.cells #[.int .i64 0, .int .i64 0, .string ⟨#[]⟩, .bool false, .slice none 0 0, .slice none 0 0, .slice none 0 0, .slice none 0 0, .slice none 0 0, .slice none 0 0, .slice none 0 0, .slice none 0 0, .int .i64 0, .int .i64 0] 59) = w2 := ⟨_, rfl⟩
  have hz1 : w1.heap.size = W.heap.size + 1 := by rw [← hw1]; simp
  have hz2 : w2.heap.size = W.heap.size + 2 := by rw [← hw2]; simp [hz1]
  have hb1 : Bk w2 W.heap.size x.c 59 := by rw [← hw2, ← hw1]; exact (Bk.new W x.c _).alloc _
  have hb2 : Bk w2 (W.heap.size + 1) [.int .i64 0, .int .i64 0, .string ⟨#[]⟩, .bool false, .slice none 0 0, .slice none 0 0, .slice none 0 0, .slice none 0 0, .slice none 0 0, .slice none 0 0, .slice none 0 0, .slice none 0 0, .int .i64 0, .int .i64 0] 59 := by rw [← hw2, ← hz1]; exact Bk.new w1 [.int .i64 0, .int .i64 0, .string ⟨#[]⟩, .bool false, .slice none 0 0, .slice none 0 0, .slice none 0 0, .slice none 0 0, .slice none 0 0, .slice none 0 0, .slice none 0 0, .slice none 0 0, .int .i64 0, .int .i64 0] _
  have hbw : Below W.heap.size W w2 := by rw [← hw2, ← hw1]; exact ((Below.refl _ _).alloc (Nat.le_refl _) _).alloc (by simp) _
  have hf0 : Fr M.C s W s w2 := Fr.below hst hbw
  have c3 : Bk w2 b3 [M.v] 73 := hb3.fr hf0 ho3
  have c5 : Bk w2 b5 [.int .i64 d] 3 := hb5.fr hf0 ho5
  have hO2 : ∀ k, M.C.O s k → k < W.heap.size := M.C.lt s W hst
  have Hx1 : Hid (x.c.length = 14) := hx.len
  have Hx2 : Hid ((Tryz.prog.info? 59).map (·.size) = some x.c.length) := by show _ = _; rw [hx.len]; exact uClExpr2
  have Hx3 := Lib.hid (all_one hx.ones)
  have hcall : Hid (Calls Tryz.prog 63 #[.agg #[M.v], .agg x.c.toArray, .int .i64 (d + 1)] w2 fun e w3 => ∃ (y : DT) (s' : σ), e = .returned (.agg y.c.toArray) ∧ Fr M.C s W s' w3 ∧ M.vst s s' x.n (Vs M.m .rel (d + 1) x) ∧ UIn (Nw M.C w2.heap.size s' w3) w3 .rel y ∧ Mp M.m .rel (d + 1) x y ∧ Bk w3 (W.heap.size + 1) [.int .i64 0, .int .i64 0, .string ⟨#[]⟩, .bool false, .slice none 0 0, .slice none 0 0, .slice none 0 0, .slice none 0 0, .slice none 0 0, .slice none 0 0, .slice none 0 0, .slice none 0 0, .int .i64 0, .int .i64 0] 59 ∧ ¬ M.C.O s' (W.heap.size + 1) ∧
      y.c.length = 14 ∧ (Tryz.prog.info? 59).map (·.size) = some y.c.length ∧ y.c.all (·.oneCell') = true) := by
    refine (h σ M x (d + 1) s w2 hn hd0 hd2 hf0.st (hx.keep (hf0.src hst) fun _ h => h) hcn).mono ?_
    rintro e w3 ⟨y, s', rfl, hf, hv, hy, hm⟩
    have hno : ¬ M.C.O s' (W.heap.size + 1) := fun e => by
      rcases hf.own _ e with e | e
      · have := hO2 _ e; omega
      · omega
    refine ⟨y, s', rfl, hf0.trans hf, hv, hy, hm, hb2.fr hf fun e => ?_, hno, hy.len, by rw [hy.len]; exact uClExpr2, ?_⟩
    · have := hO2 _ e; omega
    · have := all_one hy.ones; simpa using this
  have hwr : IntKind.i64.wrap (d + 1) = d + 1 := IntWalk.i64_in _ ⟨by omega, by omega⟩
  have H3 := Lib.hid c3
  have H5 := Lib.hid c5
  have H1 := Lib.hid hb1
  have Hm := Lib.hid uIm
  clear hb3 hb5 c3 c5 hb1 hb2 hx h hf0 hst hO2 ho3 ho5
  go_enter Tryz.func62, Tryz.ntmps62
  go_upto_region 1 with (fail)
  go_wp2_with (first | (refine wpList_load_part rfl 73 _ rfl _ Tryz.underlying73 rfl _ _ _ _ [M.v] rfl H3.out Hm.out rfl ?_) | (refine wpList_load_part rfl 59 _ rfl _ Tryz.underlying59 rfl _ _ _ _ x.c rfl H1.out Hx2.out (by rw [List.drop_zero, List.take_length]) ?_) | (refine wpList_load_one rfl 3 _ rfl _ Tryz.underlying3 rfl _ _ _ _ _ rfl H5.out rfl ?_) | (go_at_call 63; refine hcall.out.mono ?_; rintro e w3 ⟨y, s', rfl, hf, hv, hy, hm, k2, hno, hyl, hyi, hy1⟩) | (refine wpList_store_blk rfl 59 _ _ rfl _ _ _ _ y.c rfl rfl k2 hyi (by simp [hyl]) hy1 ?_; intro w4 hw4))
  rw [setL_all _ _ (by rw [hyl]; rfl)] at hw4
  refine bodyPost_blk rfl (W.heap.size + 1) y.c _ rfl _ hw4.bk Tryz.underlying59 rfl hyi rfl ?_
  exact ⟨y, s', rfl, hf.wrt hw4 (by omega) hno, hv, (hy.wrt hw4 (by omega) (by omega)).lower (by omega), hm⟩
theorem uClAgg1 : (Tryz.prog.info? 31).map (·.size) = some 14 := by kernel_rfl
set_option maxRecDepth 100000 in
set_option maxHeartbeats 2000000 in
theorem closAgg1 (N : Nat) (h : HT 36 .expr N) : HC 124 .expr N 0 := by
  intro σ M x d dd s W b3 b5 hdd hn hd hd0 hd2 hst hx hb3 hb5 ho3 ho5 hcn
  obtain rfl : dd = d := by omega
  clear hdd
  have hB := M.C.base s W hst
  obtain ⟨w1, hw1⟩ : ∃ w1, W.alloc (.cells x.c.toArray 31) = w1 := ⟨_, rfl⟩
  obtain ⟨w2, hw2⟩ : ∃ w2, w1.alloc (.cells #[.int .i64 0, .int .i64 0, .int .i64 0, .int .i64 0, .int .i64 0, .int .i64 0, .slice none 0 0, .int .i64 0, .int .i64 0, .int .i64 0, .string ⟨#[]⟩, .slice none 0 0, .slice none 0 0, .slice none 0 0] 31) = w2 := ⟨_, rfl⟩
  have hz1 : w1.heap.size = W.heap.size + 1 := by rw [← hw1]; simp
  have hz2 : w2.heap.size = W.heap.size + 2 := by rw [← hw2]; simp [hz1]
  have hb1 : Bk w2 W.heap.size x.c 31 := by rw [← hw2, ← hw1]; exact (Bk.new W x.c _).alloc _
  have hb2 : Bk w2 (W.heap.size + 1) [.int .i64 0, .int .i64 0, .int .i64 0, .int .i64 0, .int .i64 0, .int .i64 0, .slice none 0 0, .int .i64 0, .int .i64 0, .int .i64 0, .string ⟨#[]⟩, .slice none 0 0, .slice none 0 0, .slice none 0 0] 31 := by rw [← hw2, ← hz1]; exact Bk.new w1 [.int .i64 0, .int .i64 0, .int .i64 0, .int .i64 0, .int .i64 0, .int .i64 0, .slice none 0 0, .int .i64 0, .int .i64 0, .int .i64 0, .string ⟨#[]⟩, .slice none 0 0, .slice none 0 0, .slice none 0 0] _
  have hbw : Below W.heap.size W w2 := by rw [← hw2, ← hw1]; exact ((Below.refl _ _).alloc (Nat.le_refl _) _).alloc (by simp) _
  have hf0 : Fr M.C s W s w2 := Fr.below hst hbw
  have c3 : Bk w2 b3 [M.v] 73 := hb3.fr hf0 ho3
  have c5 : Bk w2 b5 [.int .i64 dd] 3 := hb5.fr hf0 ho5
  have hO2 : ∀ k, M.C.O s k → k < W.heap.size := M.C.lt s W hst
  have Hx1 : Hid (x.c.length = 14) := hx.len
  have Hx2 : Hid ((Tryz.prog.info? 31).map (·.size) = some x.c.length) := by show _ = _; rw [hx.len]; exact uClAgg1
  have Hx3 := Lib.hid (all_one hx.ones)
  have hcall : Hid (Calls Tryz.prog 36 #[.agg #[M.v], .agg x.c.toArray, .int .i64 (dd)] w2 fun e w3 => ∃ (y : DT) (s' : σ), e = .returned (.agg y.c.toArray) ∧ Fr M.C s W s' w3 ∧ M.vst s s' x.n (Vs M.m .expr (dd) x) ∧ UIn (Nw M.C w2.heap.size s' w3) w3 .expr y ∧ Mp M.m .expr (dd) x y ∧ Bk w3 (W.heap.size + 1) [.int .i64 0, .int .i64 0, .int .i64 0, .int .i64 0, .int .i64 0, .int .i64 0, .slice none 0 0, .int .i64 0, .int .i64 0, .int .i64 0, .string ⟨#[]⟩, .slice none 0 0, .slice none 0 0, .slice none 0 0] 31 ∧ ¬ M.C.O s' (W.heap.size + 1) ∧
      y.c.length = 14 ∧ (Tryz.prog.info? 31).map (·.size) = some y.c.length ∧ y.c.all (·.oneCell') = true) := by
    refine (h σ M x (dd) s w2 hn hd0 hd2 hf0.st (hx.keep (hf0.src hst) fun _ h => h) hcn).mono ?_
    rintro e w3 ⟨y, s', rfl, hf, hv, hy, hm⟩
    have hno : ¬ M.C.O s' (W.heap.size + 1) := fun e => by
      rcases hf.own _ e with e | e
      · have := hO2 _ e; omega
      · omega
    refine ⟨y, s', rfl, hf0.trans hf, hv, hy, hm, hb2.fr hf fun e => ?_, hno, hy.len, by rw [hy.len]; exact uClAgg1, ?_⟩
    · have := hO2 _ e; omega
    · have := all_one hy.ones; simpa using this
  have hwr : IntKind.i64.wrap (dd) = dd := IntWalk.i64_in _ ⟨by omega, by omega⟩
  have H3 := Lib.hid c3
  have H5 := Lib.hid c5
  have H1 := Lib.hid hb1
  have Hm := Lib.hid uIm
  clear hb3 hb5 c3 c5 hb1 hb2 hx h hf0 hst hO2 ho3 ho5
  go_enter Tryz.func124, Tryz.ntmps124
  go_upto_region 1 with (fail)
  go_wp2_with (first | (refine wpList_load_part rfl 73 _ rfl _ Tryz.underlying73 rfl _ _ _ _ [M.v] rfl H3.out Hm.out rfl ?_) | (refine wpList_load_part rfl 31 _ rfl _ Tryz.underlying31 rfl _ _ _ _ x.c rfl H1.out Hx2.out (by rw [List.drop_zero, List.take_length]) ?_) | (refine wpList_load_one rfl 3 _ rfl _ Tryz.underlying3 rfl _ _ _ _ _ rfl H5.out rfl ?_) | (go_at_call 36; refine hcall.out.mono ?_; rintro e w3 ⟨y, s', rfl, hf, hv, hy, hm, k2, hno, hyl, hyi, hy1⟩) | (refine wpList_store_blk rfl 31 _ _ rfl _ _ _ _ y.c rfl rfl k2 hyi (by simp [hyl]) hy1 ?_; intro w4 hw4))
  rw [setL_all _ _ (by rw [hyl]; rfl)] at hw4
  refine bodyPost_blk rfl (W.heap.size + 1) y.c _ rfl _ hw4.bk Tryz.underlying31 rfl hyi rfl ?_
  exact ⟨y, s', rfl, hf.wrt hw4 (by omega) hno, hv, (hy.wrt hw4 (by omega) (by omega)).lower (by omega), hm⟩
theorem uClWin1 : (Tryz.prog.info? 31).map (·.size) = some 14 := by kernel_rfl
set_option maxRecDepth 100000 in
set_option maxHeartbeats 2000000 in
theorem closWin1 (N : Nat) (h : HT 36 .expr N) : HC 126 .expr N 0 := by
  intro σ M x d dd s W b3 b5 hdd hn hd hd0 hd2 hst hx hb3 hb5 ho3 ho5 hcn
  obtain rfl : dd = d := by omega
  clear hdd
  have hB := M.C.base s W hst
  obtain ⟨w1, hw1⟩ : ∃ w1, W.alloc (.cells x.c.toArray 31) = w1 := ⟨_, rfl⟩
  obtain ⟨w2, hw2⟩ : ∃ w2, w1.alloc (.cells #[.int .i64 0, .int .i64 0, .int .i64 0, .int .i64 0, .int .i64 0, .int .i64 0, .slice none 0 0, .int .i64 0, .int .i64 0, .int .i64 0, .string ⟨#[]⟩, .slice none 0 0, .slice none 0 0, .slice none 0 0] 31) = w2 := ⟨_, rfl⟩
  have hz1 : w1.heap.size = W.heap.size + 1 := by rw [← hw1]; simp
  have hz2 : w2.heap.size = W.heap.size + 2 := by rw [← hw2]; simp [hz1]
  have hb1 : Bk w2 W.heap.size x.c 31 := by rw [← hw2, ← hw1]; exact (Bk.new W x.c _).alloc _
  have hb2 : Bk w2 (W.heap.size + 1) [.int .i64 0, .int .i64 0, .int .i64 0, .int .i64 0, .int .i64 0, .int .i64 0, .slice none 0 0, .int .i64 0, .int .i64 0, .int .i64 0, .string ⟨#[]⟩, .slice none 0 0, .slice none 0 0, .slice none 0 0] 31 := by rw [← hw2, ← hz1]; exact Bk.new w1 [.int .i64 0, .int .i64 0, .int .i64 0, .int .i64 0, .int .i64 0, .int .i64 0, .slice none 0 0, .int .i64 0, .int .i64 0, .int .i64 0, .string ⟨#[]⟩, .slice none 0 0, .slice none 0 0, .slice none 0 0] _
  have hbw : Below W.heap.size W w2 := by rw [← hw2, ← hw1]; exact ((Below.refl _ _).alloc (Nat.le_refl _) _).alloc (by simp) _
  have hf0 : Fr M.C s W s w2 := Fr.below hst hbw
  have c3 : Bk w2 b3 [M.v] 73 := hb3.fr hf0 ho3
  have c5 : Bk w2 b5 [.int .i64 dd] 3 := hb5.fr hf0 ho5
  have hO2 : ∀ k, M.C.O s k → k < W.heap.size := M.C.lt s W hst
  have Hx1 : Hid (x.c.length = 14) := hx.len
  have Hx2 : Hid ((Tryz.prog.info? 31).map (·.size) = some x.c.length) := by show _ = _; rw [hx.len]; exact uClWin1
  have Hx3 := Lib.hid (all_one hx.ones)
  have hcall : Hid (Calls Tryz.prog 36 #[.agg #[M.v], .agg x.c.toArray, .int .i64 (dd)] w2 fun e w3 => ∃ (y : DT) (s' : σ), e = .returned (.agg y.c.toArray) ∧ Fr M.C s W s' w3 ∧ M.vst s s' x.n (Vs M.m .expr (dd) x) ∧ UIn (Nw M.C w2.heap.size s' w3) w3 .expr y ∧ Mp M.m .expr (dd) x y ∧ Bk w3 (W.heap.size + 1) [.int .i64 0, .int .i64 0, .int .i64 0, .int .i64 0, .int .i64 0, .int .i64 0, .slice none 0 0, .int .i64 0, .int .i64 0, .int .i64 0, .string ⟨#[]⟩, .slice none 0 0, .slice none 0 0, .slice none 0 0] 31 ∧ ¬ M.C.O s' (W.heap.size + 1) ∧
      y.c.length = 14 ∧ (Tryz.prog.info? 31).map (·.size) = some y.c.length ∧ y.c.all (·.oneCell') = true) := by
    refine (h σ M x (dd) s w2 hn hd0 hd2 hf0.st (hx.keep (hf0.src hst) fun _ h => h) hcn).mono ?_
    rintro e w3 ⟨y, s', rfl, hf, hv, hy, hm⟩
    have hno : ¬ M.C.O s' (W.heap.size + 1) := fun e => by
      rcases hf.own _ e with e | e
      · have := hO2 _ e; omega
      · omega
    refine ⟨y, s', rfl, hf0.trans hf, hv, hy, hm, hb2.fr hf fun e => ?_, hno, hy.len, by rw [hy.len]; exact uClWin1, ?_⟩
    · have := hO2 _ e; omega
    · have := all_one hy.ones; simpa using this
  have hwr : IntKind.i64.wrap (dd) = dd := IntWalk.i64_in _ ⟨by omega, by omega⟩
  have H3 := Lib.hid c3
  have H5 := Lib.hid c5
  have H1 := Lib.hid hb1
  have Hm := Lib.hid uIm
  clear hb3 hb5 c3 c5 hb1 hb2 hx h hf0 hst hO2 ho3 ho5
  go_enter Tryz.func126, Tryz.ntmps126
  go_upto_region 1 with (fail)
  go_wp2_with (first | (refine wpList_load_part rfl 73 _ rfl _ Tryz.underlying73 rfl _ _ _ _ [M.v] rfl H3.out Hm.out rfl ?_) | (refine wpList_load_part rfl 31 _ rfl _ Tryz.underlying31 rfl _ _ _ _ x.c rfl H1.out Hx2.out (by rw [List.drop_zero, List.take_length]) ?_) | (refine wpList_load_one rfl 3 _ rfl _ Tryz.underlying3 rfl _ _ _ _ _ rfl H5.out rfl ?_) | (go_at_call 36; refine hcall.out.mono ?_; rintro e w3 ⟨y, s', rfl, hf, hv, hy, hm, k2, hno, hyl, hyi, hy1⟩) | (refine wpList_store_blk rfl 31 _ _ rfl _ _ _ _ y.c rfl rfl k2 hyi (by simp [hyl]) hy1 ?_; intro w4 hw4))
  rw [setL_all _ _ (by rw [hyl]; rfl)] at hw4
  refine bodyPost_blk rfl (W.heap.size + 1) y.c _ rfl _ hw4.bk Tryz.underlying31 rfl hyi rfl ?_
  exact ⟨y, s', rfl, hf.wrt hw4 (by omega) hno, hv, (hy.wrt hw4 (by omega) (by omega)).lower (by omega), hm⟩
theorem uClWin2 : (Tryz.prog.info? 105).map (·.size) = some 16 := by kernel_rfl
set_option maxRecDepth 100000 in
set_option maxHeartbeats 2000000 in
theorem closWin2 (N : Nat) (h : HT 115 .key N) : HC 127 .key N 0 := by
  intro σ M x d dd s W b3 b5 hdd hn hd hd0 hd2 hst hx hb3 hb5 ho3 ho5 hcn
  obtain rfl : dd = d := by omega
  clear hdd
  have hB := M.C.base s W hst
  obtain ⟨w1, hw1⟩ : ∃ w1, W.alloc (.cells x.c.toArray 105) = w1 := ⟨_, rfl⟩
  obtain ⟨w2, hw2⟩ : ∃ w2, w1.alloc (.cells #[.int .i64 0, .int .i64 0, .int .i64 0, .int .i64 0, .int .i64 0, .int .i64 0, .slice none 0 0, .int .i64 0, .int .i64 0, .int .i64 0, .string ⟨#[]⟩, .slice none 0 0, .slice none 0 0, .slice none 0 0, .bool false, .bool false] 105) = w2 := ⟨_, rfl⟩
  have hz1 : w1.heap.size = W.heap.size + 1 := by rw [← hw1]; simp
  have hz2 : w2.heap.size = W.heap.size + 2 := by rw [← hw2]; simp [hz1]
  have hb1 : Bk w2 W.heap.size x.c 105 := by rw [← hw2, ← hw1]; exact (Bk.new W x.c _).alloc _
  have hb2 : Bk w2 (W.heap.size + 1) [.int .i64 0, .int .i64 0, .int .i64 0, .int .i64 0, .int .i64 0, .int .i64 0, .slice none 0 0, .int .i64 0, .int .i64 0, .int .i64 0, .string ⟨#[]⟩, .slice none 0 0, .slice none 0 0, .slice none 0 0, .bool false, .bool false] 105 := by rw [← hw2, ← hz1]; exact Bk.new w1 [.int .i64 0, .int .i64 0, .int .i64 0, .int .i64 0, .int .i64 0, .int .i64 0, .slice none 0 0, .int .i64 0, .int .i64 0, .int .i64 0, .string ⟨#[]⟩, .slice none 0 0, .slice none 0 0, .slice none 0 0, .bool false, .bool false] _
  have hbw : Below W.heap.size W w2 := by rw [← hw2, ← hw1]; exact ((Below.refl _ _).alloc (Nat.le_refl _) _).alloc (by simp) _
  have hf0 : Fr M.C s W s w2 := Fr.below hst hbw
  have c3 : Bk w2 b3 [M.v] 73 := hb3.fr hf0 ho3
  have c5 : Bk w2 b5 [.int .i64 dd] 3 := hb5.fr hf0 ho5
  have hO2 : ∀ k, M.C.O s k → k < W.heap.size := M.C.lt s W hst
  have Hx1 : Hid (x.c.length = 16) := hx.len
  have Hx2 : Hid ((Tryz.prog.info? 105).map (·.size) = some x.c.length) := by show _ = _; rw [hx.len]; exact uClWin2
  have Hx3 := Lib.hid (all_one hx.ones)
  have hcall : Hid (Calls Tryz.prog 115 #[.agg #[M.v], .agg x.c.toArray, .int .i64 (dd)] w2 fun e w3 => ∃ (y : DT) (s' : σ), e = .returned (.agg y.c.toArray) ∧ Fr M.C s W s' w3 ∧ M.vst s s' x.n (Vs M.m .key (dd) x) ∧ UIn (Nw M.C w2.heap.size s' w3) w3 .key y ∧ Mp M.m .key (dd) x y ∧ Bk w3 (W.heap.size + 1) [.int .i64 0, .int .i64 0, .int .i64 0, .int .i64 0, .int .i64 0, .int .i64 0, .slice none 0 0, .int .i64 0, .int .i64 0, .int .i64 0, .string ⟨#[]⟩, .slice none 0 0, .slice none 0 0, .slice none 0 0, .bool false, .bool false] 105 ∧ ¬ M.C.O s' (W.heap.size + 1) ∧
      y.c.length = 16 ∧ (Tryz.prog.info? 105).map (·.size) = some y.c.length ∧ y.c.all (·.oneCell') = true) := by
    refine (h σ M x (dd) s w2 hn hd0 hd2 hf0.st (hx.keep (hf0.src hst) fun _ h => h) hcn).mono ?_
    rintro e w3 ⟨y, s', rfl, hf, hv, hy, hm⟩
    have hno : ¬ M.C.O s' (W.heap.size + 1) := fun e => by
      rcases hf.own _ e with e | e
      · have := hO2 _ e; omega
      · omega
    refine ⟨y, s', rfl, hf0.trans hf, hv, hy, hm, hb2.fr hf fun e => ?_, hno, hy.len, by rw [hy.len]; exact uClWin2, ?_⟩
    · have := hO2 _ e; omega
    · have := all_one hy.ones; simpa using this
  have hwr : IntKind.i64.wrap (dd) = dd := IntWalk.i64_in _ ⟨by omega, by omega⟩
  have H3 := Lib.hid c3
  have H5 := Lib.hid c5
  have H1 := Lib.hid hb1
  have Hm := Lib.hid uIm
  clear hb3 hb5 c3 c5 hb1 hb2 hx h hf0 hst hO2 ho3 ho5
  go_enter Tryz.func127, Tryz.ntmps127
  go_upto_region 1 with (fail)
  go_wp2_with (first | (refine wpList_load_part rfl 73 _ rfl _ Tryz.underlying73 rfl _ _ _ _ [M.v] rfl H3.out Hm.out rfl ?_) | (refine wpList_load_part rfl 105 _ rfl _ Tryz.underlying105 rfl _ _ _ _ x.c rfl H1.out Hx2.out (by rw [List.drop_zero, List.take_length]) ?_) | (refine wpList_load_one rfl 3 _ rfl _ Tryz.underlying3 rfl _ _ _ _ _ rfl H5.out rfl ?_) | (go_at_call 115; refine hcall.out.mono ?_; rintro e w3 ⟨y, s', rfl, hf, hv, hy, hm, k2, hno, hyl, hyi, hy1⟩) | (refine wpList_store_blk rfl 105 _ _ rfl _ _ _ _ y.c rfl rfl k2 hyi (by simp [hyl]) hy1 ?_; intro w4 hw4))
  rw [setL_all _ _ (by rw [hyl]; rfl)] at hw4
  refine bodyPost_blk rfl (W.heap.size + 1) y.c _ rfl _ hw4.bk Tryz.underlying105 rfl hyi rfl ?_
  exact ⟨y, s', rfl, hf.wrt hw4 (by omega) hno, hv, (hy.wrt hw4 (by omega) (by omega)).lower (by omega), hm⟩
theorem uClWin3 : (Tryz.prog.info? 99).map (·.size) = some 5 := by kernel_rfl
set_option maxRecDepth 100000 in
set_option maxHeartbeats 2000000 in
theorem closWin3 (N : Nat) (h : HT 109 .agg N) : HC 128 .agg N 0 := by
  intro σ M x d dd s W b3 b5 hdd hn hd hd0 hd2 hst hx hb3 hb5 ho3 ho5 hcn
  obtain rfl : dd = d := by omega
  clear hdd
  have hB := M.C.base s W hst
  obtain ⟨w1, hw1⟩ : ∃ w1, W.alloc (.cells x.c.toArray 99) = w1 := ⟨_, rfl⟩
  obtain ⟨w2, hw2⟩ : ∃ w2, w1.alloc (.cells #[.int .i64 0, .int .i64 0, .bool false, .slice none 0 0, .slice none 0 0] 99) = w2 := ⟨_, rfl⟩
  have hz1 : w1.heap.size = W.heap.size + 1 := by rw [← hw1]; simp
  have hz2 : w2.heap.size = W.heap.size + 2 := by rw [← hw2]; simp [hz1]
  have hb1 : Bk w2 W.heap.size x.c 99 := by rw [← hw2, ← hw1]; exact (Bk.new W x.c _).alloc _
  have hb2 : Bk w2 (W.heap.size + 1) [.int .i64 0, .int .i64 0, .bool false, .slice none 0 0, .slice none 0 0] 99 := by rw [← hw2, ← hz1]; exact Bk.new w1 [.int .i64 0, .int .i64 0, .bool false, .slice none 0 0, .slice none 0 0] _
  have hbw : Below W.heap.size W w2 := by rw [← hw2, ← hw1]; exact ((Below.refl _ _).alloc (Nat.le_refl _) _).alloc (by simp) _
  have hf0 : Fr M.C s W s w2 := Fr.below hst hbw
  have c3 : Bk w2 b3 [M.v] 73 := hb3.fr hf0 ho3
  have c5 : Bk w2 b5 [.int .i64 dd] 3 := hb5.fr hf0 ho5
  have hO2 : ∀ k, M.C.O s k → k < W.heap.size := M.C.lt s W hst
  have Hx1 : Hid (x.c.length = 5) := hx.len
  have Hx2 : Hid ((Tryz.prog.info? 99).map (·.size) = some x.c.length) := by show _ = _; rw [hx.len]; exact uClWin3
  have Hx3 := Lib.hid (all_one hx.ones)
  have hcall : Hid (Calls Tryz.prog 109 #[.agg #[M.v], .agg x.c.toArray, .int .i64 (dd)] w2 fun e w3 => ∃ (y : DT) (s' : σ), e = .returned (.agg y.c.toArray) ∧ Fr M.C s W s' w3 ∧ M.vst s s' x.n (Vs M.m .agg (dd) x) ∧ UIn (Nw M.C w2.heap.size s' w3) w3 .agg y ∧ Mp M.m .agg (dd) x y ∧ Bk w3 (W.heap.size + 1) [.int .i64 0, .int .i64 0, .bool false, .slice none 0 0, .slice none 0 0] 99 ∧ ¬ M.C.O s' (W.heap.size + 1) ∧
      y.c.length = 5 ∧ (Tryz.prog.info? 99).map (·.size) = some y.c.length ∧ y.c.all (·.oneCell') = true) := by
    refine (h σ M x (dd) s w2 hn hd0 hd2 hf0.st (hx.keep (hf0.src hst) fun _ h => h) hcn).mono ?_
    rintro e w3 ⟨y, s', rfl, hf, hv, hy, hm⟩
    have hno : ¬ M.C.O s' (W.heap.size + 1) := fun e => by
      rcases hf.own _ e with e | e
      · have := hO2 _ e; omega
      · omega
    refine ⟨y, s', rfl, hf0.trans hf, hv, hy, hm, hb2.fr hf fun e => ?_, hno, hy.len, by rw [hy.len]; exact uClWin3, ?_⟩
    · have := hO2 _ e; omega
    · have := all_one hy.ones; simpa using this
  have hwr : IntKind.i64.wrap (dd) = dd := IntWalk.i64_in _ ⟨by omega, by omega⟩
  have H3 := Lib.hid c3
  have H5 := Lib.hid c5
  have H1 := Lib.hid hb1
  have Hm := Lib.hid uIm
  clear hb3 hb5 c3 c5 hb1 hb2 hx h hf0 hst hO2 ho3 ho5
  go_enter Tryz.func128, Tryz.ntmps128
  go_upto_region 1 with (fail)
  go_wp2_with (first | (refine wpList_load_part rfl 73 _ rfl _ Tryz.underlying73 rfl _ _ _ _ [M.v] rfl H3.out Hm.out rfl ?_) | (refine wpList_load_part rfl 99 _ rfl _ Tryz.underlying99 rfl _ _ _ _ x.c rfl H1.out Hx2.out (by rw [List.drop_zero, List.take_length]) ?_) | (refine wpList_load_one rfl 3 _ rfl _ Tryz.underlying3 rfl _ _ _ _ _ rfl H5.out rfl ?_) | (go_at_call 109; refine hcall.out.mono ?_; rintro e w3 ⟨y, s', rfl, hf, hv, hy, hm, k2, hno, hyl, hyi, hy1⟩) | (refine wpList_store_blk rfl 99 _ _ rfl _ _ _ _ y.c rfl rfl k2 hyi (by simp [hyl]) hy1 ?_; intro w4 hw4))
  rw [setL_all _ _ (by rw [hyl]; rfl)] at hw4
  refine bodyPost_blk rfl (W.heap.size + 1) y.c _ rfl _ hw4.bk Tryz.underlying99 rfl hyi rfl ?_
  exact ⟨y, s', rfl, hf.wrt hw4 (by omega) hno, hv, (hy.wrt hw4 (by omega) (by omega)).lower (by omega), hm⟩
theorem uClOwn2 : (Tryz.prog.info? 31).map (·.size) = some 14 := by kernel_rfl
set_option maxRecDepth 100000 in
set_option maxHeartbeats 2000000 in
theorem closOwn2 (N : Nat) (h : HT 36 .expr N) : HC 103 .expr N 0 := by
  intro σ M x d dd s W b3 b5 hdd hn hd hd0 hd2 hst hx hb3 hb5 ho3 ho5 hcn
  obtain rfl : dd = d := by omega
  clear hdd
  have hB := M.C.base s W hst
  obtain ⟨w1, hw1⟩ : ∃ w1, W.alloc (.cells x.c.toArray 31) = w1 := ⟨_, rfl⟩
  obtain ⟨w2, hw2⟩ : ∃ w2, w1.alloc (.cells #[.int .i64 0, .int .i64 0, .int .i64 0, .int .i64 0, .int .i64 0, .int .i64 0, .slice none 0 0, .int .i64 0, .int .i64 0, .int .i64 0, .string ⟨#[]⟩, .slice none 0 0, .slice none 0 0, .slice none 0 0] 31) = w2 := ⟨_, rfl⟩
  have hz1 : w1.heap.size = W.heap.size + 1 := by rw [← hw1]; simp
  have hz2 : w2.heap.size = W.heap.size + 2 := by rw [← hw2]; simp [hz1]
  have hb1 : Bk w2 W.heap.size x.c 31 := by rw [← hw2, ← hw1]; exact (Bk.new W x.c _).alloc _
  have hb2 : Bk w2 (W.heap.size + 1) [.int .i64 0, .int .i64 0, .int .i64 0, .int .i64 0, .int .i64 0, .int .i64 0, .slice none 0 0, .int .i64 0, .int .i64 0, .int .i64 0, .string ⟨#[]⟩, .slice none 0 0, .slice none 0 0, .slice none 0 0] 31 := by rw [← hw2, ← hz1]; exact Bk.new w1 [.int .i64 0, .int .i64 0, .int .i64 0, .int .i64 0, .int .i64 0, .int .i64 0, .slice none 0 0, .int .i64 0, .int .i64 0, .int .i64 0, .string ⟨#[]⟩, .slice none 0 0, .slice none 0 0, .slice none 0 0] _
  have hbw : Below W.heap.size W w2 := by rw [← hw2, ← hw1]; exact ((Below.refl _ _).alloc (Nat.le_refl _) _).alloc (by simp) _
  have hf0 : Fr M.C s W s w2 := Fr.below hst hbw
  have c3 : Bk w2 b3 [M.v] 73 := hb3.fr hf0 ho3
  have c5 : Bk w2 b5 [.int .i64 dd] 3 := hb5.fr hf0 ho5
  have hO2 : ∀ k, M.C.O s k → k < W.heap.size := M.C.lt s W hst
  have Hx1 : Hid (x.c.length = 14) := hx.len
  have Hx2 : Hid ((Tryz.prog.info? 31).map (·.size) = some x.c.length) := by show _ = _; rw [hx.len]; exact uClOwn2
  have Hx3 := Lib.hid (all_one hx.ones)
  have hcall : Hid (Calls Tryz.prog 36 #[.agg #[M.v], .agg x.c.toArray, .int .i64 (dd)] w2 fun e w3 => ∃ (y : DT) (s' : σ), e = .returned (.agg y.c.toArray) ∧ Fr M.C s W s' w3 ∧ M.vst s s' x.n (Vs M.m .expr (dd) x) ∧ UIn (Nw M.C w2.heap.size s' w3) w3 .expr y ∧ Mp M.m .expr (dd) x y ∧ Bk w3 (W.heap.size + 1) [.int .i64 0, .int .i64 0, .int .i64 0, .int .i64 0, .int .i64 0, .int .i64 0, .slice none 0 0, .int .i64 0, .int .i64 0, .int .i64 0, .string ⟨#[]⟩, .slice none 0 0, .slice none 0 0, .slice none 0 0] 31 ∧ ¬ M.C.O s' (W.heap.size + 1) ∧
      y.c.length = 14 ∧ (Tryz.prog.info? 31).map (·.size) = some y.c.length ∧ y.c.all (·.oneCell') = true) := by
    refine (h σ M x (dd) s w2 hn hd0 hd2 hf0.st (hx.keep (hf0.src hst) fun _ h => h) hcn).mono ?_
    rintro e w3 ⟨y, s', rfl, hf, hv, hy, hm⟩
    have hno : ¬ M.C.O s' (W.heap.size + 1) := fun e => by
      rcases hf.own _ e with e | e
      · have := hO2 _ e; omega
      · omega
    refine ⟨y, s', rfl, hf0.trans hf, hv, hy, hm, hb2.fr hf fun e => ?_, hno, hy.len, by rw [hy.len]; exact uClOwn2, ?_⟩
    · have := hO2 _ e; omega
    · have := all_one hy.ones; simpa using this
  have hwr : IntKind.i64.wrap (dd) = dd := IntWalk.i64_in _ ⟨by omega, by omega⟩
  have H3 := Lib.hid c3
  have H5 := Lib.hid c5
  have H1 := Lib.hid hb1
  have Hm := Lib.hid uIm
  clear hb3 hb5 c3 c5 hb1 hb2 hx h hf0 hst hO2 ho3 ho5
  go_enter Tryz.func103, Tryz.ntmps103
  go_upto_region 1 with (fail)
  go_wp2_with (first | (refine wpList_load_part rfl 73 _ rfl _ Tryz.underlying73 rfl _ _ _ _ [M.v] rfl H3.out Hm.out rfl ?_) | (refine wpList_load_part rfl 31 _ rfl _ Tryz.underlying31 rfl _ _ _ _ x.c rfl H1.out Hx2.out (by rw [List.drop_zero, List.take_length]) ?_) | (refine wpList_load_one rfl 3 _ rfl _ Tryz.underlying3 rfl _ _ _ _ _ rfl H5.out rfl ?_) | (go_at_call 36; refine hcall.out.mono ?_; rintro e w3 ⟨y, s', rfl, hf, hv, hy, hm, k2, hno, hyl, hyi, hy1⟩) | (refine wpList_store_blk rfl 31 _ _ rfl _ _ _ _ y.c rfl rfl k2 hyi (by simp [hyl]) hy1 ?_; intro w4 hw4))
  rw [setL_all _ _ (by rw [hyl]; rfl)] at hw4
  refine bodyPost_blk rfl (W.heap.size + 1) y.c _ rfl _ hw4.bk Tryz.underlying31 rfl hyi rfl ?_
  exact ⟨y, s', rfl, hf.wrt hw4 (by omega) hno, hv, (hy.wrt hw4 (by omega) (by omega)).lower (by omega), hm⟩
theorem uClOwn4 : (Tryz.prog.info? 99).map (·.size) = some 5 := by kernel_rfl
set_option maxRecDepth 100000 in
set_option maxHeartbeats 2000000 in
theorem closOwn4 (N : Nat) (h : HT 109 .agg N) : HC 108 .agg N 0 := by
  intro σ M x d dd s W b3 b5 hdd hn hd hd0 hd2 hst hx hb3 hb5 ho3 ho5 hcn
  obtain rfl : dd = d := by omega
  clear hdd
  have hB := M.C.base s W hst
  obtain ⟨w1, hw1⟩ : ∃ w1, W.alloc (.cells x.c.toArray 99) = w1 := ⟨_, rfl⟩
  obtain ⟨w2, hw2⟩ : ∃ w2, w1.alloc (.cells #[.int .i64 0, .int .i64 0, .bool false, .slice none 0 0, .slice none 0 0] 99) = w2 := ⟨_, rfl⟩
  have hz1 : w1.heap.size = W.heap.size + 1 := by rw [← hw1]; simp
  have hz2 : w2.heap.size = W.heap.size + 2 := by rw [← hw2]; simp [hz1]
  have hb1 : Bk w2 W.heap.size x.c 99 := by rw [← hw2, ← hw1]; exact (Bk.new W x.c _).alloc _
  have hb2 : Bk w2 (W.heap.size + 1) [.int .i64 0, .int .i64 0, .bool false, .slice none 0 0, .slice none 0 0] 99 := by rw [← hw2, ← hz1]; exact Bk.new w1 [.int .i64 0, .int .i64 0, .bool false, .slice none 0 0, .slice none 0 0] _
  have hbw : Below W.heap.size W w2 := by rw [← hw2, ← hw1]; exact ((Below.refl _ _).alloc (Nat.le_refl _) _).alloc (by simp) _
  have hf0 : Fr M.C s W s w2 := Fr.below hst hbw
  have c3 : Bk w2 b3 [M.v] 73 := hb3.fr hf0 ho3
  have c5 : Bk w2 b5 [.int .i64 dd] 3 := hb5.fr hf0 ho5
  have hO2 : ∀ k, M.C.O s k → k < W.heap.size := M.C.lt s W hst
  have Hx1 : Hid (x.c.length = 5) := hx.len
  have Hx2 : Hid ((Tryz.prog.info? 99).map (·.size) = some x.c.length) := by show _ = _; rw [hx.len]; exact uClOwn4
  have Hx3 := Lib.hid (all_one hx.ones)
  have hcall : Hid (Calls Tryz.prog 109 #[.agg #[M.v], .agg x.c.toArray, .int .i64 (dd)] w2 fun e w3 => ∃ (y : DT) (s' : σ), e = .returned (.agg y.c.toArray) ∧ Fr M.C s W s' w3 ∧ M.vst s s' x.n (Vs M.m .agg (dd) x) ∧ UIn (Nw M.C w2.heap.size s' w3) w3 .agg y ∧ Mp M.m .agg (dd) x y ∧ Bk w3 (W.heap.size + 1) [.int .i64 0, .int .i64 0, .bool false, .slice none 0 0, .slice none 0 0] 99 ∧ ¬ M.C.O s' (W.heap.size + 1) ∧
      y.c.length = 5 ∧ (Tryz.prog.info? 99).map (·.size) = some y.c.length ∧ y.c.all (·.oneCell') = true) := by
    refine (h σ M x (dd) s w2 hn hd0 hd2 hf0.st (hx.keep (hf0.src hst) fun _ h => h) hcn).mono ?_
    rintro e w3 ⟨y, s', rfl, hf, hv, hy, hm⟩
    have hno : ¬ M.C.O s' (W.heap.size + 1) := fun e => by
      rcases hf.own _ e with e | e
      · have := hO2 _ e; omega
      · omega
    refine ⟨y, s', rfl, hf0.trans hf, hv, hy, hm, hb2.fr hf fun e => ?_, hno, hy.len, by rw [hy.len]; exact uClOwn4, ?_⟩
    · have := hO2 _ e; omega
    · have := all_one hy.ones; simpa using this
  have hwr : IntKind.i64.wrap (dd) = dd := IntWalk.i64_in _ ⟨by omega, by omega⟩
  have H3 := Lib.hid c3
  have H5 := Lib.hid c5
  have H1 := Lib.hid hb1
  have Hm := Lib.hid uIm
  clear hb3 hb5 c3 c5 hb1 hb2 hx h hf0 hst hO2 ho3 ho5
  go_enter Tryz.func108, Tryz.ntmps108
  go_upto_region 1 with (fail)
  go_wp2_with (first | (refine wpList_load_part rfl 73 _ rfl _ Tryz.underlying73 rfl _ _ _ _ [M.v] rfl H3.out Hm.out rfl ?_) | (refine wpList_load_part rfl 99 _ rfl _ Tryz.underlying99 rfl _ _ _ _ x.c rfl H1.out Hx2.out (by rw [List.drop_zero, List.take_length]) ?_) | (refine wpList_load_one rfl 3 _ rfl _ Tryz.underlying3 rfl _ _ _ _ _ rfl H5.out rfl ?_) | (go_at_call 109; refine hcall.out.mono ?_; rintro e w3 ⟨y, s', rfl, hf, hv, hy, hm, k2, hno, hyl, hyi, hy1⟩) | (refine wpList_store_blk rfl 99 _ _ rfl _ _ _ _ y.c rfl rfl k2 hyi (by simp [hyl]) hy1 ?_; intro w4 hw4))
  rw [setL_all _ _ (by rw [hyl]; rfl)] at hw4
  refine bodyPost_blk rfl (W.heap.size + 1) y.c _ rfl _ hw4.bk Tryz.underlying99 rfl hyi rfl ?_
  exact ⟨y, s', rfl, hf.wrt hw4 (by omega) hno, hv, (hy.wrt hw4 (by omega) (by omega)).lower (by omega), hm⟩
theorem uClOwn5 : (Tryz.prog.info? 103).map (·.size) = some 12 := by kernel_rfl
set_option maxRecDepth 100000 in
set_option maxHeartbeats 2000000 in
theorem closOwn5 (N : Nat) (h : HT 112 .win N) : HC 111 .win N 0 := by
  intro σ M x d dd s W b3 b5 hdd hn hd hd0 hd2 hst hx hb3 hb5 ho3 ho5 hcn
  obtain rfl : dd = d := by omega
  clear hdd
  have hB := M.C.base s W hst
  obtain ⟨w1, hw1⟩ : ∃ w1, W.alloc (.cells x.c.toArray 103) = w1 := ⟨_, rfl⟩
  obtain ⟨w2, hw2⟩ : ∃ w2, w1.alloc (.cells #[.int .i64 0, .int .i64 0, .slice none 0 0, .slice none 0 0, .slice none 0 0, .slice none 0 0, .slice none 0 0, .int .i64 0, .int .i64 0, .int .i64 0, .int .i64 0, .int .i64 0] 103) = w2 := ⟨_, rfl⟩
  have hz1 : w1.heap.size = W.heap.size + 1 := by rw [← hw1]; simp
  have hz2 : w2.heap.size = W.heap.size + 2 := by rw [← hw2]; simp [hz1]
  have hb1 : Bk w2 W.heap.size x.c 103 := by rw [← hw2, ← hw1]; exact (Bk.new W x.c _).alloc _
  have hb2 : Bk w2 (W.heap.size + 1) [.int .i64 0, .int .i64 0, .slice none 0 0, .slice none 0 0, .slice none 0 0, .slice none 0 0, .slice none 0 0, .int .i64 0, .int .i64 0, .int .i64 0, .int .i64 0, .int .i64 0] 103 := by rw [← hw2, ← hz1]; exact Bk.new w1 [.int .i64 0, .int .i64 0, .slice none 0 0, .slice none 0 0, .slice none 0 0, .slice none 0 0, .slice none 0 0, .int .i64 0, .int .i64 0, .int .i64 0, .int .i64 0, .int .i64 0] _
  have hbw : Below W.heap.size W w2 := by rw [← hw2, ← hw1]; exact ((Below.refl _ _).alloc (Nat.le_refl _) _).alloc (by simp) _
  have hf0 : Fr M.C s W s w2 := Fr.below hst hbw
  have c3 : Bk w2 b3 [M.v] 73 := hb3.fr hf0 ho3
  have c5 : Bk w2 b5 [.int .i64 dd] 3 := hb5.fr hf0 ho5
  have hO2 : ∀ k, M.C.O s k → k < W.heap.size := M.C.lt s W hst
  have Hx1 : Hid (x.c.length = 12) := hx.len
  have Hx2 : Hid ((Tryz.prog.info? 103).map (·.size) = some x.c.length) := by show _ = _; rw [hx.len]; exact uClOwn5
  have Hx3 := Lib.hid (all_one hx.ones)
  have hcall : Hid (Calls Tryz.prog 112 #[.agg #[M.v], .agg x.c.toArray, .int .i64 (dd)] w2 fun e w3 => ∃ (y : DT) (s' : σ), e = .returned (.agg y.c.toArray) ∧ Fr M.C s W s' w3 ∧ M.vst s s' x.n (Vs M.m .win (dd) x) ∧ UIn (Nw M.C w2.heap.size s' w3) w3 .win y ∧ Mp M.m .win (dd) x y ∧ Bk w3 (W.heap.size + 1) [.int .i64 0, .int .i64 0, .slice none 0 0, .slice none 0 0, .slice none 0 0, .slice none 0 0, .slice none 0 0, .int .i64 0, .int .i64 0, .int .i64 0, .int .i64 0, .int .i64 0] 103 ∧ ¬ M.C.O s' (W.heap.size + 1) ∧
      y.c.length = 12 ∧ (Tryz.prog.info? 103).map (·.size) = some y.c.length ∧ y.c.all (·.oneCell') = true) := by
    refine (h σ M x (dd) s w2 hn hd0 hd2 hf0.st (hx.keep (hf0.src hst) fun _ h => h) hcn).mono ?_
    rintro e w3 ⟨y, s', rfl, hf, hv, hy, hm⟩
    have hno : ¬ M.C.O s' (W.heap.size + 1) := fun e => by
      rcases hf.own _ e with e | e
      · have := hO2 _ e; omega
      · omega
    refine ⟨y, s', rfl, hf0.trans hf, hv, hy, hm, hb2.fr hf fun e => ?_, hno, hy.len, by rw [hy.len]; exact uClOwn5, ?_⟩
    · have := hO2 _ e; omega
    · have := all_one hy.ones; simpa using this
  have hwr : IntKind.i64.wrap (dd) = dd := IntWalk.i64_in _ ⟨by omega, by omega⟩
  have H3 := Lib.hid c3
  have H5 := Lib.hid c5
  have H1 := Lib.hid hb1
  have Hm := Lib.hid uIm
  clear hb3 hb5 c3 c5 hb1 hb2 hx h hf0 hst hO2 ho3 ho5
  go_enter Tryz.func111, Tryz.ntmps111
  go_upto_region 1 with (fail)
  go_wp2_with (first | (refine wpList_load_part rfl 73 _ rfl _ Tryz.underlying73 rfl _ _ _ _ [M.v] rfl H3.out Hm.out rfl ?_) | (refine wpList_load_part rfl 103 _ rfl _ Tryz.underlying103 rfl _ _ _ _ x.c rfl H1.out Hx2.out (by rw [List.drop_zero, List.take_length]) ?_) | (refine wpList_load_one rfl 3 _ rfl _ Tryz.underlying3 rfl _ _ _ _ _ rfl H5.out rfl ?_) | (go_at_call 112; refine hcall.out.mono ?_; rintro e w3 ⟨y, s', rfl, hf, hv, hy, hm, k2, hno, hyl, hyi, hy1⟩) | (refine wpList_store_blk rfl 103 _ _ rfl _ _ _ _ y.c rfl rfl k2 hyi (by simp [hyl]) hy1 ?_; intro w4 hw4))
  rw [setL_all _ _ (by rw [hyl]; rfl)] at hw4
  refine bodyPost_blk rfl (W.heap.size + 1) y.c _ rfl _ hw4.bk Tryz.underlying103 rfl hyi rfl ?_
  exact ⟨y, s', rfl, hf.wrt hw4 (by omega) hno, hv, (hy.wrt hw4 (by omega) (by omega)).lower (by omega), hm⟩
theorem uClOwn6 : (Tryz.prog.info? 105).map (·.size) = some 16 := by kernel_rfl
set_option maxRecDepth 100000 in
set_option maxHeartbeats 2000000 in
theorem closOwn6 (N : Nat) (h : HT 115 .key N) : HC 114 .key N 0 := by
  intro σ M x d dd s W b3 b5 hdd hn hd hd0 hd2 hst hx hb3 hb5 ho3 ho5 hcn
  obtain rfl : dd = d := by omega
  clear hdd
  have hB := M.C.base s W hst
  obtain ⟨w1, hw1⟩ : ∃ w1, W.alloc (.cells x.c.toArray 105) = w1 := ⟨_, rfl⟩
  obtain ⟨w2, hw2⟩ : ∃ w2, w1.alloc (.cells #[.int .i64 0, .int .i64 0, .int .i64 0, .int .i64 0, .int .i64 0, .int .i64 0, .slice none 0 0, .int .i64 0, .int .i64 0, .int .i64 0, .string ⟨#[]⟩, .slice none 0 0, .slice none 0 0, .slice none 0 0, .bool false, .bool false] 105) = w2 := ⟨_, rfl⟩
  have hz1 : w1.heap.size = W.heap.size + 1 := by rw [← hw1]; simp
  have hz2 : w2.heap.size = W.heap.size + 2 := by rw [← hw2]; simp [hz1]
  have hb1 : Bk w2 W.heap.size x.c 105 := by rw [← hw2, ← hw1]; exact (Bk.new W x.c _).alloc _
  have hb2 : Bk w2 (W.heap.size + 1) [.int .i64 0, .int .i64 0, .int .i64 0, .int .i64 0, .int .i64 0, .int .i64 0, .slice none 0 0, .int .i64 0, .int .i64 0, .int .i64 0, .string ⟨#[]⟩, .slice none 0 0, .slice none 0 0, .slice none 0 0, .bool false, .bool false] 105 := by rw [← hw2, ← hz1]; exact Bk.new w1 [.int .i64 0, .int .i64 0, .int .i64 0, .int .i64 0, .int .i64 0, .int .i64 0, .slice none 0 0, .int .i64 0, .int .i64 0, .int .i64 0, .string ⟨#[]⟩, .slice none 0 0, .slice none 0 0, .slice none 0 0, .bool false, .bool false] _
  have hbw : Below W.heap.size W w2 := by rw [← hw2, ← hw1]; exact ((Below.refl _ _).alloc (Nat.le_refl _) _).alloc (by simp) _
  have hf0 : Fr M.C s W s w2 := Fr.below hst hbw
  have c3 : Bk w2 b3 [M.v] 73 := hb3.fr hf0 ho3
  have c5 : Bk w2 b5 [.int .i64 dd] 3 := hb5.fr hf0 ho5
  have hO2 : ∀ k, M.C.O s k → k < W.heap.size := M.C.lt s W hst
  have Hx1 : Hid (x.c.length = 16) := hx.len
  have Hx2 : Hid ((Tryz.prog.info? 105).map (·.size) = some x.c.length) := by show _ = _; rw [hx.len]; exact uClOwn6
  have Hx3 := Lib.hid (all_one hx.ones)
  have hcall : Hid (Calls Tryz.prog 115 #[.agg #[M.v], .agg x.c.toArray, .int .i64 (dd)] w2 fun e w3 => ∃ (y : DT) (s' : σ), e = .returned (.agg y.c.toArray) ∧ Fr M.C s W s' w3 ∧ M.vst s s' x.n (Vs M.m .key (dd) x) ∧ UIn (Nw M.C w2.heap.size s' w3) w3 .key y ∧ Mp M.m .key (dd) x y ∧ Bk w3 (W.heap.size + 1) [.int .i64 0, .int .i64 0, .int .i64 0, .int .i64 0, .int .i64 0, .int .i64 0, .slice none 0 0, .int .i64 0, .int .i64 0, .int .i64 0, .string ⟨#[]⟩, .slice none 0 0, .slice none 0 0, .slice none 0 0, .bool false, .bool false] 105 ∧ ¬ M.C.O s' (W.heap.size + 1) ∧
      y.c.length = 16 ∧ (Tryz.prog.info? 105).map (·.size) = some y.c.length ∧ y.c.all (·.oneCell') = true) := by
    refine (h σ M x (dd) s w2 hn hd0 hd2 hf0.st (hx.keep (hf0.src hst) fun _ h => h) hcn).mono ?_
    rintro e w3 ⟨y, s', rfl, hf, hv, hy, hm⟩
    have hno : ¬ M.C.O s' (W.heap.size + 1) := fun e => by
      rcases hf.own _ e with e | e
      · have := hO2 _ e; omega
      · omega
    refine ⟨y, s', rfl, hf0.trans hf, hv, hy, hm, hb2.fr hf fun e => ?_, hno, hy.len, by rw [hy.len]; exact uClOwn6, ?_⟩
    · have := hO2 _ e; omega
    · have := all_one hy.ones; simpa using this
  have hwr : IntKind.i64.wrap (dd) = dd := IntWalk.i64_in _ ⟨by omega, by omega⟩
  have H3 := Lib.hid c3
  have H5 := Lib.hid c5
  have H1 := Lib.hid hb1
  have Hm := Lib.hid uIm
  clear hb3 hb5 c3 c5 hb1 hb2 hx h hf0 hst hO2 ho3 ho5
  go_enter Tryz.func114, Tryz.ntmps114
  go_upto_region 1 with (fail)
  go_wp2_with (first | (refine wpList_load_part rfl 73 _ rfl _ Tryz.underlying73 rfl _ _ _ _ [M.v] rfl H3.out Hm.out rfl ?_) | (refine wpList_load_part rfl 105 _ rfl _ Tryz.underlying105 rfl _ _ _ _ x.c rfl H1.out Hx2.out (by rw [List.drop_zero, List.take_length]) ?_) | (refine wpList_load_one rfl 3 _ rfl _ Tryz.underlying3 rfl _ _ _ _ _ rfl H5.out rfl ?_) | (go_at_call 115; refine hcall.out.mono ?_; rintro e w3 ⟨y, s', rfl, hf, hv, hy, hm, k2, hno, hyl, hyi, hy1⟩) | (refine wpList_store_blk rfl 105 _ _ rfl _ _ _ _ y.c rfl rfl k2 hyi (by simp [hyl]) hy1 ?_; intro w4 hw4))
  rw [setL_all _ _ (by rw [hyl]; rfl)] at hw4
  refine bodyPost_blk rfl (W.heap.size + 1) y.c _ rfl _ hw4.bk Tryz.underlying105 rfl hyi rfl ?_
  exact ⟨y, s', rfl, hf.wrt hw4 (by omega) hno, hv, (hy.wrt hw4 (by omega) (by omega)).lower (by omega), hm⟩
end Go.Proofs.YthijagpnpcpcbaaGreat

