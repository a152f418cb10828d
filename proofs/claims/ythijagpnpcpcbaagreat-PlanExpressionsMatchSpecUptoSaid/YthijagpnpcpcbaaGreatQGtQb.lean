/-
  The methods of plan.mapper: their boxes; agg.
  plan.mapper.window. (printed by wip/gen_gtq.py)
-/
import Derived.Test.YthijagpnpcpcbaaGreatQGtPb
namespace Go.Proofs.YthijagpnpcpcbaaGreat
open Go.RowKit Go.Sort
/-- A method's boxes, at any later point: the mapper, the struct, the depth, the result. -/
structure Mx {σ : Type} (M : Mpr σ) (T : TypeId) (d : Int) (zs : List Value) (s0 : σ) (W : World) (cs : List Value) (s : σ) (w : World) : Prop where
  fr : Fr M.C s0 W s w
  sz : W.heap.size + 4 ≤ w.heap.size
  no : ∀ b, W.heap.size ≤ b → b < W.heap.size + 4 → ¬ M.C.O s b
  b3 : Bk w W.heap.size [M.v] 73
  b4 : Bk w (W.heap.size + 1) cs T
  b5 : Bk w (W.heap.size + 2) [.int .i64 d] 3
  b6 : Bk w (W.heap.size + 3) zs T
/-- What lists came to is kept. -/
def Tr {σ : Type} (M : Mpr σ) (b0 : Nat) (s : σ) (w : World) (s' : σ) (w' : World) : Prop := ∀ (t : Uy) (Rel : DT → DT → Prop) (l : List DT) (A : Option Addr) (ys : List DT), LR M.C b0 s w t Rel l A ys → LR M.C b0 s' w' t Rel l A ys
theorem Tr.refl {σ : Type} (M : Mpr σ) (b0 : Nat) (s : σ) (w : World) : Tr M b0 s w s w := fun _ _ _ _ _ h => h
theorem Tr.trans {σ : Type} {M : Mpr σ} {b0 : Nat} {s s' s'' : σ} {w w' w'' : World} (h : Tr M b0 s w s' w') (h' : Tr M b0 s' w' s'' w'') : Tr M b0 s w s'' w'' := fun _ _ _ _ _ x => h' _ _ _ _ _ (h _ _ _ _ _ x)
theorem Mx.call {σ : Type} {M : Mpr σ} {T : TypeId} {d : Int} {zs cs : List Value} {s0 s s' : σ} {W w w' : World} (h : Mx M T d zs s0 W cs s w) (hf : Fr M.C s w s' w') : Mx M T d zs s0 W cs s' w' ∧ Tr M (W.heap.size + 4) s w s' w' := by
  have hz := h.sz
  have hz2 := hf.size
  refine ⟨⟨h.fr.trans hf, by omega, fun b h1 h2 e => ?_, h.b3.fr hf (h.no _ (by omega) (by omega)), h.b4.fr hf (h.no _ (by omega) (by omega)), h.b5.fr hf (h.no _ (by omega) (by omega)), h.b6.fr hf (h.no _ (by omega) (by omega))⟩, fun _ _ _ _ _ x => x.fr hf⟩
  rcases hf.own b e with e | e
  · exact h.no b h1 h2 e
  · omega
theorem Mx.set {σ : Type} {M : Mpr σ} {T : TypeId} {d : Int} {zs cs cs' : List Value} {s0 s : σ} {W w w' : World} (hB : M.C.B ≤ W.heap.size) (h : Mx M T d zs s0 W cs s w) (hw : Wrt w (W.heap.size + 1) cs' T w') : Mx M T d zs s0 W cs' s w' ∧ Tr M (W.heap.size + 4) s w s w' :=
  ⟨⟨h.fr.wrt hw (by omega) (h.no _ (by omega) (by omega)), by rw [hw.size]; exact h.sz, h.no, h.b3.wrt hw (by omega), hw.bk, h.b5.wrt hw (by omega), h.b6.wrt hw (by omega)⟩, fun _ _ _ _ _ x => x.wrt hw (by omega) (by omega)⟩
theorem Mx.ret {σ : Type} {M : Mpr σ} {T : TypeId} {d : Int} {zs cs zs' : List Value} {s0 s : σ} {W w w' : World} (hB : M.C.B ≤ W.heap.size) (h : Mx M T d zs s0 W cs s w) (hw : Wrt w (W.heap.size + 3) zs' T w') : Fr M.C s0 W s w' ∧ Tr M (W.heap.size + 4) s w s w' :=
  ⟨h.fr.wrt hw (by omega) (h.no _ (by omega) (by omega)), fun _ _ _ _ _ x => x.wrt hw (by omega) (by omega)⟩
/-- What a list in a method comes to. -/
def MxPost {σ : Type} (M : Mpr σ) (T : TypeId) (d : Int) (zs : List Value) (s0 : σ) (W : World) (cs : List Value) (t : Uy) (dd : Int) (l : List DT) (s : σ) (w : World) (e : Ending) (w' : World) : Prop :=
  ∃ (A : Option Addr) (ys : List DT) (s' : σ), e = .returned (.slice A l.length l.length) ∧ Mx M T d zs s0 W cs s' w' ∧ Tr M (W.heap.size + 4) s w s' w' ∧ M.vst s s' (nL l) (VL M.m t dd l) ∧ LR M.C (W.heap.size + 4) s' w' t (Mp M.m t dd) l A ys
theorem Mx.post {σ : Type} {M : Mpr σ} {T : TypeId} {d : Int} {zs cs : List Value} {s0 s : σ} {W w : World} {t : Uy} {dd : Int} {l : List DT} {e : Ending} {w' : World} (h : Mx M T d zs s0 W cs s w) (hp : MLPost M t dd l s w e w') : MxPost M T d zs s0 W cs t dd l s w e w' := by
  obtain ⟨A, ys, s', he, hf, hv, hr⟩ := hp
  obtain ⟨h1, h2⟩ := h.call hf
  exact ⟨A, ys, s', he, h1, h2, hv, hr.lower h.sz⟩
/-- A list in a method, over a closure. -/
theorem Mx.listExp {N f : Nat} {δ : Int} (hf : HC f .expr N δ) (eg : ∀ args w, (callFunc f args).run Tryz.prog w = .ok (.enter f args) w) {σ : Type} {M : Mpr σ} {T : TypeId} {d : Int} {zs cs : List Value} {s0 s : σ} {W w : World} (hst : M.C.St s0 W) (h : Mx M T d zs s0 W cs s w) (dd : Int) (l : List DT) (A : Option Addr) (cap : Nat)
    (hdd : dd = d + δ) (hn : nL l < N) (hd : 0 ≤ d) (hd0 : 0 ≤ dd) (hd2 : dd + nL l ≤ 1048576) (hl : DRow (fun k => k < M.C.B) W 14 A cap l) (hin : ∀ x, x ∈ l → UIn (fun k => k < M.C.B) W .expr x) (hcn : M.cnt s + nL l ≤ 1048576) :
    Calls Tryz.prog 20 #[.slice A l.length cap, .func (.func f) #[] #[.pointer (some ⟨W.heap.size, 0, none⟩), .pointer (some ⟨W.heap.size + 2, 0, none⟩)]] w (MxPost M T d zs s0 W cs .expr dd l s w) :=
  (mlistExp N f δ hf eg M l A cap d dd s w W.heap.size (W.heap.size + 2) hdd hn hd hd0 hd2 h.fr.st (hl.keep (h.fr.src hst) fun _ h => h) (fun x hx => (hin x hx).keep (h.fr.src hst) fun _ h => h) h.b3 h.b5 (h.no _ (by omega) (by omega)) (h.no _ (by omega) (by omega)) hcn).mono fun _ _ hp => h.post hp
/-- A list in a method, over a closure. -/
theorem Mx.listRel {N f : Nat} {δ : Int} (hf : HC f .rel N δ) (eg : ∀ args w, (callFunc f args).run Tryz.prog w = .ok (.enter f args) w) {σ : Type} {M : Mpr σ} {T : TypeId} {d : Int} {zs cs : List Value} {s0 s : σ} {W w : World} (hst : M.C.St s0 W) (h : Mx M T d zs s0 W cs s w) (dd : Int) (l : List DT) (A : Option Addr) (cap : Nat)
    (hdd : dd = d + δ) (hn : nL l < N) (hd : 0 ≤ d) (hd0 : 0 ≤ dd) (hd2 : dd + nL l ≤ 1048576) (hl : DRow (fun k => k < M.C.B) W 14 A cap l) (hin : ∀ x, x ∈ l → UIn (fun k => k < M.C.B) W .rel x) (hcn : M.cnt s + nL l ≤ 1048576) :
    Calls Tryz.prog 61 #[.slice A l.length cap, .func (.func f) #[] #[.pointer (some ⟨W.heap.size, 0, none⟩), .pointer (some ⟨W.heap.size + 2, 0, none⟩)]] w (MxPost M T d zs s0 W cs .rel dd l s w) :=
  (mlistRel N f δ hf eg M l A cap d dd s w W.heap.size (W.heap.size + 2) hdd hn hd hd0 hd2 h.fr.st (hl.keep (h.fr.src hst) fun _ h => h) (fun x hx => (hin x hx).keep (h.fr.src hst) fun _ h => h) h.b3 h.b5 (h.no _ (by omega) (by omega)) (h.no _ (by omega) (by omega)) hcn).mono fun _ _ hp => h.post hp
/-- A list in a method, over a closure. -/
theorem Mx.listAgg {N f : Nat} {δ : Int} (hf : HC f .agg N δ) (eg : ∀ args w, (callFunc f args).run Tryz.prog w = .ok (.enter f args) w) {σ : Type} {M : Mpr σ} {T : TypeId} {d : Int} {zs cs : List Value} {s0 s : σ} {W w : World} (hst : M.C.St s0 W) (h : Mx M T d zs s0 W cs s w) (dd : Int) (l : List DT) (A : Option Addr) (cap : Nat)
    (hdd : dd = d + δ) (hn : nL l < N) (hd : 0 ≤ d) (hd0 : 0 ≤ dd) (hd2 : dd + nL l ≤ 1048576) (hl : DRow (fun k => k < M.C.B) W 5 A cap l) (hin : ∀ x, x ∈ l → UIn (fun k => k < M.C.B) W .agg x) (hcn : M.cnt s + nL l ≤ 1048576) :
    Calls Tryz.prog 107 #[.slice A l.length cap, .func (.func f) #[] #[.pointer (some ⟨W.heap.size, 0, none⟩), .pointer (some ⟨W.heap.size + 2, 0, none⟩)]] w (MxPost M T d zs s0 W cs .agg dd l s w) :=
  (mlistAgg N f δ hf eg M l A cap d dd s w W.heap.size (W.heap.size + 2) hdd hn hd hd0 hd2 h.fr.st (hl.keep (h.fr.src hst) fun _ h => h) (fun x hx => (hin x hx).keep (h.fr.src hst) fun _ h => h) h.b3 h.b5 (h.no _ (by omega) (by omega)) (h.no _ (by omega) (by omega)) hcn).mono fun _ _ hp => h.post hp
/-- A list in a method, over a closure. -/
theorem Mx.listWin {N f : Nat} {δ : Int} (hf : HC f .win N δ) (eg : ∀ args w, (callFunc f args).run Tryz.prog w = .ok (.enter f args) w) {σ : Type} {M : Mpr σ} {T : TypeId} {d : Int} {zs cs : List Value} {s0 s : σ} {W w : World} (hst : M.C.St s0 W) (h : Mx M T d zs s0 W cs s w) (dd : Int) (l : List DT) (A : Option Addr) (cap : Nat)
    (hdd : dd = d + δ) (hn : nL l < N) (hd : 0 ≤ d) (hd0 : 0 ≤ dd) (hd2 : dd + nL l ≤ 1048576) (hl : DRow (fun k => k < M.C.B) W 12 A cap l) (hin : ∀ x, x ∈ l → UIn (fun k => k < M.C.B) W .win x) (hcn : M.cnt s + nL l ≤ 1048576) :
    Calls Tryz.prog 110 #[.slice A l.length cap, .func (.func f) #[] #[.pointer (some ⟨W.heap.size, 0, none⟩), .pointer (some ⟨W.heap.size + 2, 0, none⟩)]] w (MxPost M T d zs s0 W cs .win dd l s w) :=
  (mlistWin N f δ hf eg M l A cap d dd s w W.heap.size (W.heap.size + 2) hdd hn hd hd0 hd2 h.fr.st (hl.keep (h.fr.src hst) fun _ h => h) (fun x hx => (hin x hx).keep (h.fr.src hst) fun _ h => h) h.b3 h.b5 (h.no _ (by omega) (by omega)) (h.no _ (by omega) (by omega)) hcn).mono fun _ _ hp => h.post hp
/-- A list in a method, over a closure. -/
theorem Mx.listKey {N f : Nat} {δ : Int} (hf : HC f .key N δ) (eg : ∀ args w, (callFunc f args).run Tryz.prog w = .ok (.enter f args) w) {σ : Type} {M : Mpr σ} {T : TypeId} {d : Int} {zs cs : List Value} {s0 s : σ} {W w : World} (hst : M.C.St s0 W) (h : Mx M T d zs s0 W cs s w) (dd : Int) (l : List DT) (A : Option Addr) (cap : Nat)
    (hdd : dd = d + δ) (hn : nL l < N) (hd : 0 ≤ d) (hd0 : 0 ≤ dd) (hd2 : dd + nL l ≤ 1048576) (hl : DRow (fun k => k < M.C.B) W 16 A cap l) (hin : ∀ x, x ∈ l → UIn (fun k => k < M.C.B) W .key x) (hcn : M.cnt s + nL l ≤ 1048576) :
    Calls Tryz.prog 113 #[.slice A l.length cap, .func (.func f) #[] #[.pointer (some ⟨W.heap.size, 0, none⟩), .pointer (some ⟨W.heap.size + 2, 0, none⟩)]] w (MxPost M T d zs s0 W cs .key dd l s w) :=
  (mlistKey N f δ hf eg M l A cap d dd s w W.heap.size (W.heap.size + 2) hdd hn hd hd0 hd2 h.fr.st (hl.keep (h.fr.src hst) fun _ h => h) (fun x hx => (hin x hx).keep (h.fr.src hst) fun _ h => h) h.b3 h.b5 (h.no _ (by omega) (by omega)) (h.no _ (by omega) (by omega)) hcn).mono fun _ _ hp => h.post hp
theorem Mx.new {σ : Type} {M : Mpr σ} {T : TypeId} {d : Int} {zs cs : List Value} {s0 : σ} {W w1 w2 w3 w4 : World} (hst : M.C.St s0 W) (e1 : W.alloc (.cells #[M.v] 73) = w1) (e2 : w1.alloc (.cells cs.toArray T) = w2) (e3 : w2.alloc (.cells #[.int .i64 d] 3) = w3) (e4 : w3.alloc (.cells zs.toArray T) = w4) : Mx M T d zs s0 W cs s0 w4 := by
  have hz1 : w1.heap.size = W.heap.size + 1 := by rw [← e1]; simp
  have hz2 : w2.heap.size = W.heap.size + 2 := by rw [← e2]; simp [hz1]
  have hz3 : w3.heap.size = W.heap.size + 3 := by rw [← e3]; simp [hz2]
  have hz4 : w4.heap.size = W.heap.size + 4 := by rw [← e4]; simp [hz3]
  refine ⟨Fr.below hst ?_, by omega, fun b h1 h2 e => by have := M.C.lt s0 W hst b e; omega, ?_, ?_, ?_, ?_⟩
  · rw [← e4, ← e3, ← e2, ← e1]; exact ((((Below.refl _ _).alloc (Nat.le_refl _) _).alloc (by simp) _).alloc (by simp; omega) _).alloc (by simp; omega) _
  · rw [← e4, ← e3, ← e2, ← e1]; exact (((Bk.new W [M.v] _).alloc _).alloc _).alloc _
  · rw [← e4, ← e3, ← e2, ← hz1]; exact ((Bk.new w1 cs _).alloc _).alloc _
  · rw [← e4, ← e3, ← hz2]; exact (Bk.new w2 [.int .i64 d] _).alloc _
  · rw [← e4, ← hz3]; exact Bk.new w3 zs _
theorem Mx.drew {σ : Type} {M : Mpr σ} {T : TypeId} {d : Int} {zs cs : List Value} {s0 s : σ} {W w : World} (h : Mx M T d zs s0 W cs s w) : Mx M T d zs s0 W cs s w.drew ∧ Tr M (W.heap.size + 4) s w s w.drew := h.call (Fr.below h.fr.st ((Below.refl _ _).drew))
theorem uIle : (Tryz.prog.info? 28).map (·.size) = some 1 := by kernel_rfl
theorem uI99 : (Tryz.prog.info? 99).map (·.size) = some 5 := by kernel_rfl
set_option maxRecDepth 100000 in
set_option maxHeartbeats 2000000 in
theorem agg_step (N : Nat) (h : HC 124 .expr N 0) : HT 109 .agg N := by
  intro σ M x d s W hn hd hd2 hst hx hcn
  obtain ⟨k, p, ds, A, ac, az, B, bc, bz, rfl, ok, ra, ia, rb, ib⟩ := hx.ag
  have hB := M.C.base s W hst
  rw [DT.n_node] at hn hd2 hcn
  simp at hcn
  have Hcn := Lib.hid hcn
  have hn1 : nL az < N := by simp at hn; omega
  have hn2 : nL bz < N := by simp at hn; omega
  have hm1 : d + nL az ≤ 1048576 := by simp at hd2; omega
  have hm2 : d + nL bz ≤ 1048576 := by simp at hd2; omega
  show Calls _ _ #[.agg #[M.v], .agg #[.int .i64 k, .int .i64 p, .bool ds, .slice A az.length ac, .slice B bz.length bc], .int .i64 d] _ _
  obtain ⟨w1, hw1⟩ : ∃ w1, W.alloc (.cells #[M.v] 73) = w1 := ⟨_, rfl⟩
  obtain ⟨w2, hw2⟩ : ∃ w2, w1.alloc (.cells #[.int .i64 k, .int .i64 p, .bool ds, .slice A az.length ac, .slice B bz.length bc] 99) = w2 := ⟨_, rfl⟩
  obtain ⟨w3, hw3⟩ : ∃ w3, w2.alloc (.cells #[.int .i64 d] 3) = w3 := ⟨_, rfl⟩
  obtain ⟨w4, hw4⟩ : ∃ w4, w3.alloc (.cells #[.int .i64 0, .int .i64 0, .bool false, .slice none 0 0, .slice none 0 0] 99) = w4 := ⟨_, rfl⟩
  have hz1 : w1.heap.size = W.heap.size + 1 := by rw [← hw1]; simp
  have hz2 : w2.heap.size = W.heap.size + 2 := by rw [← hw2]; simp [hz1]
  have hz3 : w3.heap.size = W.heap.size + 3 := by rw [← hw3]; simp [hz2]
  have hz4 : w4.heap.size = W.heap.size + 4 := by rw [← hw4]; simp [hz3]
  have hmd := (Mx.new (cs := [.int .i64 k, .int .i64 p, .bool ds, .slice A az.length ac, .slice B bz.length bc]) (zs := [.int .i64 0, .int .i64 0, .bool false, .slice none 0 0, .slice none 0 0]) hst hw1 hw2 hw3 hw4).drew.1
  have hc1 : Hid (∀ s' w' cs, Mx M 99 d [.int .i64 0, .int .i64 0, .bool false, .slice none 0 0, .slice none 0 0] s W cs s' w' → M.cnt s' + nL az ≤ 1048576 → Calls Tryz.prog 20 #[.slice A az.length ac, .func (.func 124) #[] #[.pointer (some ⟨W.heap.size, 0, none⟩), .pointer (some ⟨W.heap.size + 2, 0, none⟩)]] w' (MxPost M 99 d [.int .i64 0, .int .i64 0, .bool false, .slice none 0 0, .slice none 0 0] s W cs .expr d az s' w')) :=
    fun s' w' cs hm hcn' => Mx.listExp h (enters_of Tryz.func124 (by kernel_rfl) rfl) hst hm d az A ac (by omega) hn1 hd hd hm1 ra ia hcn'
  have hc2 : Hid (∀ s' w' cs, Mx M 99 d [.int .i64 0, .int .i64 0, .bool false, .slice none 0 0, .slice none 0 0] s W cs s' w' → M.cnt s' + nL bz ≤ 1048576 → Calls Tryz.prog 20 #[.slice B bz.length bc, .func (.func 124) #[] #[.pointer (some ⟨W.heap.size, 0, none⟩), .pointer (some ⟨W.heap.size + 2, 0, none⟩)]] w' (MxPost M 99 d [.int .i64 0, .int .i64 0, .bool false, .slice none 0 0, .slice none 0 0] s W cs .expr d bz s' w')) :=
    fun s' w' cs hm hcn' => Mx.listExp h (enters_of Tryz.func124 (by kernel_rfl) rfl) hst hm d bz B bc (by omega) hn2 hd hd hm2 rb ib hcn'
  have hb := Lib.hid hmd.b4
  have Hmd := Lib.hid hmd
  have i1 := Lib.hid uIle
  have i5 := Lib.hid uI99
  clear hmd hn hd2 hcn hn1 hn2 hm1 hm2 ra ia rb ib hx h
  go_enter Tryz.func109, Tryz.ntmps109
  go_upto_region 2 with (fail)
  have hD := hb.out
  refine wp_region_split 9 (fun w' => Bk w' (W.heap.size + 1) [.int .i64 k, .int .i64 p, .bool ds, .slice A az.length ac, .slice B bz.length bc] 99) (by kernel_rfl) (by kernel_rfl) ?_
  simp only [List.take_succ_cons, List.take_zero, List.drop_succ_cons, List.drop_zero]
  refine take_op (i := 0) (v := .pointer (some ⟨W.heap.size + 1, 3, none⟩)) rfl rfl (by kernel_rfl) (by kernel_rfl) (by kernel_rfl) (fun _ _ _ h => h) (yields_of rfl fun w' _ => by go_simp) hD ?_
  simp only [List.setIfInBounds_toArray, List.set_cons_zero, List.set_cons_succ]
  refine take_op (i := 1) (v := .slice A az.length ac) rfl rfl (by kernel_rfl) (by kernel_rfl) (by kernel_rfl) (fun _ _ _ h => h) (yields_load_one rfl 28 _ rfl _ Tryz.underlying28 rfl _ _ _ _ _ rfl (fun _ h => h) rfl) hD ?_
  simp only [List.setIfInBounds_toArray, List.set_cons_zero, List.set_cons_succ]
  refine take_op (i := 2) (v := .func (.func 124) #[] #[.pointer (some ⟨W.heap.size, 0, none⟩), .pointer (some ⟨W.heap.size + 2, 0, none⟩)]) rfl rfl (by kernel_rfl) (by kernel_rfl) (by kernel_rfl) (fun _ _ _ h => h) (yields_of rfl fun w' _ => by go_simp) hD ?_
  simp only [List.setIfInBounds_toArray, List.set_cons_zero, List.set_cons_succ]
  refine take_op (i := 4) (v := .pointer (some ⟨W.heap.size + 1, 4, none⟩)) rfl rfl (by kernel_rfl) (by kernel_rfl) (by kernel_rfl) (fun _ _ _ h => h) (yields_of rfl fun w' _ => by go_simp) hD ?_
  simp only [List.setIfInBounds_toArray, List.set_cons_zero, List.set_cons_succ]
  refine take_op (i := 5) (v := .slice B bz.length bc) rfl rfl (by kernel_rfl) (by kernel_rfl) (by kernel_rfl) (fun _ _ _ h => h) (yields_load_one rfl 28 _ rfl _ Tryz.underlying28 rfl _ _ _ _ _ rfl (fun _ h => h) rfl) hD ?_
  simp only [List.setIfInBounds_toArray, List.set_cons_zero, List.set_cons_succ]
  refine take_op (i := 6) (v := .func (.func 124) #[] #[.pointer (some ⟨W.heap.size, 0, none⟩), .pointer (some ⟨W.heap.size + 2, 0, none⟩)]) rfl rfl (by kernel_rfl) (by kernel_rfl) (by kernel_rfl) (fun _ _ _ h => h) (yields_of rfl fun w' _ => by go_simp) hD ?_
  simp only [List.setIfInBounds_toArray, List.set_cons_zero, List.set_cons_succ]
  refine call_op (i := 3) (by kernel_rfl) rfl rfl rfl 20 #[.slice A az.length ac, .func (.func 124) #[] #[.pointer (some ⟨W.heap.size, 0, none⟩), .pointer (some ⟨W.heap.size + 2, 0, none⟩)]] (by go_simp) ((hc1.out _ _ _ Hmd.out (by have := Hcn.out; omega)).mono ?_)
  rintro e w5 ⟨A1, y1, s1, rfl, m1, t1, v1, r1⟩
  refine ⟨_, rfl, m1.b4, ?_⟩
  simp only [List.setIfInBounds_toArray, List.set_cons_zero, List.set_cons_succ]
  refine take_op (i := 8) (v := .pointer (some ⟨W.heap.size + 1, 3, none⟩)) rfl rfl (by kernel_rfl) (by kernel_rfl) (by kernel_rfl) (fun _ _ _ h => h) (yields_of rfl fun w' _ => by go_simp) m1.b4 ?_
  simp only [List.setIfInBounds_toArray, List.set_cons_zero, List.set_cons_succ]
  refine call_op (i := 7) (by kernel_rfl) rfl rfl rfl 20 #[.slice B bz.length bc, .func (.func 124) #[] #[.pointer (some ⟨W.heap.size, 0, none⟩), .pointer (some ⟨W.heap.size + 2, 0, none⟩)]] (by go_simp) ((hc2.out _ _ _ m1 (by have := Hcn.out; have := v1.2; omega)).mono ?_)
  rintro e w6 ⟨A2, y2, s2, rfl, m2, t2, v2, r2⟩
  refine ⟨_, rfl, m2.b4, ?_⟩
  simp only [List.setIfInBounds_toArray, List.set_cons_zero, List.set_cons_succ]
  refine done_op (by kernel_rfl) ?_
  have Hm2 := Lib.hid m2
  have R1 := Lib.hid (t2 _ _ _ _ _ r1)
  have R2 := Lib.hid r2
  have V : Hid (M.vst s s2 (DT.node [.int .i64 k, .int .i64 p, .bool ds, .slice A az.length ac, .slice B bz.length bc] [az, bz]).n (Vs M.m .agg d (.node [.int .i64 k, .int .i64 p, .bool ds, .slice A az.length ac, .slice B bz.length bc] [az, bz]))) := (v1.tr v2).to (by rw [DT.n_node]; simp) fun v => Vs.ag.symm
  clear m1 t1 v1 r1 m2 t2 v2 r2 hD Hmd hc1 hc2 hb
  go_wp2_with (first | (refine wpList_store_blk rfl 28 _ _ rfl _ 3 _ _ [.slice A1 az.length az.length] rfl rfl Hm2.out.b4 i1.out (by simp) rfl ?_; intro w7 hw7; obtain ⟨m3, t3⟩ := Hm2.out.set hB hw7; have Hm3 := Lib.hid m3; have R1' := Lib.hid (t3 _ _ _ _ _ R1.out); have R2' := Lib.hid (t3 _ _ _ _ _ R2.out); clear m3 t3 hw7 R1 R2) | (refine wpList_store_blk rfl 28 _ _ rfl _ 4 _ _ [.slice A2 bz.length bz.length] rfl rfl Hm3.out.b4 i1.out (by simp [setL]) rfl ?_; intro w8 hw8; obtain ⟨m4, t4⟩ := Hm3.out.set hB hw8; have Hm4 := Lib.hid m4; have R1 := Lib.hid (t4 _ _ _ _ _ R1'.out); have R2 := Lib.hid (t4 _ _ _ _ _ R2'.out); clear m4 t4 hw8 R1' R2') | (refine wpList_load_part rfl 99 _ rfl _ Tryz.underlying99 rfl _ _ _ _ [.int .i64 k, .int .i64 p, .bool ds, .slice A1 az.length az.length, .slice A2 bz.length bz.length] rfl Hm4.out.b4 i5.out rfl ?_) | (refine wpList_store_blk rfl 99 _ _ rfl _ _ _ _ [.int .i64 k, .int .i64 p, .bool ds, .slice A1 az.length az.length, .slice A2 bz.length bz.length] rfl rfl Hm4.out.b6 i5.out (by simp) rfl ?_; intro w9 hw9))
  refine bodyPost_blk rfl (W.heap.size + 3) [.int .i64 k, .int .i64 p, .bool ds, .slice A1 az.length az.length, .slice A2 bz.length bz.length] _ rfl _ hw9.bk Tryz.underlying99 rfl i5.out rfl ?_
  obtain ⟨hf, t5⟩ := Hm4.out.ret hB hw9
  have q1 := t5 _ _ _ _ _ R1.out
  have q2 := t5 _ _ _ _ _ R2.out
  exact ⟨.node [.int .i64 k, .int .i64 p, .bool ds, .slice A1 az.length az.length, .slice A2 bz.length bz.length] [y1, y2], s2, rfl, hf, V.out, UIn.mkK rfl rfl ⟨k, p, ds, _, _, rfl, ok⟩ ⟨q1.kr (by omega) rfl, q2.kr (by omega) rfl, trivial⟩, Mp.mkK rfl rfl (fun j hj => by match j with | 0 => rfl | 1 => rfl | 2 => rfl | 3 => exact absurd (by simp [Uy.sl]) (hj .expr) | 4 => exact absurd (by simp [Uy.sl]) (hj .expr) | j + 5 => rfl) ⟨q1.ml, q2.ml, trivial⟩⟩
end Go.Proofs.YthijagpnpcpcbaaGreat
namespace Go.Proofs.YthijagpnpcpcbaaGreat
open Go.RowKit Go.Sort
theorem uIlk : (Tryz.prog.info? 57).map (·.size) = some 1 := by kernel_rfl
theorem uIlg : (Tryz.prog.info? 55).map (·.size) = some 1 := by kernel_rfl
theorem uI103 : (Tryz.prog.info? 103).map (·.size) = some 12 := by kernel_rfl
set_option maxRecDepth 100000 in
set_option maxHeartbeats 4000000 in
theorem window_step (N : Nat) (h1 : HC 126 .expr N 0) (h2 : HC 127 .key N 0) (h3 : HC 128 .agg N 0) : HT 112 .win N := by
  intro σ M x d s W hn hd hd2 hst hx hcn
  obtain ⟨k, n, u, fk, fn, tk, tn, A, ac, az, B, gc, gz, C, pc, pz, D, kc, kz, E, tc, tz, hx0⟩ := hx.wi
  obtain rfl := hx0.e
  have ok := hx0.ok
  have hB := M.C.base s W hst
  rw [DT.n_node] at hn hd2 hcn
  simp at hcn
  have Hcn := Lib.hid hcn
  have hn1 : nL az < N := by simp at hn; omega
  have hm1 : d + nL az ≤ 1048576 := by simp at hd2; omega
  have hn2 : nL pz < N := by simp at hn; omega
  have hm2 : d + nL pz ≤ 1048576 := by simp at hd2; omega
  have hn3 : nL kz < N := by simp at hn; omega
  have hm3 : d + nL kz ≤ 1048576 := by simp at hd2; omega
  have hn4 : nL tz < N := by simp at hn; omega
  have hm4 : d + nL tz ≤ 1048576 := by simp at hd2; omega
  have hn5 : nL gz < N := by simp at hn; omega
  have hm5 : d + nL gz ≤ 1048576 := by simp at hd2; omega
  show Calls _ _ #[.agg #[M.v], .agg #[.int .i64 k, .int .i64 n, .slice A az.length ac, .slice B gz.length gc, .slice C pz.length pc, .slice D kz.length kc, .slice E tz.length tc, .int .i64 u, .int .i64 fk, .int .i64 fn, .int .i64 tk, .int .i64 tn], .int .i64 d] _ _
  obtain ⟨w1, hw1⟩ : ∃ w1, W.alloc (.cells #[M.v] 73) = w1 := ⟨_, rfl⟩
  obtain ⟨w2, hw2⟩ : ∃ w2, w1.alloc (.cells #[.int .i64 k, .int .i64 n, .slice A az.length ac, .slice B gz.length gc, .slice C pz.length pc, .slice D kz.length kc, .slice E tz.length tc, .int .i64 u, .int .i64 fk, .int .i64 fn, .int .i64 tk, .int .i64 tn] 103) = w2 := ⟨_, rfl⟩
  obtain ⟨w3, hw3⟩ : ∃ w3, w2.alloc (.cells #[.int .i64 d] 3) = w3 := ⟨_, rfl⟩
  obtain ⟨w4, hw4⟩ : ∃ w4, w3.alloc (.cells #[.int .i64 0, .int .i64 0, .slice none 0 0, .slice none 0 0, .slice none 0 0, .slice none 0 0, .slice none 0 0, .int .i64 0, .int .i64 0, .int .i64 0, .int .i64 0, .int .i64 0] 103) = w4 := ⟨_, rfl⟩
  have hz1 : w1.heap.size = W.heap.size + 1 := by rw [← hw1]; simp
  have hz2 : w2.heap.size = W.heap.size + 2 := by rw [← hw2]; simp [hz1]
  have hz3 : w3.heap.size = W.heap.size + 3 := by rw [← hw3]; simp [hz2]
  have hz4 : w4.heap.size = W.heap.size + 4 := by rw [← hw4]; simp [hz3]
  have hmd := (Mx.new (cs := [.int .i64 k, .int .i64 n, .slice A az.length ac, .slice B gz.length gc, .slice C pz.length pc, .slice D kz.length kc, .slice E tz.length tc, .int .i64 u, .int .i64 fk, .int .i64 fn, .int .i64 tk, .int .i64 tn]) (zs := [.int .i64 0, .int .i64 0, .slice none 0 0, .slice none 0 0, .slice none 0 0, .slice none 0 0, .slice none 0 0, .int .i64 0, .int .i64 0, .int .i64 0, .int .i64 0, .int .i64 0]) hst hw1 hw2 hw3 hw4).drew.1
  have hc1 : Hid (∀ s' w' cs, Mx M 103 d [.int .i64 0, .int .i64 0, .slice none 0 0, .slice none 0 0, .slice none 0 0, .slice none 0 0, .slice none 0 0, .int .i64 0, .int .i64 0, .int .i64 0, .int .i64 0, .int .i64 0] s W cs s' w' → M.cnt s' + nL az ≤ 1048576 → Calls Tryz.prog 20 #[.slice A az.length ac, .func (.func 126) #[] #[.pointer (some ⟨W.heap.size, 0, none⟩), .pointer (some ⟨W.heap.size + 2, 0, none⟩)]] w' (MxPost M 103 d [.int .i64 0, .int .i64 0, .slice none 0 0, .slice none 0 0, .slice none 0 0, .slice none 0 0, .slice none 0 0, .int .i64 0, .int .i64 0, .int .i64 0, .int .i64 0, .int .i64 0] s W cs .expr d az s' w')) :=
    fun s' w' cs hm hcn' => Mx.listExp h1 (enters_of Tryz.func126 (by kernel_rfl) rfl) hst hm d az A ac (by omega) hn1 hd hd hm1 hx0.ra hx0.ia hcn'
  have hc2 : Hid (∀ s' w' cs, Mx M 103 d [.int .i64 0, .int .i64 0, .slice none 0 0, .slice none 0 0, .slice none 0 0, .slice none 0 0, .slice none 0 0, .int .i64 0, .int .i64 0, .int .i64 0, .int .i64 0, .int .i64 0] s W cs s' w' → M.cnt s' + nL pz ≤ 1048576 → Calls Tryz.prog 20 #[.slice C pz.length pc, .func (.func 126) #[] #[.pointer (some ⟨W.heap.size, 0, none⟩), .pointer (some ⟨W.heap.size + 2, 0, none⟩)]] w' (MxPost M 103 d [.int .i64 0, .int .i64 0, .slice none 0 0, .slice none 0 0, .slice none 0 0, .slice none 0 0, .slice none 0 0, .int .i64 0, .int .i64 0, .int .i64 0, .int .i64 0, .int .i64 0] s W cs .expr d pz s' w')) :=
    fun s' w' cs hm hcn' => Mx.listExp h1 (enters_of Tryz.func126 (by kernel_rfl) rfl) hst hm d pz C pc (by omega) hn2 hd hd hm2 hx0.rp hx0.ip hcn'
  have hc3 : Hid (∀ s' w' cs, Mx M 103 d [.int .i64 0, .int .i64 0, .slice none 0 0, .slice none 0 0, .slice none 0 0, .slice none 0 0, .slice none 0 0, .int .i64 0, .int .i64 0, .int .i64 0, .int .i64 0, .int .i64 0] s W cs s' w' → M.cnt s' + nL kz ≤ 1048576 → Calls Tryz.prog 113 #[.slice D kz.length kc, .func (.func 127) #[] #[.pointer (some ⟨W.heap.size, 0, none⟩), .pointer (some ⟨W.heap.size + 2, 0, none⟩)]] w' (MxPost M 103 d [.int .i64 0, .int .i64 0, .slice none 0 0, .slice none 0 0, .slice none 0 0, .slice none 0 0, .slice none 0 0, .int .i64 0, .int .i64 0, .int .i64 0, .int .i64 0, .int .i64 0] s W cs .key d kz s' w')) :=
    fun s' w' cs hm hcn' => Mx.listKey h2 (enters_of Tryz.func127 (by kernel_rfl) rfl) hst hm d kz D kc (by omega) hn3 hd hd hm3 hx0.rk hx0.ik hcn'
  have hc4 : Hid (∀ s' w' cs, Mx M 103 d [.int .i64 0, .int .i64 0, .slice none 0 0, .slice none 0 0, .slice none 0 0, .slice none 0 0, .slice none 0 0, .int .i64 0, .int .i64 0, .int .i64 0, .int .i64 0, .int .i64 0] s W cs s' w' → M.cnt s' + nL tz ≤ 1048576 → Calls Tryz.prog 113 #[.slice E tz.length tc, .func (.func 127) #[] #[.pointer (some ⟨W.heap.size, 0, none⟩), .pointer (some ⟨W.heap.size + 2, 0, none⟩)]] w' (MxPost M 103 d [.int .i64 0, .int .i64 0, .slice none 0 0, .slice none 0 0, .slice none 0 0, .slice none 0 0, .slice none 0 0, .int .i64 0, .int .i64 0, .int .i64 0, .int .i64 0, .int .i64 0] s W cs .key d tz s' w')) :=
    fun s' w' cs hm hcn' => Mx.listKey h2 (enters_of Tryz.func127 (by kernel_rfl) rfl) hst hm d tz E tc (by omega) hn4 hd hd hm4 hx0.rt hx0.it hcn'
  have hc5 : Hid (∀ s' w' cs, Mx M 103 d [.int .i64 0, .int .i64 0, .slice none 0 0, .slice none 0 0, .slice none 0 0, .slice none 0 0, .slice none 0 0, .int .i64 0, .int .i64 0, .int .i64 0, .int .i64 0, .int .i64 0] s W cs s' w' → M.cnt s' + nL gz ≤ 1048576 → Calls Tryz.prog 107 #[.slice B gz.length gc, .func (.func 128) #[] #[.pointer (some ⟨W.heap.size, 0, none⟩), .pointer (some ⟨W.heap.size + 2, 0, none⟩)]] w' (MxPost M 103 d [.int .i64 0, .int .i64 0, .slice none 0 0, .slice none 0 0, .slice none 0 0, .slice none 0 0, .slice none 0 0, .int .i64 0, .int .i64 0, .int .i64 0, .int .i64 0, .int .i64 0] s W cs .agg d gz s' w')) :=
    fun s' w' cs hm hcn' => Mx.listAgg h3 (enters_of Tryz.func128 (by kernel_rfl) rfl) hst hm d gz B gc (by omega) hn5 hd hd hm5 hx0.rg hx0.ig hcn'
  have hb := Lib.hid hmd.b4
  have Hmd := Lib.hid hmd
  have ie := Lib.hid uIle
  have ik := Lib.hid uIlk
  have ig := Lib.hid uIlg
  have i5 := Lib.hid uI103
  clear hmd hn hd2 hcn hx0 hx h1 h2 h3 hn1 hm1 hn2 hm2 hn3 hm3 hn4 hm4 hn5 hm5
  go_enter Tryz.func112, Tryz.ntmps112
  go_upto_region 3 with (fail)
  have hD := hb.out
  refine wp_region_split 17 (fun w' => Bk w' (W.heap.size + 1) [.int .i64 k, .int .i64 n, .slice A az.length ac, .slice B gz.length gc, .slice C pz.length pc, .slice D kz.length kc, .slice E tz.length tc, .int .i64 u, .int .i64 fk, .int .i64 fn, .int .i64 tk, .int .i64 tn] 103) (by kernel_rfl) (by kernel_rfl) ?_
  simp only [List.take_succ_cons, List.take_zero, List.drop_succ_cons, List.drop_zero]
  refine take_op (i := 0) (v := .pointer (some ⟨W.heap.size + 1, 2, none⟩)) rfl rfl (by kernel_rfl) (by kernel_rfl) (by kernel_rfl) (fun _ _ _ h => h) (yields_of rfl fun w' _ => by go_simp) hD ?_
  simp only [List.setIfInBounds_toArray, List.set_cons_zero, List.set_cons_succ]
  refine take_op (i := 1) (v := .slice A az.length ac) rfl rfl (by kernel_rfl) (by kernel_rfl) (by kernel_rfl) (fun _ _ _ h => h) (yields_load_one rfl 28 _ rfl _ Tryz.underlying28 rfl _ _ _ _ _ rfl (fun _ h => h) rfl) hD ?_
  simp only [List.setIfInBounds_toArray, List.set_cons_zero, List.set_cons_succ]
  refine take_op (i := 2) (v := .func (.func 126) #[] #[.pointer (some ⟨W.heap.size, 0, none⟩), .pointer (some ⟨W.heap.size + 2, 0, none⟩)]) rfl rfl (by kernel_rfl) (by kernel_rfl) (by kernel_rfl) (fun _ _ _ h => h) (yields_of rfl fun w' _ => by go_simp) hD ?_
  simp only [List.setIfInBounds_toArray, List.set_cons_zero, List.set_cons_succ]
  refine take_op (i := 4) (v := .pointer (some ⟨W.heap.size + 1, 4, none⟩)) rfl rfl (by kernel_rfl) (by kernel_rfl) (by kernel_rfl) (fun _ _ _ h => h) (yields_of rfl fun w' _ => by go_simp) hD ?_
  simp only [List.setIfInBounds_toArray, List.set_cons_zero, List.set_cons_succ]
  refine take_op (i := 5) (v := .slice C pz.length pc) rfl rfl (by kernel_rfl) (by kernel_rfl) (by kernel_rfl) (fun _ _ _ h => h) (yields_load_one rfl 28 _ rfl _ Tryz.underlying28 rfl _ _ _ _ _ rfl (fun _ h => h) rfl) hD ?_
  simp only [List.setIfInBounds_toArray, List.set_cons_zero, List.set_cons_succ]
  refine take_op (i := 6) (v := .func (.func 126) #[] #[.pointer (some ⟨W.heap.size, 0, none⟩), .pointer (some ⟨W.heap.size + 2, 0, none⟩)]) rfl rfl (by kernel_rfl) (by kernel_rfl) (by kernel_rfl) (fun _ _ _ h => h) (yields_of rfl fun w' _ => by go_simp) hD ?_
  simp only [List.setIfInBounds_toArray, List.set_cons_zero, List.set_cons_succ]
  refine take_op (i := 8) (v := .pointer (some ⟨W.heap.size + 1, 5, none⟩)) rfl rfl (by kernel_rfl) (by kernel_rfl) (by kernel_rfl) (fun _ _ _ h => h) (yields_of rfl fun w' _ => by go_simp) hD ?_
  simp only [List.setIfInBounds_toArray, List.set_cons_zero, List.set_cons_succ]
  refine take_op (i := 9) (v := .slice D kz.length kc) rfl rfl (by kernel_rfl) (by kernel_rfl) (by kernel_rfl) (fun _ _ _ h => h) (yields_load_one rfl 57 _ rfl _ Tryz.underlying57 rfl _ _ _ _ _ rfl (fun _ h => h) rfl) hD ?_
  simp only [List.setIfInBounds_toArray, List.set_cons_zero, List.set_cons_succ]
  refine take_op (i := 10) (v := .func (.func 127) #[] #[.pointer (some ⟨W.heap.size, 0, none⟩), .pointer (some ⟨W.heap.size + 2, 0, none⟩)]) rfl rfl (by kernel_rfl) (by kernel_rfl) (by kernel_rfl) (fun _ _ _ h => h) (yields_of rfl fun w' _ => by go_simp) hD ?_
  simp only [List.setIfInBounds_toArray, List.set_cons_zero, List.set_cons_succ]
  refine take_op (i := 12) (v := .pointer (some ⟨W.heap.size + 1, 6, none⟩)) rfl rfl (by kernel_rfl) (by kernel_rfl) (by kernel_rfl) (fun _ _ _ h => h) (yields_of rfl fun w' _ => by go_simp) hD ?_
  simp only [List.setIfInBounds_toArray, List.set_cons_zero, List.set_cons_succ]
  refine take_op (i := 13) (v := .slice E tz.length tc) rfl rfl (by kernel_rfl) (by kernel_rfl) (by kernel_rfl) (fun _ _ _ h => h) (yields_load_one rfl 57 _ rfl _ Tryz.underlying57 rfl _ _ _ _ _ rfl (fun _ h => h) rfl) hD ?_
  simp only [List.setIfInBounds_toArray, List.set_cons_zero, List.set_cons_succ]
  refine take_op (i := 14) (v := .func (.func 127) #[] #[.pointer (some ⟨W.heap.size, 0, none⟩), .pointer (some ⟨W.heap.size + 2, 0, none⟩)]) rfl rfl (by kernel_rfl) (by kernel_rfl) (by kernel_rfl) (fun _ _ _ h => h) (yields_of rfl fun w' _ => by go_simp) hD ?_
  simp only [List.setIfInBounds_toArray, List.set_cons_zero, List.set_cons_succ]
  refine call_op (i := 3) (by kernel_rfl) rfl rfl rfl 20 #[.slice A az.length ac, .func (.func 126) #[] #[.pointer (some ⟨W.heap.size, 0, none⟩), .pointer (some ⟨W.heap.size + 2, 0, none⟩)]] (by go_simp) ((hc1.out _ _ _ Hmd.out (by have := Hcn.out; omega)).mono ?_)
  rintro e v5 ⟨A1, y1, s1, rfl, m1, t1, v1, r1⟩
  refine ⟨_, rfl, m1.b4, ?_⟩
  simp only [List.setIfInBounds_toArray, List.set_cons_zero, List.set_cons_succ]
  refine take_op (i := 16) (v := .pointer (some ⟨W.heap.size + 1, 2, none⟩)) rfl rfl (by kernel_rfl) (by kernel_rfl) (by kernel_rfl) (fun _ _ _ h => h) (yields_of rfl fun w' _ => by go_simp) m1.b4 ?_
  simp only [List.setIfInBounds_toArray, List.set_cons_zero, List.set_cons_succ]
  refine call_op (i := 7) (by kernel_rfl) rfl rfl rfl 20 #[.slice C pz.length pc, .func (.func 126) #[] #[.pointer (some ⟨W.heap.size, 0, none⟩), .pointer (some ⟨W.heap.size + 2, 0, none⟩)]] (by go_simp) ((hc2.out _ _ _ m1 (by have := Hcn.out; have := v1.2; omega)).mono ?_)
  rintro e v6 ⟨A2, y2, s2, rfl, m2, t2, v2, r2⟩
  refine ⟨_, rfl, m2.b4, ?_⟩
  simp only [List.setIfInBounds_toArray, List.set_cons_zero, List.set_cons_succ]
  refine call_op (i := 11) (by kernel_rfl) rfl rfl rfl 113 #[.slice D kz.length kc, .func (.func 127) #[] #[.pointer (some ⟨W.heap.size, 0, none⟩), .pointer (some ⟨W.heap.size + 2, 0, none⟩)]] (by go_simp) ((hc3.out _ _ _ m2 (by have := Hcn.out; have := v1.2; have := v2.2; omega)).mono ?_)
  rintro e v7 ⟨A3, y3, s3, rfl, m3, t3, v3, r3⟩
  refine ⟨_, rfl, m3.b4, ?_⟩
  simp only [List.setIfInBounds_toArray, List.set_cons_zero, List.set_cons_succ]
  refine call_op (i := 15) (by kernel_rfl) rfl rfl rfl 113 #[.slice E tz.length tc, .func (.func 127) #[] #[.pointer (some ⟨W.heap.size, 0, none⟩), .pointer (some ⟨W.heap.size + 2, 0, none⟩)]] (by go_simp) ((hc4.out _ _ _ m3 (by have := Hcn.out; have := v1.2; have := v2.2; have := v3.2; omega)).mono ?_)
  rintro e v8 ⟨A4, y4, s4, rfl, m4, t4, v4, r4⟩
  refine ⟨_, rfl, m4.b4, ?_⟩
  simp only [List.setIfInBounds_toArray, List.set_cons_zero, List.set_cons_succ]
  refine done_op (by kernel_rfl) ?_
  have Hm4 := Lib.hid m4
  have R1 := Lib.hid ((((t2.trans t3).trans t4)) _ _ _ _ _ r1)
  have R2 := Lib.hid ((t3.trans t4) _ _ _ _ _ r2)
  have R3 := Lib.hid (t4 _ _ _ _ _ r3)
  have R4 := Lib.hid r4
  have V : Hid (M.vst s s4 (nL az + nL pz + nL kz + nL tz) fun v => VL M.m .expr d az v ∨ VL M.m .expr d pz v ∨ VL M.m .key d kz v ∨ VL M.m .key d tz v) := (((v1.tr v2).tr v3).tr v4).to (Nat.le_refl _) fun v => by simp only [or_assoc]
  clear m1 t1 v1 r1 m2 t2 v2 r2 m3 t3 v3 r3 m4 t4 v4 r4 hD Hmd hc1 hc2 hc3 hc4 hb
  go_wp2_with (first | (refine wpList_store_blk rfl 28 _ _ rfl _ 2 _ _ [.slice A1 az.length az.length] rfl rfl Hm4.out.b4 ie.out (by simp) rfl ?_; intro w9 hw9; obtain ⟨mm, tt⟩ := Hm4.out.set hB hw9; have Hn1 := Lib.hid mm; have R1' := Lib.hid (tt _ _ _ _ _ R1.out); have R2' := Lib.hid (tt _ _ _ _ _ R2.out); have R3' := Lib.hid (tt _ _ _ _ _ R3.out); have R4' := Lib.hid (tt _ _ _ _ _ R4.out); clear mm tt hw9 R1 R2 R3 R4) | (refine wpList_store_blk rfl 28 _ _ rfl _ 4 _ _ [.slice A2 pz.length pz.length] rfl rfl Hn1.out.b4 ie.out (by simp [setL]) rfl ?_; intro w10 hw10; obtain ⟨mm, tt⟩ := Hn1.out.set hB hw10; have Hn2 := Lib.hid mm; have R1'' := Lib.hid (tt _ _ _ _ _ R1'.out); have R2'' := Lib.hid (tt _ _ _ _ _ R2'.out); have R3'' := Lib.hid (tt _ _ _ _ _ R3'.out); have R4'' := Lib.hid (tt _ _ _ _ _ R4'.out); clear mm tt hw10 R1' R2' R3' R4') | (refine wpList_store_blk rfl 57 _ _ rfl _ 5 _ _ [.slice A3 kz.length kz.length] rfl rfl Hn2.out.b4 ik.out (by simp [setL]) rfl ?_; intro w11 hw11; obtain ⟨mm, tt⟩ := Hn2.out.set hB hw11; have Hn3 := Lib.hid mm; have R1''' := Lib.hid (tt _ _ _ _ _ R1''.out); have R2''' := Lib.hid (tt _ _ _ _ _ R2''.out); have R3''' := Lib.hid (tt _ _ _ _ _ R3''.out); have R4''' := Lib.hid (tt _ _ _ _ _ R4''.out); clear mm tt hw11 R1'' R2'' R3'' R4'') | (refine wpList_store_blk rfl 57 _ _ rfl _ 6 _ _ [.slice A4 tz.length tz.length] rfl rfl Hn3.out.b4 ik.out (by simp [setL]) rfl ?_; intro w12 hw12; obtain ⟨mm, tt⟩ := Hn3.out.set hB hw12; have Hn4 := Lib.hid mm; have R1'''' := Lib.hid (tt _ _ _ _ _ R1'''.out); have R2'''' := Lib.hid (tt _ _ _ _ _ R2'''.out); have R3'''' := Lib.hid (tt _ _ _ _ _ R3'''.out); have R4'''' := Lib.hid (tt _ _ _ _ _ R4'''.out); clear mm tt hw12 R1''' R2''' R3''' R4''') | (refine wpList_load_one rfl 55 _ rfl _ Tryz.underlying55 rfl _ _ _ _ _ rfl Hn4.out.b4 rfl ?_) | (go_at_call 107; refine (hc5.out _ _ _ Hn4.out (by have := Hcn.out; have := V.out.2; omega)).mono ?_; rintro e wg ⟨A5, y5, s5, rfl, m5, t5, v5, r5⟩; have Hm5 := Lib.hid m5; have V5 := Lib.hid v5; have R5 := Lib.hid r5; have Q1 := Lib.hid (t5 _ _ _ _ _ R1''''.out); have Q2 := Lib.hid (t5 _ _ _ _ _ R2''''.out); have Q3 := Lib.hid (t5 _ _ _ _ _ R3''''.out); have Q4 := Lib.hid (t5 _ _ _ _ _ R4''''.out); clear m5 t5 v5 r5 R1'''' R2'''' R3'''' R4'''') | (refine wpList_store_blk rfl 55 _ _ rfl _ 3 _ _ [.slice A5 gz.length gz.length] rfl rfl Hm5.out.b4 ig.out (by simp [setL]) rfl ?_; intro w13 hw13; obtain ⟨mm, tt⟩ := Hm5.out.set hB hw13; have Hn5 := Lib.hid mm; have Q1' := Lib.hid (tt _ _ _ _ _ Q1.out); have Q2' := Lib.hid (tt _ _ _ _ _ Q2.out); have Q3' := Lib.hid (tt _ _ _ _ _ Q3.out); have Q4' := Lib.hid (tt _ _ _ _ _ Q4.out); have R5' := Lib.hid (tt _ _ _ _ _ R5.out); clear mm tt hw13 Q1 Q2 Q3 Q4 R5) | (refine wpList_load_part rfl 103 _ rfl _ Tryz.underlying103 rfl _ _ _ _ [.int .i64 k, .int .i64 n, .slice A1 az.length az.length, .slice A5 gz.length gz.length, .slice A2 pz.length pz.length, .slice A3 kz.length kz.length, .slice A4 tz.length tz.length, .int .i64 u, .int .i64 fk, .int .i64 fn, .int .i64 tk, .int .i64 tn] rfl Hn5.out.b4 i5.out rfl ?_) | (refine wpList_store_blk rfl 103 _ _ rfl _ _ _ _ [.int .i64 k, .int .i64 n, .slice A1 az.length az.length, .slice A5 gz.length gz.length, .slice A2 pz.length pz.length, .slice A3 kz.length kz.length, .slice A4 tz.length tz.length, .int .i64 u, .int .i64 fk, .int .i64 fn, .int .i64 tk, .int .i64 tn] rfl rfl Hn5.out.b6 i5.out (by simp) rfl ?_; intro wz hwz))
  refine bodyPost_blk rfl (W.heap.size + 3) [.int .i64 k, .int .i64 n, .slice A1 az.length az.length, .slice A5 gz.length gz.length, .slice A2 pz.length pz.length, .slice A3 kz.length kz.length, .slice A4 tz.length tz.length, .int .i64 u, .int .i64 fk, .int .i64 fn, .int .i64 tk, .int .i64 tn] _ rfl _ hwz.bk Tryz.underlying103 rfl i5.out rfl ?_
  obtain ⟨hf, tz'⟩ := Hn5.out.ret hB hwz
  have q1 := tz' _ _ _ _ _ Q1'.out
  have q2 := tz' _ _ _ _ _ Q2'.out
  have q3 := tz' _ _ _ _ _ Q3'.out
  have q4 := tz' _ _ _ _ _ Q4'.out
  have q5 := tz' _ _ _ _ _ R5'.out
  refine ⟨.node [.int .i64 k, .int .i64 n, .slice A1 az.length az.length, .slice A5 gz.length gz.length, .slice A2 pz.length pz.length, .slice A3 kz.length kz.length, .slice A4 tz.length tz.length, .int .i64 u, .int .i64 fk, .int .i64 fn, .int .i64 tk, .int .i64 tn] [y1, y5, y2, y3, y4], s5, rfl, hf, (V.out.tr V5.out).to (by rw [DT.n_node]; simp; omega) fun v => ?_, UIn.mkK rfl rfl ⟨k, n, _, _, _, _, _, u, fk, fn, tk, tn, rfl, ok⟩ ⟨q1.kr (by omega) rfl, q5.kr (by omega) rfl, q2.kr (by omega) rfl, q3.kr (by omega) rfl, q4.kr (by omega) rfl, trivial⟩, Mp.mkK rfl rfl (fun j hj => by match j with | 0 => rfl | 1 => rfl | 2 => exact absurd (by simp [Uy.sl]) (hj .expr) | 3 => exact absurd (by simp [Uy.sl]) (hj .agg) | 4 => exact absurd (by simp [Uy.sl]) (hj .expr) | 5 => exact absurd (by simp [Uy.sl]) (hj .key) | 6 => exact absurd (by simp [Uy.sl]) (hj .key) | 7 => rfl | 8 => rfl | 9 => rfl | 10 => rfl | 11 => rfl | j + 12 => rfl) ⟨q1.ml, q5.ml, q2.ml, q3.ml, q4.ml, trivial⟩⟩
  rw [Vs.wi]
  simp only [or_comm, or_left_comm]
end Go.Proofs.YthijagpnpcpcbaaGreat

