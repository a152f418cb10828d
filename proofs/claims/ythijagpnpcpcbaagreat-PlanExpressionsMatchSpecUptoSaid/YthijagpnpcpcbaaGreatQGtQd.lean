/-
  plan.mapper.key.
  plan.mapper.expr.
-/
import Derived.Test.YthijagpnpcpcbaaGreatQGtPb
import Derived.Test.YthijagpnpcpcbaaGreatQGtQc
import Derived.Deep.DeepCutAuto
namespace Go.Proofs.YthijagpnpcpcbaaGreat
open Go.RowKit Go.Sort
theorem UIn.kyx {S : Nat → Prop} {w : World} {d : DT} (h : UIn S w .key d) : ∃ (c : List Value) (dn fi : Bool) (k : List (List DT)), d = .node (c ++ [.bool dn, .bool fi]) k ∧ c.length = 14 ∧ UIn S w .expr (.node c k) := by
  cases h with
  | mk _ c kk hl h1 hok hk hr hx =>
    obtain ⟨a, v6, v11, v12, v13, dn, fi, rfl, ok⟩ := hok
    refine ⟨_, dn, fi, kk, (show DT.node _ _ = DT.node ([.int .i64 a.k, .int .i64 a.op, .int .i64 a.up, .int .i64 a.pos, .int .i64 a.tk, .int .i64 a.tsc, v6, .int .i64 a.vk, .int .i64 a.vn, .int .i64 a.vsc, .string a.s, v11, v12, v13] ++ [.bool dn, .bool fi]) kk from rfl), rfl, .mk .expr _ kk rfl (fun u hu => h1 u (List.mem_append_left _ hu)) ⟨a, v6, v11, v12, v13, rfl, ok⟩ hk (fun i o s m h2 h3 => ?_) hx⟩
    obtain ⟨A, cap, e, r⟩ := hr i o s m h2 h3
    refine ⟨A, cap, ?_, r⟩
    have ho : o < 14 := by
      have : (o, s) ∈ Uy.sl .expr := List.mem_of_getElem? h2
      simp [Uy.sl] at this
      omega
    rw [← e]
    exact (List.getElem?_append_left (l₁ := [.int .i64 a.k, .int .i64 a.op, .int .i64 a.up, .int .i64 a.pos, .int .i64 a.tk, .int .i64 a.tsc, v6, .int .i64 a.vk, .int .i64 a.vn, .int .i64 a.vsc, .string a.s, v11, v12, v13]) (l₂ := [.bool dn, .bool fi]) ho).symm
theorem UIn.mkey {S : Nat → Prop} {w : World} {c : List Value} {k : List (List DT)} (dn fi : Bool) (h : UIn S w .expr (.node c k)) : UIn S w .key (.node (c ++ [.bool dn, .bool fi]) k) := by
  cases h with
  | mk _ _ _ hl h1 hok hk hr hx =>
    have hl' : c.length = 14 := hl
    refine .mk .key _ k (by simp [hl']; rfl) (fun u hu => ?_) ?_ hk (fun i o s m h2 h3 => ?_) hx
    · rcases List.mem_append.1 hu with hu | hu
      · exact h1 u hu
      · simp at hu; rcases hu with rfl | rfl <;> rfl
    · obtain ⟨a, v6, v11, v12, v13, rfl, ok⟩ := hok
      exact ⟨a, v6, v11, v12, v13, dn, fi, rfl, ok⟩
    · obtain ⟨A, cap, e, r⟩ := hr i o s m h2 h3
      refine ⟨A, cap, ?_, r⟩
      rw [List.getElem?_append_left (by rw [hl']; have : (o, s) ∈ Uy.sl .expr := List.mem_of_getElem? h2; simp [Uy.sl] at this; omega)]
      exact e
theorem uI31 : (Tryz.prog.info? 31).map (·.size) = some 14 := by kernel_rfl
theorem uI105 : (Tryz.prog.info? 105).map (·.size) = some 16 := by kernel_rfl
set_option maxRecDepth 100000 in
set_option maxHeartbeats 2000000 in
theorem key_step (N : Nat) (h : HT 36 .expr N) : HT 115 .key N := by
  intro σ M x d s W hn hd hd2 hst hx hcn
  obtain ⟨c, dn, fi, k, rfl, hc, hxe⟩ := hx.kyx
  have hB := M.C.base s W hst
  have hcl : (c ++ [Value.bool dn, .bool fi]).length = 16 := by simp [hc]
  have h1 := all_one hx.ones
  obtain ⟨cc, hcc⟩ : ∃ cc, c ++ [Value.bool dn, .bool fi] = cc := ⟨_, rfl⟩
  rw [DT.n_node] at hn hd2 hcn
  have hxc : (DT.node (c ++ [Value.bool dn, .bool fi]) k).c = cc := hcc
  have htk : cc.take 14 = c := by rw [← hcc, ← hc]; exact List.take_left
  have hdr : cc.drop 14 = [.bool dn, .bool fi] := by rw [← hcc, ← hc]; exact List.drop_left
  rw [hxc] at h1 ⊢
  rw [hcc] at hcl
  obtain ⟨w1, hw1⟩ : ∃ w1, W.alloc (.cells #[M.v] 73) = w1 := ⟨_, rfl⟩
  obtain ⟨w2, hw2⟩ : ∃ w2, w1.alloc (.cells cc.toArray 105) = w2 := ⟨_, rfl⟩
  obtain ⟨w3, hw3⟩ : ∃ w3, w2.alloc (.cells #[.int .i64 0, .int .i64 0, .int .i64 0, .int .i64 0, .int .i64 0, .int .i64 0, .slice none 0 0, .int .i64 0, .int .i64 0, .int .i64 0, .string ⟨#[]⟩, .slice none 0 0, .slice none 0 0, .slice none 0 0, .bool false, .bool false] 105) = w3 := ⟨_, rfl⟩
  have hz1 : w1.heap.size = W.heap.size + 1 := by rw [← hw1]; simp
  have hz2 : w2.heap.size = W.heap.size + 2 := by rw [← hw2]; simp [hz1]
  have hz3 : w3.heap.size = W.heap.size + 3 := by rw [← hw3]; simp [hz2]
  have hb1 : Bk w3 W.heap.size [M.v] 73 := by rw [← hw3, ← hw2, ← hw1]; exact ((Bk.new W [M.v] _).alloc _).alloc _
  have hb2 : Bk w3 (W.heap.size + 1) cc 105 := by rw [← hw3, ← hw2, ← hz1]; exact (Bk.new w1 cc _).alloc _
  have hb3 : Bk w3 (W.heap.size + 2) [.int .i64 0, .int .i64 0, .int .i64 0, .int .i64 0, .int .i64 0, .int .i64 0, .slice none 0 0, .int .i64 0, .int .i64 0, .int .i64 0, .string ⟨#[]⟩, .slice none 0 0, .slice none 0 0, .slice none 0 0, .bool false, .bool false] 105 := by rw [← hw3, ← hz2]; exact Bk.new w2 [_, _, _, _, _, _, _, _, _, _, _, _, _, _, _, _] _
  have hbw : Below W.heap.size W w3 := by rw [← hw3, ← hw2, ← hw1]; exact (((Below.refl _ _).alloc (Nat.le_refl _) _).alloc (by simp) _).alloc (by simp; omega) _
  have hf0 : Fr M.C s W s w3 := Fr.below hst hbw
  have hO2 : ∀ k, M.C.O s k → k < W.heap.size := M.C.lt s W hst
  have Hx2 : Hid ((Tryz.prog.info? 105).map (·.size) = some cc.length) := by show _ = _; rw [hcl]; exact uI105
  have Hx3 := Lib.hid h1
  have hcall : Hid (Calls Tryz.prog 36 #[.agg #[M.v], .agg c.toArray, .int .i64 d] w3 fun e w4 => ∃ (c' : List Value) (k' : List (List DT)) (s' : σ), e = .returned (.agg c'.toArray) ∧ Fr M.C s W s' w4 ∧ M.vst s s' (DT.node c k).n (Vs M.m .expr d (.node c k)) ∧ UIn (Nw M.C w3.heap.size s' w4) w4 .expr (.node c' k') ∧ Mp M.m .expr d (.node c k) (.node c' k') ∧
      Bk w4 (W.heap.size + 1) cc 105 ∧ Bk w4 (W.heap.size + 2) [.int .i64 0, .int .i64 0, .int .i64 0, .int .i64 0, .int .i64 0, .int .i64 0, .slice none 0 0, .int .i64 0, .int .i64 0, .int .i64 0, .string ⟨#[]⟩, .slice none 0 0, .slice none 0 0, .slice none 0 0, .bool false, .bool false] 105 ∧ ¬ M.C.O s' (W.heap.size + 1) ∧ ¬ M.C.O s' (W.heap.size + 2) ∧
      c'.length = 14 ∧ (Tryz.prog.info? 31).map (·.size) = some c'.length ∧ c'.all (·.oneCell') = true ∧ setL cc 0 c' = c' ++ [.bool dn, .bool fi] ∧ (c' ++ [Value.bool dn, .bool fi]).all (·.oneCell') = true ∧ (Tryz.prog.info? 105).map (·.size) = some (c' ++ [Value.bool dn, .bool fi]).length) := by
    refine (h σ M (.node c k) d s w3 (by rw [DT.n_node]; exact hn) hd (by rw [DT.n_node]; exact hd2) hf0.st (hxe.keep (hf0.src hst) fun _ h => h) (by rw [DT.n_node]; exact hcn)).mono ?_
    rintro e w4 ⟨⟨c', k'⟩, s', rfl, hf, hv, hy, hm⟩
    have hy14 : c'.length = 14 := hy.len
    have hno : ∀ b, W.heap.size ≤ b → b < w3.heap.size → ¬ M.C.O s' b := fun b h1 h2 e => by
      rcases hf.own _ e with e | e
      · have := hO2 _ e; omega
      · omega
    have hno0 : ∀ b, W.heap.size ≤ b → ¬ M.C.O s b := fun b h1 e => by have := hO2 _ e; omega
    have ha : c'.all (·.oneCell') = true := by have := all_one hy.ones; simpa [DT.c] using this
    refine ⟨c', k', s', rfl, hf0.trans hf, hv, hy, hm, hb2.fr hf (hno0 _ (by omega)), hb3.fr hf (hno0 _ (by omega)), hno _ (by omega) (by omega), hno _ (by omega) (by omega), hy14, by rw [hy14]; exact uI31, ha, ?_, by rw [List.all_append, ha]; rfl, by simp only [List.length_append, hy14]; exact uI105⟩
    rw [setL_app cc c' 0 (by omega), hy14, Nat.zero_add, hdr]
    simp
  have H1 := Lib.hid hb1
  have H2 := Lib.hid hb2
  have Hm := Lib.hid uIm
  have H14 : Hid ((Tryz.prog.info? 31).map (·.size) = some c.length) := by show _ = _; rw [hc]; exact uI31
  have Htk : Hid ((cc.drop 0).take c.length = c) := by show _ = _; rw [List.drop_zero, hc]; exact htk
  have Hcl := Lib.hid hcl
  have Hc := Lib.hid hc
  clear hb1 hb2 hb3 hx hxe h hf0 hst hO2 hcc hxc htk hdr hcl hc h1
  go_enter Tryz.func115, Tryz.ntmps115
  go_upto_region 1 with (fail)
  go_wp2_with (first | (refine wpList_load_part rfl 73 _ rfl _ Tryz.underlying73 rfl _ _ _ _ [M.v] rfl H1.out Hm.out rfl ?_) | (refine wpList_load_part rfl 31 _ rfl _ Tryz.underlying31 rfl _ _ _ _ c rfl H2.out H14.out Htk.out ?_) | (go_at_call 36; refine hcall.out.mono ?_; rintro e w4 ⟨c', k', s', rfl, hf, hv, hy, hm, k1, k2, o1, o2, q1, q2, q3, q4, q5, q6⟩) | (refine wpList_store_blk rfl 31 _ _ rfl _ _ _ _ c' rfl rfl k1 q2 (by rw [q1, Hcl.out]; decide) q3 ?_; rw [q4]; intro w5 hw5) | (refine wpList_load_part rfl 105 _ rfl _ Tryz.underlying105 rfl _ _ _ _ (c' ++ [Value.bool dn, .bool fi]) rfl hw5.bk q6 (by rw [List.drop_zero, List.take_length]) ?_) | (refine wpList_store_blk rfl 105 _ _ rfl _ _ _ _ (c' ++ [Value.bool dn, .bool fi]) rfl rfl (k2.wrt hw5 (by omega)) q6 (by simp [q1]) q5 ?_; intro w6 hw6))
  rw [setL_all _ _ (by simp [q1])] at hw6
  refine bodyPost_blk rfl (W.heap.size + 2) (c' ++ [Value.bool dn, .bool fi]) _ rfl _ hw6.bk Tryz.underlying105 rfl q6 rfl ?_
  have hy6 := ((hy.wrt hw5 (by omega) (by omega)).wrt hw6 (by omega) (by omega)).lower (show W.heap.size ≤ w3.heap.size by omega)
  refine ⟨.node (c' ++ [.bool dn, .bool fi]) k', s', rfl, (hf.wrt hw5 (by omega) o1).wrt hw6 (by omega) o2, ⟨fun v => ?_, by have := hv.2; rw [DT.n_node] at this ⊢; exact this⟩, hy6.mkey dn fi, .key d c c' _ k k' rfl Hc.out q1 hm⟩
  rw [hv.1]
  constructor
  · rintro (h | h)
    · exact .inl h
    · exact .inr (.key d c _ k v rfl Hc.out h)
  · rintro (h | h)
    · exact .inl h
    · refine .inr ?_
      generalize hgx : DT.node (c ++ [.bool dn, .bool fi]) k = x at h
      cases h with
      | kid _ _ _ _ _ _ _ _ _ _ _ hk => exact absurd rfl hk
      | key _ c2 b2 k2 _ hb hc2 h =>
        injection hgx with e1 e2
        subst e2
        obtain ⟨rfl, rfl⟩ := List.append_inj e1 (Hc.out.trans hc2.symm)
        exact h
end Go.Proofs.YthijagpnpcpcbaaGreat
namespace Go.Proofs.YthijagpnpcpcbaaGreat
open Go.RowKit Go.Sort
theorem LR.krc {σ : Type} {C : Cl σ} {b0 b1 : Nat} {s : σ} {W : World} {t : Uy} {Rel : DT → DT → Prop} {l ys : List DT} {A : Option Addr} (h : LR C b0 s W t Rel l A ys) (hb : b1 ≤ b0) {cap : Nat} (h1 : l.length ≤ cap) (h2 : cap ≤ maxLen) {c : List Value} {o : Nat} (hc : c[o]? = some (.slice A l.length cap)) :
    ∃ A cap, c[o]? = some (.slice A ys.length cap) ∧ DRow (Nw C b1 s W) W t.sz A cap ys ∧ ∀ x, x ∈ ys → UIn (Nw C b1 s W) W t x :=
  ⟨A, cap, by rw [h.len]; exact hc, ⟨by rw [h.len]; exact h1, h2, (h.lower hb).row.2.2⟩, (h.lower hb).ins⟩
/-- What a copy of a struct with one slice comes to, in a method. -/
def MxCopy {σ : Type} (M : Mpr σ) (T : TypeId) (d : Int) (zs : List Value) (s0 : σ) (W : World) (cs : List Value) (t : Uy) (pre : List Value) (l : List DT) (s : σ) (w : World) (e : Ending) (w' : World) : Prop :=
  ∃ (A : Option Addr) (cap : Nat) (ys : List DT), e = .returned (.agg (pre ++ [Value.slice A l.length cap]).toArray) ∧ Mx M T d zs s0 W cs s w' ∧ Tr M (W.heap.size + 4) s w s w' ∧ LR M.C (W.heap.size + 4) s w' t (USm t) l A ys ∧ l.length ≤ cap ∧ cap ≤ maxLen
theorem Mx.copy {σ : Type} {M : Mpr σ} {T : TypeId} {d : Int} {zs cs : List Value} {s0 s : σ} {W w : World} (h : Mx M T d zs s0 W cs s w) {t : Uy} {pre : List Value} {l : List DT} {e : Ending} {w' : World} (hf : Below w.heap.size w w') (A : Option Addr) (cap : Nat) (ys : List DT) (he : e = .returned (.agg (pre ++ [Value.slice A ys.length cap]).toArray)) (hr : DRow (Nw C0 w.heap.size () w') w' t.sz A cap ys) (hi : ∀ y, y ∈ ys → UIn (Nw C0 w.heap.size () w') w' t y) (hu : USL t l ys) : MxCopy M T d zs s0 W cs t pre l s w e w' := by
  obtain ⟨h1, h2⟩ := h.call (Fr.below h.fr.st hf)
  have hc := hr.1
  have hl := hu.1
  refine ⟨A, cap, ys, by rw [he, hl], h1, h2, ?_, by omega, hr.2.1⟩
  have h3 : LR C0 w.heap.size () w' t (USm t) l A ys := ⟨hl.symm, hu.2, ⟨by omega, by have := hr.2.1; omega, hr.2.2⟩, hi⟩
  exact (h3.of0 h.fr.st).lower h.sz
theorem Mx.ctype {σ : Type} {M : Mpr σ} {T : TypeId} {d : Int} {zs cs : List Value} {s0 s : σ} {W w : World} (hst : M.C.St s0 W) (h : Mx M T d zs s0 W cs s w) (k sc : Int) (l : List DT) (A : Option Addr) (cap : Nat) (ok : I64 k ∧ I64 sc) (hn : nL l + 1 ≤ 1048576) (hl : DRow (fun k => k < M.C.B) W 6 A cap l) (hin : ∀ x, x ∈ l → UIn (fun k => k < M.C.B) W .field x) :
    Calls Tryz.prog 58 #[.agg #[.int .i64 k, .int .i64 sc, .slice A l.length cap]] w (MxCopy M T d zs s0 W cs .field [.int .i64 k, .int .i64 sc] l s w) := by
  have hB := M.C.base s w h.fr.st
  have hx : UIn (fun k => k < M.C.B) w .type (.node [.int .i64 k, .int .i64 sc, .slice A l.length cap] [l]) := UIn.mkK rfl rfl ⟨k, sc, _, rfl, ok⟩ ⟨⟨A, cap, rfl, hl.keep (h.fr.src hst) fun _ h => h, fun x hx => (hin x hx).keep (h.fr.src hst) fun _ h => h⟩, trivial⟩
  refine (copyType_any (.node [.int .i64 k, .int .i64 sc, .slice A l.length cap] [l]) (fun k => k < M.C.B) w (by rw [DT.n_node]; simp; omega) hx fun k hk => by omega).mono ?_
  rintro e w' ⟨y, s', rfl, hf, _, hy, hu⟩
  obtain ⟨k2, sc2, A2, cap2, ys, rfl, ok2, ry, iy⟩ := hy.typ
  obtain ⟨rfl, rfl, hus⟩ := hu.typ
  exact h.copy hf.to0 A2 cap2 ys rfl ry iy hus
theorem Mx.cval {σ : Type} {M : Mpr σ} {T : TypeId} {d : Int} {zs cs : List Value} {s0 s : σ} {W w : World} (hst : M.C.St s0 W) (h : Mx M T d zs s0 W cs s w) (k n sc : Int) (vs : ByteArray) (l : List DT) (A : Option Addr) (cap : Nat) (ok : I64 k ∧ I64 n ∧ I64 sc ∧ vs.size ≤ maxLen) (hn : nL l + 1 ≤ 1048576) (hl : DRow (fun k => k < M.C.B) W 5 A cap l) (hin : ∀ x, x ∈ l → UIn (fun k => k < M.C.B) W .value x) :
    Calls Tryz.prog 59 #[.agg #[.int .i64 k, .int .i64 n, .int .i64 sc, .string vs, .slice A l.length cap]] w (MxCopy M T d zs s0 W cs .value [.int .i64 k, .int .i64 n, .int .i64 sc, .string vs] l s w) := by
  have hB := M.C.base s w h.fr.st
  have hx : UIn (fun k => k < M.C.B) w .value (.node [.int .i64 k, .int .i64 n, .int .i64 sc, .string vs, .slice A l.length cap] [l]) := UIn.mkK rfl rfl ⟨k, n, sc, vs, _, rfl, ok⟩ ⟨⟨A, cap, rfl, hl.keep (h.fr.src hst) fun _ h => h, fun x hx => (hin x hx).keep (h.fr.src hst) fun _ h => h⟩, trivial⟩
  refine (vCopyU_any 1048577 (.node [.int .i64 k, .int .i64 n, .int .i64 sc, .string vs, .slice A l.length cap] [l]) (fun k => k < M.C.B) w (by rw [DT.n_node]; simp; omega) (by rw [DT.n_node]; simp; omega) hx fun k hk => by omega).mono ?_
  rintro e w' ⟨y, s', rfl, hf, _, hy, hu⟩
  obtain ⟨k2, n2, sc2, vs2, A2, cap2, ys, rfl, ok2, ry, iy⟩ := hy.val
  obtain ⟨rfl, rfl, rfl, rfl, hus⟩ := hu.val
  exact h.copy hf.to0 A2 cap2 ys rfl ry iy hus
theorem uIlrel : (Tryz.prog.info? 29).map (·.size) = some 1 := by kernel_rfl
theorem uItyp : (Tryz.prog.info? 24).map (·.size) = some 3 := by kernel_rfl
theorem uIval : (Tryz.prog.info? 27).map (·.size) = some 5 := by kernel_rfl
/-- The zero expression. -/
def zEx : List Value := [.int .i64 0, .int .i64 0, .int .i64 0, .int .i64 0, .int .i64 0, .int .i64 0, .slice none 0 0, .int .i64 0, .int .i64 0, .int .i64 0, .string ⟨#[]⟩, .slice none 0 0, .slice none 0 0, .slice none 0 0]
/-- What stands where an expression's parts are made. -/
def ExCut {σ : Type} (M : Mpr σ) (d : Int) (c : List Value) (k : List (List DT)) (s : σ) (W : World) (w : World) : Prop :=
  ∃ (s1 : σ) (c1 : List Value), Mx M 31 d zEx s W c1 s1 w ∧ UIn (fun k => k < M.C.B) W .expr (.node c1 k) ∧ Pre M.m .expr d c k c1 ∧ M.vst s s1 1 (fun v => kd c = 2 ∧ v = (d, .node c k)) ∧ (kd c = 2 → M.m.dn d (.node c k) = false)
theorem Vs.done {m : Cm} {d : Int} {c : List Value} {k : List (List DT)} {v : Int × DT} (hk : kd c = 2) (hd : m.dn d (.node c k) = true) : Vs m .expr d (.node c k) v ↔ v = (d, .node c k) := by
  constructor
  · intro h
    cases h with
    | here _ _ h => rfl
    | kid _ _ _ _ i o s a q x _ _ hr he hs hl hx h => rw [he rfl hk] at hd; cases hd
  · rintro rfl
    exact .here d _ hk
set_option maxRecDepth 100000 in
set_option maxHeartbeats 4000000 in
theorem expr_step (N : Nat) (h1 : HC 60 .expr N 0) (h2 : HC 62 .rel N 1) : HT 36 .expr (N + 1) := by
  intro σ M x d s W hn hd hd2 hst hx hcn
  obtain ⟨c, k⟩ := x
  have hB := M.C.base s W hst
  have hcl : c.length = 14 := hx.len
  have hall : c.toArray.all (·.oneCell') = true := all_one hx.ones
  obtain ⟨ki, hki, hkd⟩ : ∃ ki, c[0]? = some (.int .i64 ki) ∧ kd c = ki := by
    obtain ⟨a, F, fc, fz, V, vc, vz, A, ac, az, B, sc, sz, he⟩ := hx.ex
    injection he.e with e1 e2
    exact ⟨a.k, by rw [e1]; rfl, by rw [e1]; rfl⟩
  show Calls _ _ #[.agg #[M.v], .agg c.toArray, .int .i64 d] _ _
  obtain ⟨w1, hw1⟩ : ∃ w1, W.alloc (.cells #[M.v] 73) = w1 := ⟨_, rfl⟩
  obtain ⟨w2, hw2⟩ : ∃ w2, w1.alloc (.cells c.toArray 31) = w2 := ⟨_, rfl⟩
  obtain ⟨w3, hw3⟩ : ∃ w3, w2.alloc (.cells #[.int .i64 d] 3) = w3 := ⟨_, rfl⟩
  obtain ⟨w4, hw4⟩ : ∃ w4, w3.alloc (.cells #[.int .i64 0, .int .i64 0, .int .i64 0, .int .i64 0, .int .i64 0, .int .i64 0, .slice none 0 0, .int .i64 0, .int .i64 0, .int .i64 0, .string ⟨#[]⟩, .slice none 0 0, .slice none 0 0, .slice none 0 0] 31) = w4 := ⟨_, rfl⟩
  have hz1 : w1.heap.size = W.heap.size + 1 := by rw [← hw1]; simp
  have hz2 : w2.heap.size = W.heap.size + 2 := by rw [← hw2]; simp [hz1]
  have hz3 : w3.heap.size = W.heap.size + 3 := by rw [← hw3]; simp [hz2]
  have hz4 : w4.heap.size = W.heap.size + 4 := by rw [← hw4]; simp [hz3]
  have hmd := Mx.new (T := 31) (cs := c) (zs := zEx) hst hw1 hw2 hw3 hw4
  have hce : Hid ((Tryz.prog.info? 31).map (·.size) = some c.length) := by show _ = _; rw [hcl]; exact uI31
  have heg := M.eg
  have hcol : kd c = 2 → Hid (Calls Tryz.prog M.g (#[.agg c.toArray, .int .i64 d] ++ M.lb) w4 (ColPost M.C M.mem M.cnt M.m d (.node c k) s w4)) := fun hk2 => M.col s w4 d (.node c k) hd (by have := (DT.node c k).n_pos; omega) hmd.fr.st (hx.keep (hmd.fr.src hst) fun _ h => h) (by have := (DT.node c k).n_pos; omega) hk2 (by have := (DT.node c k).n_pos; omega)
  obtain ⟨g, hg⟩ : ∃ g, M.g = g := ⟨_, rfl⟩
  obtain ⟨lb, hlb⟩ : ∃ lb, M.lb = lb := ⟨_, rfl⟩
  have hb3 : Hid (Bk w4 W.heap.size [.func (.func g) #[] lb] 73) := by show Bk _ _ _ _; have := hmd.b3; rwa [show M.v = .func (.func g) #[] lb by unfold Mpr.v; rw [hg, hlb]] at this
  rw [hg] at heg hcol
  rw [hlb] at hcol
  have hb4 := Lib.hid hmd.b4
  have hb5 := Lib.hid hmd.b5
  have Hmd := Lib.hid hmd
  have Hx := Lib.hid hx
  have Hcol := Lib.hid hcol
  have Hki := Lib.hid hki
  have Hkd := Lib.hid hkd
  have Hcl := Lib.hid hcl
  have Hall := Lib.hid hall
  have Hst := Lib.hid hst
  clear hx hcol hki hkd hcl hmd hg hlb hall hst
  go_enter Tryz.func36, Tryz.ntmps36
  go_upto_if 11 with (refine wpList_load_one rfl 3 _ rfl _ Tryz.underlying3 rfl _ 0 _ _ _ rfl hb4.out Hki.out ?_)
  go_cut [] (fun wx => ExCut M d c k s W wx)
  case first =>
    by_cases hk2 : ki = 2
    · subst hk2
      cases hdn : M.m.dn d (.node c k) with
      | true =>
        have Hc2 : Hid (Calls Tryz.prog g (#[.agg c.toArray, .int .i64 d] ++ lb) w4 fun e w5 => ∃ (y : DT) (s' : σ), e = .returned (.tuple #[.agg y.c.toArray, .bool true]) ∧ Hid (Mx M 31 d zEx s W c s' w5) ∧ Hid (M.vst s s' 1 fun v => v = (d, .node c k)) ∧ Hid (UIn (Nw M.C w4.heap.size s' w5) w5 .expr y) ∧ Hid (∃ y0, M.m.rs d (.node c k) y0 ∧ USm .expr y0 y) ∧ Hid (y.c.toArray.size = 14) ∧ Hid ((Tryz.prog.info? 31).map (·.size) = some y.c.length) ∧ Hid (y.c.toArray.all (·.oneCell') = true) ∧
          Hid (Bk (w5.alloc (.cells y.c.toArray 31)) w5.heap.size y.c 31) ∧ Hid (Mx M 31 d zEx s W c s' (w5.alloc (.cells y.c.toArray 31)))) := by
          refine (Hcol.out Hkd.out).out.mono ?_
          rintro e w5 ⟨y, s', rfl, hf, hv, hg1, hg2⟩
          have m5 := (Hmd.out.call hf).1
          have m6 := (m5.call (Fr.below m5.fr.st (bel1 w5 (.cells y.c.toArray 31)))).1
          obtain ⟨hy, hr⟩ := hg2 hdn
          have hl := hy.len
          exact ⟨y, s', by rw [hdn], m5, hv, hy, hr, by show _ = _; rw [List.size_toArray, hl]; rfl, by show _ = _; rw [hl]; exact uI31, all_one hy.ones, Bk.new w5 y.c _, m6⟩
        have Hdn := Lib.hid hdn
        clear hdn
        go_wp2_with (first
          | (refine wpList_load_one rfl 71 _ rfl _ Tryz.underlying71 rfl _ 0 _ _ _ rfl hb3.out rfl ?_)
          | (refine wpList_load_part rfl 31 _ rfl _ Tryz.underlying31 rfl _ _ _ _ c rfl hb4.out hce.out (by rw [List.drop_zero, List.take_length]) ?_)
          | (refine wpList_load_one rfl 3 _ rfl _ Tryz.underlying3 rfl _ _ _ _ _ rfl hb5.out rfl ?_)
          | (go_at_fn g; refine Hc2.out.mono ?_; rintro e w5 ⟨y, s', rfl, m5, hv, hy, hr, y14, yi, y1, k6, m6⟩)
          | (refine wpList_store_st rfl 31 _ _ rfl _ y.c.toArray (by simpa using yi.out) y14.out.symm y1.out rfl rfl ?_)
          | (refine wpList_load_part rfl 31 _ rfl _ Tryz.underlying31 rfl _ _ _ _ y.c rfl k6.out yi.out (by rw [List.drop_zero, List.take_length]) ?_)
          | (refine wpList_store_blk rfl 31 _ _ rfl _ _ _ _ y.c rfl rfl m6.out.b6 yi.out (by simpa [zEx] using Nat.le_of_eq y14.out) (by simpa using y1.out) ?_; intro w6 hw6))
        rw [setL_all _ _ (by simpa [zEx] using y14.out)] at hw6
        refine bodyPost_blk rfl (W.heap.size + 3) y.c _ rfl _ hw6.bk Tryz.underlying31 rfl yi.out rfl ?_
        have h5 := m5.out
        obtain ⟨y0, hr0, hs0⟩ := hr.out
        exact ⟨y, s', rfl, (m6.out.ret hB hw6).1, hv.out.to (DT.node c k).n_pos fun v => (Vs.done Hkd.out Hdn.out).symm, ((hy.out.fr (Fr.below h5.fr.st (bel1 w5 (.cells y.c.toArray 31)))).wrt hw6 (by omega) (by omega)).lower (by omega), .done d _ y0 y Hkd.out Hdn.out hr0 hs0⟩
      | false =>
        have Hc2 : Hid (Calls Tryz.prog g (#[.agg c.toArray, .int .i64 d] ++ lb) w4 fun e w5 => ∃ (y : DT) (s' : σ), e = .returned (.tuple #[.agg y.c.toArray, .bool false]) ∧ Hid (Mx M 31 d zEx s W c s' w5) ∧ Hid (M.vst s s' 1 fun v => v = (d, .node c k)) ∧ Hid (UIn (fun k => k < M.C.B) w5 .expr y) ∧ Hid (y = .node (M.m.cg d (.node c k)) k) ∧ Hid (y.c.toArray.size = 14) ∧ Hid ((Tryz.prog.info? 31).map (·.size) = some y.c.length) ∧ Hid (y.c.toArray.all (·.oneCell') = true) ∧
          Hid (Bk (w5.alloc (.cells y.c.toArray 31)) w5.heap.size y.c 31) ∧ Hid (Mx M 31 d zEx s W c s' (w5.alloc (.cells y.c.toArray 31)))) := by
          refine (Hcol.out Hkd.out).out.mono ?_
          rintro e w5 ⟨y, s', rfl, hf, hv, hg1, hg2⟩
          have m5 := (Hmd.out.call hf).1
          have m6 := (m5.call (Fr.below m5.fr.st (bel1 w5 (.cells y.c.toArray 31)))).1
          obtain ⟨hr, hy, _⟩ := hg1 hdn
          have hl := hy.len
          exact ⟨y, s', by rw [hdn], m5, hv, hy, hr, by show _ = _; rw [List.size_toArray, hl]; rfl, by show _ = _; rw [hl]; exact uI31, all_one hy.ones, Bk.new w5 y.c _, m6⟩
        have Hdn := Lib.hid hdn
        clear hdn
        go_wp2_with (first
          | (refine wpList_load_one rfl 71 _ rfl _ Tryz.underlying71 rfl _ 0 _ _ _ rfl hb3.out rfl ?_)
          | (refine wpList_load_part rfl 31 _ rfl _ Tryz.underlying31 rfl _ _ _ _ c rfl hb4.out hce.out (by rw [List.drop_zero, List.take_length]) ?_)
          | (refine wpList_load_one rfl 3 _ rfl _ Tryz.underlying3 rfl _ _ _ _ _ rfl hb5.out rfl ?_)
          | (go_at_fn g; refine Hc2.out.mono ?_; rintro e w5 ⟨y, s', rfl, m5, hv, hy, hr, y14, yi, y1, k6, m6⟩)
          | (refine wpList_store_st rfl 31 _ _ rfl _ y.c.toArray (by simpa using yi.out) y14.out.symm y1.out rfl rfl ?_)
          | (refine wpList_load_part rfl 31 _ rfl _ Tryz.underlying31 rfl _ _ _ _ y.c rfl k6.out yi.out (by rw [List.drop_zero, List.take_length]) ?_)
          | (refine wpList_store_blk rfl 31 _ _ rfl _ _ _ _ y.c rfl rfl m6.out.b4 yi.out (by rw [Hcl.out]; simpa using Nat.le_of_eq y14.out) (by simpa using y1.out) ?_; intro w6 hw6))
        rw [setL_all _ _ (by rw [Hcl.out]; simpa using y14.out)] at hw6
        go_meet
        have h5 := m5.out
        obtain rfl := hr.out
        refine ⟨s', M.m.cg d (.node c k), (m6.out.set hB hw6).1, hy.out.keep (fun k hk => (h5.fr.src Hst.out k hk).symm) fun _ h => h, ⟨fun _ => ⟨Hdn.out, rfl⟩, fun e => absurd Hkd.out e⟩, hv.out.to (Nat.le_refl _) fun v => ⟨fun e => ⟨Hkd.out, e⟩, fun e => e.2⟩, fun _ => Hdn.out⟩
    · have Hk2 := Lib.hid hk2
      go_wp2_with fail
      go_meet
      have hk := Hkd.out
      have hne : kd c ≠ 2 := by rw [hk]; exact Hk2.out
      exact ⟨s, c, Hmd.out, Hx.out, ⟨fun e => absurd e hne, fun _ => rfl⟩, Mpr.vst.no fun v h => absurd h.1 hne, fun e => absurd e hne⟩
  case rest =>
    obtain ⟨s1, c1, hm0, hc1, hpre, hv1, hdn⟩ := hcut
    obtain ⟨a, F, fc, fz, V, vc, vz, A, ac, az, B, sc, sz, he⟩ := hc1.ex
    injection he.e with e1 e2
    subst e1 e2
    rw [DT.n_node] at hn hd2 hcn
    simp at hn hd2 hcn
    have Hcn := Lib.hid hcn
    obtain ⟨ok1, ok2, ok3, ok4, ok5, ok6, ok7, ok8, ok9, ok10⟩ := he.ok
    have hst := Hst.out
    have q1 : Hid (∀ s' w' cs, Mx M 31 d zEx s W cs s' w' → Calls Tryz.prog 58 #[.agg #[.int .i64 a.tk, .int .i64 a.tsc, .slice F fz.length fc]] w' (MxCopy M 31 d zEx s W cs .field [.int .i64 a.tk, .int .i64 a.tsc] fz s' w')) :=
      fun s' w' cs hm => Mx.ctype hst hm a.tk a.tsc fz F fc ⟨ok5, ok6⟩ (by omega) he.rf he.jf
    have q2 : Hid (∀ s' w' cs, Mx M 31 d zEx s W cs s' w' → Calls Tryz.prog 59 #[.agg #[.int .i64 a.vk, .int .i64 a.vn, .int .i64 a.vsc, .string a.s, .slice V vz.length vc]] w' (MxCopy M 31 d zEx s W cs .value [.int .i64 a.vk, .int .i64 a.vn, .int .i64 a.vsc, .string a.s] vz s' w')) :=
      fun s' w' cs hm => Mx.cval hst hm a.vk a.vn a.vsc a.s vz V vc ⟨ok7, ok8, ok9, ok10⟩ (by omega) he.rv he.iv
    have q3 : Hid (∀ s' w' cs, Mx M 31 d zEx s W cs s' w' → M.cnt s' + nL az ≤ 1048576 → Calls Tryz.prog 20 #[.slice A az.length ac, .func (.func 60) #[] #[.pointer (some ⟨W.heap.size, 0, none⟩), .pointer (some ⟨W.heap.size + 2, 0, none⟩)]] w' (MxPost M 31 d zEx s W cs .expr d az s' w')) :=
      fun s' w' cs hm hcn' => Mx.listExp h1 (enters_of Tryz.func60 (by kernel_rfl) rfl) hst hm d az A ac (by omega) (by omega) hd hd (by omega) he.ra he.ia hcn'
    have q4 : Hid (∀ s' w' cs, Mx M 31 d zEx s W cs s' w' → M.cnt s' + nL sz ≤ 1048576 → Calls Tryz.prog 61 #[.slice B sz.length sc, .func (.func 62) #[] #[.pointer (some ⟨W.heap.size, 0, none⟩), .pointer (some ⟨W.heap.size + 2, 0, none⟩)]] w' (MxPost M 31 d zEx s W cs .rel (d + 1) sz s' w')) :=
      fun s' w' cs hm hcn' => Mx.listRel h2 (enters_of Tryz.func62 (by kernel_rfl) rfl) hst hm (d + 1) sz B sc rfl (by omega) hd (by omega) (by omega) he.rs he.js hcn'
    have Hm0 := Lib.hid hm0
    have Hpre := Lib.hid hpre
    have Hv1 := Lib.hid hv1
    have Hdn := Lib.hid hdn
    have Hok := Lib.hid he.ok
    have ie := Lib.hid uIle
    have il := Lib.hid uIlrel
    have i24 := Lib.hid uItyp
    have i27 := Lib.hid uIval
    have i5 := Lib.hid uI31
    have hD := hm0.drew.1.b4
    have Hmd' := Lib.hid hm0.drew.1
    clear Hmd hm0 hpre hv1 hdn he hc1 hn hd2 hcn hst h1 h2 ok1 ok2 ok3 ok4 ok5 ok6 ok7 ok8 ok9 ok10 Hx Hcol Hki Hkd Hcl Hall hb3 hb4 hb5 hce
    go_upto_region 6 with (fail)
    refine wp_region_split 7 (fun w' => Bk w' (W.heap.size + 1) [.int .i64 a.k, .int .i64 a.op, .int .i64 a.up, .int .i64 a.pos, .int .i64 a.tk, .int .i64 a.tsc, .slice F fz.length fc, .int .i64 a.vk, .int .i64 a.vn, .int .i64 a.vsc, .string a.s, .slice V vz.length vc, .slice A az.length ac, .slice B sz.length sc] 31) (by kernel_rfl) (by kernel_rfl) ?_
    simp only [List.take_succ_cons, List.take_zero, List.drop_succ_cons, List.drop_zero]
    refine take_op (i := 0) (v := .pointer (some ⟨W.heap.size + 1, 4, none⟩)) rfl rfl (by kernel_rfl) (by kernel_rfl) (by kernel_rfl) (fun _ _ _ h => h) (yields_of rfl fun w' _ => by go_simp) hD ?_
    simp only [List.setIfInBounds_toArray, List.set_cons_zero, List.set_cons_succ]
    refine take_op (i := 1) (v := .agg #[.int .i64 a.tk, .int .i64 a.tsc, .slice F fz.length fc]) rfl rfl (by kernel_rfl) (by kernel_rfl) (by kernel_rfl) (fun _ _ _ h => h) (yields_load_part rfl 24 _ rfl _ Tryz.underlying24 rfl _ _ _ _ [.int .i64 a.tk, .int .i64 a.tsc, .slice F fz.length fc] rfl (fun _ h => h) i24.out rfl) hD ?_
    simp only [List.setIfInBounds_toArray, List.set_cons_zero, List.set_cons_succ]
    refine take_op (i := 3) (v := .pointer (some ⟨W.heap.size + 1, 7, none⟩)) rfl rfl (by kernel_rfl) (by kernel_rfl) (by kernel_rfl) (fun _ _ _ h => h) (yields_of rfl fun w' _ => by go_simp) hD ?_
    simp only [List.setIfInBounds_toArray, List.set_cons_zero, List.set_cons_succ]
    refine take_op (i := 4) (v := .agg #[.int .i64 a.vk, .int .i64 a.vn, .int .i64 a.vsc, .string a.s, .slice V vz.length vc]) rfl rfl (by kernel_rfl) (by kernel_rfl) (by kernel_rfl) (fun _ _ _ h => h) (yields_load_part rfl 27 _ rfl _ Tryz.underlying27 rfl _ _ _ _ [.int .i64 a.vk, .int .i64 a.vn, .int .i64 a.vsc, .string a.s, .slice V vz.length vc] rfl (fun _ h => h) i27.out rfl) hD ?_
    simp only [List.setIfInBounds_toArray, List.set_cons_zero, List.set_cons_succ]
    refine call_op (i := 2) (by kernel_rfl) rfl rfl rfl 58 #[.agg #[.int .i64 a.tk, .int .i64 a.tsc, .slice F fz.length fc]] (by go_simp) ((q1.out _ _ _ Hmd'.out).mono ?_)
    rintro e w5 ⟨A1, cap1, y1, rfl, m1, t1, r1, le1, le1'⟩
    refine ⟨_, rfl, m1.b4, ?_⟩
    simp only [List.setIfInBounds_toArray, List.set_cons_zero, List.set_cons_succ]
    refine take_op (i := 6) (v := .pointer (some ⟨W.heap.size + 1, 4, none⟩)) rfl rfl (by kernel_rfl) (by kernel_rfl) (by kernel_rfl) (fun _ _ _ h => h) (yields_of rfl fun w' _ => by go_simp) m1.b4 ?_
    simp only [List.setIfInBounds_toArray, List.set_cons_zero, List.set_cons_succ]
    refine call_op (i := 5) (by kernel_rfl) rfl rfl rfl 59 #[.agg #[.int .i64 a.vk, .int .i64 a.vn, .int .i64 a.vsc, .string a.s, .slice V vz.length vc]] (by go_simp) ((q2.out _ _ _ m1).mono ?_)
    rintro e w6 ⟨A2, cap2, y2, rfl, m2, t2, r2, le2, le2'⟩
    refine ⟨_, rfl, m2.b4, ?_⟩
    simp only [List.setIfInBounds_toArray, List.set_cons_zero, List.set_cons_succ]
    refine done_op (by kernel_rfl) ?_
    have Hm2 := Lib.hid m2
    have R1 := Lib.hid (t2 _ _ _ _ _ r1)
    have R2 := Lib.hid r2
    have L1 := Lib.hid (And.intro le1 le1')
    have L2 := Lib.hid (And.intro le2 le2')
    clear m1 t1 r1 m2 t2 r2 hD Hmd' q1 q2 le1 le1' le2 le2' Hm0
    go_wp2_with (first
      | (refine wpList_store_blk rfl 24 _ _ rfl _ 4 _ _ [.int .i64 a.tk, .int .i64 a.tsc, .slice A1 fz.length cap1] rfl rfl Hm2.out.b4 i24.out (by simp) rfl ?_; intro w7 hw7; obtain ⟨mm, tt⟩ := Hm2.out.set hB hw7; have Hm3 := Lib.hid mm; have R1' := Lib.hid (tt _ _ _ _ _ R1.out); have R2' := Lib.hid (tt _ _ _ _ _ R2.out); clear mm tt hw7 R1 R2)
      | (refine wpList_store_blk rfl 27 _ _ rfl _ 7 _ _ [.int .i64 a.vk, .int .i64 a.vn, .int .i64 a.vsc, .string a.s, .slice A2 vz.length cap2] rfl rfl Hm3.out.b4 i27.out (by simp [setL]) rfl ?_; intro w8 hw8; obtain ⟨mm, tt⟩ := Hm3.out.set hB hw8; have Hm4 := Lib.hid mm; have R1 := Lib.hid (tt _ _ _ _ _ R1'.out); have R2 := Lib.hid (tt _ _ _ _ _ R2'.out); clear mm tt hw8 R1' R2')
      | (refine wpList_load_one rfl 28 _ rfl _ Tryz.underlying28 rfl _ 12 _ _ _ rfl Hm4.out.b4 rfl ?_)
      | (go_at_call 20; refine (q3.out _ _ _ Hm4.out (by have := Hcn.out; have := Hv1.out.2; omega)).mono ?_; rintro e wa ⟨A3, y3, s3, rfl, mm, tt, vv, rr⟩; have Hm5 := Lib.hid mm; have R1' := Lib.hid (tt _ _ _ _ _ R1.out); have R2' := Lib.hid (tt _ _ _ _ _ R2.out); have R3 := Lib.hid rr; have V3 := Lib.hid vv; clear mm tt vv rr R1 R2)
      | (refine wpList_store_blk rfl 28 _ _ rfl _ 12 _ _ [.slice A3 az.length az.length] rfl rfl Hm5.out.b4 ie.out (by simp [setL]) rfl ?_; intro w9 hw9; obtain ⟨mm, tt⟩ := Hm5.out.set hB hw9; have Hm6 := Lib.hid mm; have R1 := Lib.hid (tt _ _ _ _ _ R1'.out); have R2 := Lib.hid (tt _ _ _ _ _ R2'.out); have R3' := Lib.hid (tt _ _ _ _ _ R3.out); clear mm tt hw9 R1' R2' R3)
      | (refine wpList_load_one rfl 29 _ rfl _ Tryz.underlying29 rfl _ 13 _ _ _ rfl Hm6.out.b4 rfl ?_)
      | (go_at_call 61; refine (q4.out _ _ _ Hm6.out (by have := Hcn.out; have := Hv1.out.2; have := V3.out.2; omega)).mono ?_; rintro e wb ⟨A4, y4, s4, rfl, mm, tt, vv, rr⟩; have Hm7 := Lib.hid mm; have R1' := Lib.hid (tt _ _ _ _ _ R1.out); have R2' := Lib.hid (tt _ _ _ _ _ R2.out); have R3 := Lib.hid (tt _ _ _ _ _ R3'.out); have R4 := Lib.hid rr; have V4 := Lib.hid vv; clear mm tt vv rr R1 R2 R3')
      | (refine wpList_store_blk rfl 29 _ _ rfl _ 13 _ _ [.slice A4 sz.length sz.length] rfl rfl Hm7.out.b4 il.out (by simp [setL]) rfl ?_; intro wd hwd; obtain ⟨mm, tt⟩ := Hm7.out.set hB hwd; have Hm8 := Lib.hid mm; have R1 := Lib.hid (tt _ _ _ _ _ R1'.out); have R2 := Lib.hid (tt _ _ _ _ _ R2'.out); have R3' := Lib.hid (tt _ _ _ _ _ R3.out); have R4' := Lib.hid (tt _ _ _ _ _ R4.out); clear mm tt hwd R1' R2' R3 R4)
      | (refine wpList_load_part rfl 31 _ rfl _ Tryz.underlying31 rfl _ _ _ _ [.int .i64 a.k, .int .i64 a.op, .int .i64 a.up, .int .i64 a.pos, .int .i64 a.tk, .int .i64 a.tsc, .slice A1 fz.length cap1, .int .i64 a.vk, .int .i64 a.vn, .int .i64 a.vsc, .string a.s, .slice A2 vz.length cap2, .slice A3 az.length az.length, .slice A4 sz.length sz.length] rfl Hm8.out.b4 i5.out rfl ?_)
      | (refine wpList_store_blk rfl 31 _ _ rfl _ _ _ _ [.int .i64 a.k, .int .i64 a.op, .int .i64 a.up, .int .i64 a.pos, .int .i64 a.tk, .int .i64 a.tsc, .slice A1 fz.length cap1, .int .i64 a.vk, .int .i64 a.vn, .int .i64 a.vsc, .string a.s, .slice A2 vz.length cap2, .slice A3 az.length az.length, .slice A4 sz.length sz.length] rfl rfl Hm8.out.b6 i5.out (by simp [zEx]) rfl ?_; intro wz hwz))
    refine bodyPost_blk rfl (W.heap.size + 3) [.int .i64 a.k, .int .i64 a.op, .int .i64 a.up, .int .i64 a.pos, .int .i64 a.tk, .int .i64 a.tsc, .slice A1 fz.length cap1, .int .i64 a.vk, .int .i64 a.vn, .int .i64 a.vsc, .string a.s, .slice A2 vz.length cap2, .slice A3 az.length az.length, .slice A4 sz.length sz.length] _ rfl _ hwz.bk Tryz.underlying31 rfl i5.out rfl ?_
    obtain ⟨hf, tl⟩ := Hm8.out.ret hB hwz
    have p1 := tl _ _ _ _ _ R1.out
    have p2 := tl _ _ _ _ _ R2.out
    have p3 := tl _ _ _ _ _ R3'.out
    have p4 := tl _ _ _ _ _ R4'.out
    have l1 := L1.out
    have l2 := L2.out
    refine ⟨.node [.int .i64 a.k, .int .i64 a.op, .int .i64 a.up, .int .i64 a.pos, .int .i64 a.tk, .int .i64 a.tsc, .slice A1 fz.length cap1, .int .i64 a.vk, .int .i64 a.vn, .int .i64 a.vsc, .string a.s, .slice A2 vz.length cap2, .slice A3 az.length az.length, .slice A4 sz.length sz.length] [y1, y2, y3, y4], s4, rfl, hf, ((Hv1.out.tr V3.out).tr V4.out).to (by rw [DT.n_node]; simp; omega) fun v => ?_, UIn.mkK rfl rfl ⟨a, _, _, _, _, rfl, Hok.out⟩ ⟨p1.krc (by omega) l1.1 l1.2 rfl, p2.krc (by omega) l2.1 l2.2 rfl, p3.kr (by omega) rfl, p4.kr (by omega) rfl, trivial⟩, Mp.mkK Hpre.out rfl (fun j hj => by match j with | 0 => rfl | 1 => rfl | 2 => rfl | 3 => rfl | 4 => rfl | 5 => rfl | 6 => exact absurd (by simp [Uy.sl]) (hj .field) | 7 => rfl | 8 => rfl | 9 => rfl | 10 => rfl | 11 => exact absurd (by simp [Uy.sl]) (hj .value) | 12 => exact absurd (by simp [Uy.sl]) (hj .expr) | 13 => exact absurd (by simp [Uy.sl]) (hj .rel) | j + 14 => rfl) ⟨ML.of_usl rfl p1.usl, ML.of_usl rfl p2.usl, p3.ml, p4.ml, trivial⟩⟩
    rw [Vs.ex]
    constructor
    · rintro ((h | h) | h)
      · exact .inl h
      · exact .inr ⟨Hdn.out, .inl h⟩
      · exact .inr ⟨Hdn.out, .inr h⟩
    · rintro (h | ⟨_, h | h⟩)
      · exact .inl (.inl h)
      · exact .inl (.inr h)
      · exact .inr h
end Go.Proofs.YthijagpnpcpcbaaGreat

