/-
  plan.same: the mapper that changes nothing.
  plan.mapper.rel: its boxes; what it comes to.
-/
import Derived.Test.YthijagpnpcpcbaaGreatQGtPb
import Derived.Test.YthijagpnpcpcbaaGreatQGtQc
import Derived.Laws.ResultCell
namespace Go.Proofs.YthijagpnpcpcbaaGreat
open Go.RowKit Go.Sort
section
variable {P : Program}
/-- A struct that was made is handed back, with a second result. -/
theorem bodyPost_blk2 {fn : Func} {R : Ending → World → Prop} {a : Act} {w : World} {p u : Tmp} {ty : TypeId} (h : fn.results = #[.cell p ty, .tmp u]) (b : Nat) (cs : List Value) (d : TypeDesc) (v : Value) (hp : a.tmps.getD p undef = .pointer (some ⟨b, 0, none⟩)) (hv : a.tmps.getD u undef = v) (t : TypeId) (hb : Bk w b cs t)
    (hu : P.underlying ty = some d) (hd : d.isRow = true) (hi : (P.info? ty).map (·.size) = some cs.length) (hdf : a.defers = []) (hR : R (.returned (.tuple #[.agg cs.toArray, v])) w) : bodyPost P fn R .ret a w :=
  bodyPost_ret (by
    have hp' : a.tmps[p]?.getD undef = .pointer (some ⟨b, 0, none⟩) := by simpa using hp
    have hl := run_loadVar_row (P := P) w b t ty cs.toArray (0, 0) d hb hu (by cases d <;> simp_all [TypeDesc.isRow]) (by simpa using hi)
    rw [results_cell_tmp h a.tmps P w, hp]
    simp [asAddr, hl, Result.andThen, hv]) hdf hR
end
/-- No state, a source below B. -/
def CB (B : Nat) : Cl Unit where
  St := fun _ W => B ≤ W.heap.size
  O := fun _ _ => False
  lt := fun _ _ _ _ h => h.elim
  B := B
  sh := fun _ => False
  shB := fun _ h => h.elim
  ob := fun _ _ h => h.elim
  base := fun _ _ h => h
  keep := fun _ _ _ h _ hz => Nat.le_trans h hz
theorem Fr.toB {B : Nat} {s s' : Unit} {w w' : World} (h : Fr (CB B) s w s' w') : Below w.heap.size w w' := ⟨h.os, h.tape, h.output, h.size, fun k hk => h.block k hk fun e => e⟩
set_option maxRecDepth 100000 in
set_option maxHeartbeats 2000000 in
theorem same1_any (B : Nat) (s : Unit) (W : World) (d : Int) (x : DT) (hst : (CB B).St s W) (hx : UIn (fun k => k < (CB B).B) W .expr x) (hk : kd x.c = 2) : Calls Tryz.prog 64 (#[.agg x.c.toArray, .int .i64 d] ++ #[]) W (ColPost (CB B) (fun _ _ => True) (fun _ => 0) sameCm d x s W) := by
  obtain ⟨w1, hw1⟩ : ∃ w1, W.alloc (.cells x.c.toArray 31) = w1 := ⟨_, rfl⟩
  obtain ⟨w2, hw2⟩ : ∃ w2, w1.alloc (.cells #[.int .i64 0, .int .i64 0, .int .i64 0, .int .i64 0, .int .i64 0, .int .i64 0, .slice none 0 0, .int .i64 0, .int .i64 0, .int .i64 0, .string ⟨#[]⟩, .slice none 0 0, .slice none 0 0, .slice none 0 0] 31) = w2 := ⟨_, rfl⟩
  have hz1 : w1.heap.size = W.heap.size + 1 := by rw [← hw1]; simp
  have hz2 : w2.heap.size = W.heap.size + 2 := by rw [← hw2]; simp [hz1]
  have hb1 : Bk w2 W.heap.size x.c 31 := by rw [← hw2, ← hw1]; exact (Bk.new W x.c _).alloc _
  have hb2 : Bk w2 (W.heap.size + 1) [.int .i64 0, .int .i64 0, .int .i64 0, .int .i64 0, .int .i64 0, .int .i64 0, .slice none 0 0, .int .i64 0, .int .i64 0, .int .i64 0, .string ⟨#[]⟩, .slice none 0 0, .slice none 0 0, .slice none 0 0] 31 := by rw [← hw2, ← hz1]; exact Bk.new w1 [_, _, _, _, _, _, _, _, _, _, _, _, _, _] _
  have hbw : Below W.heap.size W w2 := by rw [← hw2, ← hw1]; exact ((Below.refl _ _).alloc (Nat.le_refl _) _).alloc (by simp) _
  have hlen : x.c.length = 14 := hx.len
  have Hi : Hid ((Tryz.prog.info? 31).map (·.size) = some x.c.length) := by show _ = _; rw [hlen]; exact uClExpr1
  have Hx3 : Hid (x.c.all (·.oneCell') = true) := by have := all_one hx.ones; show _ = _; simpa using this
  have Hx4 := Lib.hid (all_one hx.ones)
  have Hf : Hid (Fr (CB B) s W s w2) := Fr.below hst hbw
  have H1 := Lib.hid hb1
  have H2 := Lib.hid hb2
  have Hx := Lib.hid hx
  have Hl := Lib.hid hlen
  have Hk := Lib.hid hk
  have HB : Hid ((CB B).B ≤ W.heap.size) := hst
  clear hb1 hb2 hbw hx hst hlen hk
  show Calls _ _ #[.agg x.c.toArray, .int .i64 d] _ _
  go_enter Tryz.func64, Tryz.ntmps64
  go_upto_region 1 with (fail)
  go_wp2_with (first | (refine wpList_load_part rfl 31 _ rfl _ Tryz.underlying31 rfl _ _ _ _ x.c rfl H1.out Hi.out (by rw [List.drop_zero, List.take_length]) ?_) | (refine wpList_store_blk rfl 31 _ _ rfl _ _ _ _ x.c rfl rfl H2.out Hi.out (by simp [Hl.out]) Hx3.out ?_; intro w4 hw4))
  rw [setL_all _ _ (by rw [Hl.out]; rfl)] at hw4
  refine bodyPost_blk2 rfl (W.heap.size + 1) x.c _ (.bool false) rfl rfl _ hw4.bk Tryz.underlying31 rfl Hi.out rfl ?_
  have hB := HB.out
  have hf := Hf.out.wrt hw4 (by omega) (fun e => e)
  refine ⟨x, s, rfl, hf, ⟨fun v => ⟨fun _ => .inl trivial, fun _ => trivial⟩, Nat.zero_le _⟩, fun _ => ⟨?_, Hx.out.keep (fun k hk => hf.toB.block k (by omega)) fun _ h => h, Hk.out⟩, fun h => by cases h⟩
  cases x
  rfl
def Msame (B : Nat) : Mpr Unit where
  C := CB B
  mem := fun _ _ => True
  cnt := fun _ => 0
  g := 64
  lb := #[]
  eg := enters_of Tryz.func64 (by kernel_rfl) rfl
  m := sameCm
  col := fun s W d x _ _ hst hx _ hk _ => same1_any B s W d x hst hx hk
set_option maxRecDepth 100000 in
theorem same_any (B : Nat) (w : World) : Calls Tryz.prog 41 #[] w fun e w' => e = .returned (.agg #[(Msame B).v]) ∧ Below w.heap.size w w' := by
  obtain ⟨w1, hw1⟩ : ∃ w1, w.alloc (.cells #[.nilFunc] 73) = w1 := ⟨_, rfl⟩
  have hb : Below w.heap.size w w1 := by rw [← hw1]; exact bel1 w _
  have hk : Hid (Bk w1 w.heap.size [.nilFunc] 73) := by show Bk _ _ _ _; rw [← hw1]; exact Bk.new w [.nilFunc] _
  have Hb := Lib.hid hb
  have i1 := Lib.hid uIm
  clear hb
  show Calls _ _ _ _ fun e w' => e = .returned (.agg [.func (.func 64) #[] #[]].toArray) ∧ _
  go_enter Tryz.func41, Tryz.ntmps41
  go_upto_region 1 with (fail)
  go_wp2_with (refine wpList_store_blk rfl 73 _ _ rfl _ 0 _ _ [.func (.func 64) #[] #[]] rfl rfl hk.out i1.out (by simp) rfl ?_; intro w2 hw2)
  refine bodyPost_blk rfl w.heap.size [.func (.func 64) #[] #[]] _ rfl _ hw2.bk Tryz.underlying73 rfl i1.out rfl ?_
  refine ⟨rfl, ?_⟩
  have hb := Hb.out
  exact ⟨hw2.os.trans hb.os, hw2.tape.trans hb.tape, hw2.output.trans hb.output, by rw [hw2.size]; exact hb.size, fun k hk => (hw2.block k (by omega)).trans (hb.block k hk)⟩
end Go.Proofs.YthijagpnpcpcbaaGreat
namespace Go.Proofs.YthijagpnpcpcbaaGreat
open Go.RowKit Go.Sort
theorem ReU.keep {S0 S1 : Nat → Prop} {w w' : World} {d : DT} {k op : Int} {nm : ByteArray} {all : Bool} {off cnt : Int} {T : Option Addr} {tc : Nat} {tz : List DT} {R : Option Addr} {rc : Nat} {rz : List DT} {I : Option Addr} {ic : Nat} {iz : List DT} {X : Option Addr} {xc : Nat} {xz : List DT} {S : Option Addr} {sc : Nat} {sz : List DT} {G : Option Addr} {gc : Nat} {gz : List DT} {WN : Option Addr} {wc : Nat} {wz : List DT} {K : Option Addr} {kc : Nat} {kz : List DT}
    (h : ReU S0 w d k op nm all off cnt T tc tz R rc rz I ic iz X xc xz S sc sz G gc gz WN wc wz K kc kz) (hs : ∀ k, S0 k → w'.heap[k]? = w.heap[k]?) (hS : ∀ k, S0 k → S1 k) : ReU S1 w' d k op nm all off cnt T tc tz R rc rz I ic iz X xc xz S sc sz G gc gz WN wc wz K kc kz :=
  ⟨h.e, h.ok, h.rt.keep hs hS, fun x hx => (h.it x hx).keep hs hS, h.rr.keep hs hS, fun x hx => (h.ir x hx).keep hs hS, h.ri.keep hs hS, fun x hx => (h.ii x hx).keep hs hS, h.rx.keep hs hS, fun x hx => (h.ix x hx).keep hs hS, h.rs.keep hs hS, fun x hx => (h.is x hx).keep hs hS, h.rg.keep hs hS, fun x hx => (h.ig x hx).keep hs hS, h.rw.keep hs hS, fun x hx => (h.iw x hx).keep hs hS, h.rk.keep hs hS, fun x hx => (h.ik x hx).keep hs hS⟩
/-- The boxes of mapper.rel: the mapper, the relation, the result. -/
structure Mr {σ : Type} (M : Mpr σ) (cs zs : List Value) (s0 : σ) (W : World) (s : σ) (w : World) : Prop where
  fr : Fr M.C s0 W s w
  sz : W.heap.size + 3 ≤ w.heap.size
  no : ∀ b, W.heap.size ≤ b → b < W.heap.size + 3 → ¬ M.C.O s b
  b3 : Bk w W.heap.size [M.v] 73
  b4 : Bk w (W.heap.size + 1) cs 59
  b6 : Bk w (W.heap.size + 2) zs 59
theorem Mr.call {σ : Type} {M : Mpr σ} {cs zs : List Value} {s0 s s' : σ} {W w w' : World} (h : Mr M cs zs s0 W s w) (hf : Fr M.C s w s' w') : Mr M cs zs s0 W s' w' ∧ Tr M (W.heap.size + 3) s w s' w' := by
  have hz := h.sz
  have hz2 := hf.size
  refine ⟨⟨h.fr.trans hf, by omega, fun b h1 h2 e => ?_, h.b3.fr hf (h.no _ (by omega) (by omega)), h.b4.fr hf (h.no _ (by omega) (by omega)), h.b6.fr hf (h.no _ (by omega) (by omega))⟩, fun _ _ _ _ _ x => x.fr hf⟩
  rcases hf.own b e with e | e
  · exact h.no b h1 h2 e
  · omega
theorem Mr.set {σ : Type} {M : Mpr σ} {cs cs' zs : List Value} {s0 s : σ} {W w w' : World} (hB : M.C.B ≤ W.heap.size) (h : Mr M cs zs s0 W s w) (hw : Wrt w (W.heap.size + 1) cs' 59 w') : Mr M cs' zs s0 W s w' ∧ Tr M (W.heap.size + 3) s w s w' :=
  ⟨⟨h.fr.wrt hw (by omega) (h.no _ (by omega) (by omega)), by rw [hw.size]; exact h.sz, h.no, h.b3.wrt hw (by omega), hw.bk, h.b6.wrt hw (by omega)⟩, fun _ _ _ _ _ x => x.wrt hw (by omega) (by omega)⟩
theorem Mr.ret {σ : Type} {M : Mpr σ} {cs zs zs' : List Value} {s0 s : σ} {W w w' : World} (hB : M.C.B ≤ W.heap.size) (h : Mr M cs zs s0 W s w) (hw : Wrt w (W.heap.size + 2) zs' 59 w') : Fr M.C s0 W s w' ∧ Tr M (W.heap.size + 3) s w s w' :=
  ⟨h.fr.wrt hw (by omega) (h.no _ (by omega) (by omega)), fun _ _ _ _ _ x => x.wrt hw (by omega) (by omega)⟩
theorem Mr.new {σ : Type} {M : Mpr σ} {cs zs : List Value} {s0 : σ} {W w1 w2 w3 : World} (hst : M.C.St s0 W) (e1 : W.alloc (.cells #[M.v] 73) = w1) (e2 : w1.alloc (.cells cs.toArray 59) = w2) (e3 : w2.alloc (.cells zs.toArray 59) = w3) : Mr M cs zs s0 W s0 w3 := by
  have hz1 : w1.heap.size = W.heap.size + 1 := by rw [← e1]; simp
  have hz2 : w2.heap.size = W.heap.size + 2 := by rw [← e2]; simp [hz1]
  have hz3 : w3.heap.size = W.heap.size + 3 := by rw [← e3]; simp [hz2]
  refine ⟨Fr.below hst ?_, by omega, fun b h1 h2 e => by have := M.C.lt s0 W hst b e; omega, ?_, ?_, ?_⟩
  · rw [← e3, ← e2, ← e1]; exact (((Below.refl _ _).alloc (Nat.le_refl _) _).alloc (by simp) _).alloc (by simp; omega) _
  · rw [← e3, ← e2, ← e1]; exact ((Bk.new W [M.v] _).alloc _).alloc _
  · rw [← e3, ← e2, ← hz1]; exact (Bk.new w1 cs _).alloc _
  · rw [← e3, ← hz2]; exact Bk.new w2 zs _
theorem Fr.toBelow {W w w' : World} {b : Nat} {cs : List Value} {t : TypeId} (h : Below W.heap.size W w) (hw : Wrt w b cs t w') (hb : W.heap.size ≤ b) : Below W.heap.size W w' :=
  ⟨hw.os.trans h.os, hw.tape.trans h.tape, hw.output.trans h.output, by rw [hw.size]; exact h.size, fun k hk => (hw.block k (by omega)).trans (h.block k hk)⟩
theorem Mr.same {σ : Type} {M : Mpr σ} {cs zs : List Value} {_s0 : σ} {W w1 w2 w3 w4 w5 : World} (hB : M.C.B ≤ W.heap.size) (e1 : W.alloc (.cells #[M.v] 73) = w1) (e2 : w1.alloc (.cells cs.toArray 59) = w2) (e3 : w2.alloc (.cells zs.toArray 59) = w3)
    (h4 : Below w3.heap.size w3 w4) (h5 : Wrt w4 W.heap.size [(Msame M.C.B).v] 73 w5) : Mr (Msame M.C.B) cs zs () W () w5 := by
  have hz1 : w1.heap.size = W.heap.size + 1 := by rw [← e1]; simp
  have hz2 : w2.heap.size = W.heap.size + 2 := by rw [← e2]; simp [hz1]
  have hz3 : w3.heap.size = W.heap.size + 3 := by rw [← e3]; simp [hz2]
  have hz4 := h4.size
  have hb3 : Below W.heap.size W w3 := by rw [← e3, ← e2, ← e1]; exact (((Below.refl _ _).alloc (Nat.le_refl _) _).alloc (by simp) _).alloc (by simp; omega) _
  have hb4 : Below W.heap.size W w4 := ⟨h4.os.trans hb3.os, h4.tape.trans hb3.tape, h4.output.trans hb3.output, by have := hb3.size; omega, fun k hk => (h4.block k (by omega)).trans (hb3.block k hk)⟩
  have hb5 : Below W.heap.size W w5 := Fr.toBelow hb4 h5 (Nat.le_refl _)
  have c4 : Bk w3 (W.heap.size + 1) cs 59 := by rw [← e3, ← e2, ← hz1]; exact (Bk.new w1 cs _).alloc _
  have c6 : Bk w3 (W.heap.size + 2) zs 59 := by rw [← e3, ← hz2]; exact Bk.new w2 zs _
  refine ⟨⟨hb5.os, hb5.tape, hb5.output, hb5.size, fun k hk _ => hb5.block k hk, fun _ h => h.elim, ?_⟩, by rw [h5.size]; omega, fun b h1 h2 e => e, h5.bk, ?_, ?_⟩
  · show M.C.B ≤ w5.heap.size
    have := hb5.size
    omega
  · exact (h5.block _ (by omega)).trans ((h4.block _ (by omega)).trans c4)
  · exact (h5.block _ (by omega)).trans ((h4.block _ (by omega)).trans c6)
theorem LsI.lr {σ : Type} {C : Cl σ} {Sq : Nat → σ → Prop} {Rel : DT → DT → Prop} {t : Uy} {T : TypeId} {l : List DT} {s0 s : σ} {w wr : World} {ys : List DT} {A : Option Addr} {cap n : Nat} (h : LsI C Sq Rel t T l s0 w n ys s (.slice A n cap) wr) (hl : l.length = n) : LR C w.heap.size s wr t Rel l A ys := by
  have hne := h.ne
  obtain ⟨A', cap', e, hrow, _⟩ := own_structs h.own h.len (fun x hx => (h.ins x hx).len)
  cases e
  have hk := hrow.keep (S' := Nw C w.heap.size s wr) (w' := wr) (fun _ _ => rfl) (fun k hk => ⟨.inr hk.2.1, hk.2.2, fun e => hne k hk.1 e⟩)
  refine ⟨by rw [h.len, hl], h.rel, ⟨by rw [h.len, hl]; exact Nat.le_refl _, ?_, hk.2.2⟩, fun y hy => (h.ins y hy).keep (fun _ _ => rfl) (fun k hk => hk.1)⟩
  have h1 := hk.1
  have h2 := hk.2.1
  rw [h.len] at h1
  omega
/-- What has been visited in the inputs. -/
def ISq {σ : Type} (M : Mpr σ) (c : List Value) (d : Int) (iz : List DT) (s1 : σ) (j : Nat) (s2 : σ) : Prop := M.vst s1 s2 (nL (iz.take j)) fun v => ∃ (i : Nat) (x : DT), i < j ∧ iz[i]? = some x ∧ Vs M.m .rel (dep .rel c 2 i d) x v
theorem ISq.start {σ : Type} {M : Mpr σ} {c : List Value} {d : Int} {iz : List DT} {s1 : σ} : ISq M c d iz s1 0 s1 := Mpr.vst.no fun v h => by obtain ⟨_, _, h, _⟩ := h; omega
theorem ISq.step {σ : Type} {M : Mpr σ} {c : List Value} {d : Int} {iz : List DT} {s1 s2 s3 : σ} {j : Nat} {x : DT} (h : ISq M c d iz s1 j s2) (hx : iz[j]? = some x) (h3 : M.vst s2 s3 x.n (Vs M.m .rel (dep .rel c 2 j d) x)) : ISq M c d iz s1 (j + 1) s3 := by
  refine (Mpr.vst.tr h h3).to (Nat.le_of_eq (nL_take_succ hx).symm) fun v => ?_
  constructor
  · rintro (⟨i, x', hi, hx', hv⟩ | hv)
    · exact ⟨i, x', by omega, hx', hv⟩
    · exact ⟨j, x, by omega, hx, hv⟩
  · rintro ⟨i, x', hi, hx', hv⟩
    by_cases hij : i = j
    · subst hij
      rw [hx] at hx'
      cases hx'
      exact .inr hv
    · exact .inl ⟨i, x', by omega, hx', hv⟩
theorem ISq.fin {σ : Type} {M : Mpr σ} {c : List Value} {d : Int} {iz : List DT} {s1 s2 : σ} {n : Nat} (h : ISq M c d iz s1 n s2) (hn : iz.length = n) : M.vst s1 s2 (nL iz) (VI M.m c d iz) := by
  refine Mpr.vst.to h (by rw [← hn, List.take_length]; exact Nat.le_refl _) fun v => ?_
  constructor
  · rintro ⟨i, x, _, hx, hv⟩
    exact ⟨i, x, hx, hv⟩
  · rintro ⟨i, x, hx, hv⟩
    exact ⟨i, x, by rw [← hn]; exact (List.getElem?_eq_some_iff.1 hx).1, hx, hv⟩
/-- What the inputs have become. -/
def IRi (m : Cm) (c : List Value) (d : Int) (iz ys : List DT) : Prop := ∀ (i : Nat) x y, iz[i]? = some x → ys[i]? = some y → Mp m .rel (dep .rel c 2 i d) x y
theorem IRi.step {m : Cm} {c : List Value} {d : Int} {iz ys : List DT} {x y : DT} {j : Nat} (h : IRi m c d iz ys) (hl : ys.length = j) (hx : iz[j]? = some x) (hr : Mp m .rel (dep .rel c 2 j d) x y) : IRi m c d iz (ys ++ [y]) := fun i a b ha hb => by
  by_cases hi : i < ys.length
  · exact h i a b ha (by rw [List.getElem?_append_left hi] at hb; exact hb)
  · rw [List.getElem?_append_right (by omega)] at hb
    have e0 : i - ys.length = 0 := by
      have := (List.getElem?_eq_some_iff.1 hb).1
      simp at this
      omega
    rw [e0] at hb
    simp at hb
    subst hb
    obtain rfl : i = j := by omega
    rw [hx] at ha
    cases ha
    exact hr
/-- What mapper.rel comes to, list by list. -/
def RPost {σ : Type} (M : Mpr σ) (d : Int) (c : List Value) (tz rz iz xz sz gz wz kz : List DT) (s : σ) (W : World) (e : Ending) (w' : World) : Prop :=
  ∃ (c' : List Value) (k' : List (List DT)) (s' : σ), e = .returned (.agg c'.toArray) ∧ Fr M.C s W s' w' ∧ M.vst s s' (nL iz + (nL xz + nL gz + nL wz + nL kz)) (fun v => VI M.m c d iz v ∨ VL M.m .expr d xz v ∨ VL M.m .agg d gz v ∨ VL M.m .win d wz v ∨ VL M.m .key d kz v) ∧ UIn (Nw M.C W.heap.size s' w') w' .rel (.node c' k') ∧
    c.length = c'.length ∧ (∀ j, (∀ s, (j, s) ∉ Uy.rel.sl) → c[j]? = c'[j]?) ∧ KS (fun i s a b => ML M.m s (fun q => dep .rel c i q d) a b) 0 Uy.rel.sl [tz, rz, iz, xz, sz, gz, wz, kz] k'
theorem RPost.own {σ : Type} {M : Mpr σ} {d : Int} {c : List Value} {tz rz iz xz sz gz wz kz : List DT} {s : σ} {W : World} {e : Ending} {w' : World} (h13 : kd c ≠ 13) (h : RPost M d c tz rz iz xz sz gz wz kz s W e w') : MPost M .rel d (.node c [tz, rz, iz, xz, sz, gz, wz, kz]) s W e w' := by
  obtain ⟨c', k', s', rfl, hf, hv, hu, hl, he, hk⟩ := h
  exact ⟨.node c' k', s', rfl, hf, hv.to (by rw [DT.n_node]; simp; omega) fun v => (Vs.re h13).symm, hu, Mp.mkK (c1 := c) ⟨h13, rfl⟩ hl he hk⟩
theorem KS.same {m : Uy → Nat → Nat → Int} : ∀ {b : Nat} {sl : List (Nat × Uy)} {k k' : List (List DT)} (_ : KS (fun i s a b => ML sameCm s (fun q => m s i q) a b) b sl k k'), KS (fun _ s m m' => USL s m m') b sl k k'
  | _, [], [], [], _ => trivial
  | _, _p :: _sl, _a :: _k, _a' :: _k', h => ⟨⟨h.1.1, fun q x y hx hy => (h.1.2 q x y hx hy).same⟩, KS.same (m := m) h.2⟩
  | _, [], [], _ :: _, h => h.elim
  | _, [], _ :: _, [], h => h.elim
  | _, [], _ :: _, _ :: _, h => h.elim
  | _, _ :: _, [], [], h => h.elim
  | _, _ :: _, [], _ :: _, h => h.elim
  | _, _ :: _, _ :: _, [], h => h.elim
theorem RPost.same {σ : Type} {M : Mpr σ} {d : Int} {c : List Value} {tz rz iz xz sz gz wz kz : List DT} {s : σ} {W : World} {e : Ending} {w' : World} (h13 : kd c = 13) (hst : M.C.St s W) (h : RPost (Msame M.C.B) d c tz rz iz xz sz gz wz kz () W e w') : MPost M .rel d (.node c [tz, rz, iz, xz, sz, gz, wz, kz]) s W e w' := by
  obtain ⟨c', k', s', rfl, hf, hv, hu, hl, he, hk⟩ := h
  refine ⟨.node c' k', s, rfl, Fr.below hst (Fr.toB hf), Mpr.vst.no fun v h => Vs.no13 h13 h, hu.keep (fun _ _ => rfl) fun k hk => ?_, .recu d _ _ h13 (USm.mkK hl he (KS.same (m := fun _ i q => dep .rel c i q d) hk))⟩
  obtain ⟨h1, h2, _⟩ := hk
  refine ⟨h1.elim (fun h => h.elim) .inr, h2, fun e => ?_⟩
  have := M.C.ob s k e
  have := M.C.lt s W hst k e
  rcases h1 with h1 | h1
  · exact h1.elim
  · omega
/-- What stands where the inputs are gone through. -/
def RelCut {σ : Type} (M : Mpr σ) (d : Int) (c zs : List Value) (tz rz iz xz sz gz wz kz : List DT) (s : σ) (W : World) (w : World) : Prop :=
  ∃ (σ' : Type) (M' : Mpr σ') (s1 : σ'), M'.C.B = M.C.B ∧ M'.C.St s1 W ∧ M'.cnt s1 + (DT.node c [tz, rz, iz, xz, sz, gz, wz, kz]).n ≤ 1048576 ∧ Mr M' c zs s1 W s1 w ∧ ∀ e w', RPost M' d c tz rz iz xz sz gz wz kz s1 W e w' → MPost M .rel d (.node c [tz, rz, iz, xz, sz, gz, wz, kz]) s W e w'
end Go.Proofs.YthijagpnpcpcbaaGreat

