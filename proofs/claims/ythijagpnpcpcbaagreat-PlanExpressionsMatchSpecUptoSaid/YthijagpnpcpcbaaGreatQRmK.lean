/-
  A region that draws its order and makes memory in two places: its steps one by one.
  The reference's mode.column: substitutions.
-/
import Derived.Test.YthijagpnpcpcbaaGreatQStQ
import Derived.Test.YthijagpnpcpcbaaGreatQRmJ
import Derived.Deep.QuietTactic
import Derived.BigQuiet
namespace Go.Proofs.YthijagpnpcpcbaaGreat
open Go.RowKit
section
variable {P : Program} {Q : Exit → Act → World → Prop} {md : Region.Mode} {S : World → Prop}
/-- An operation that yields a value. -/
theorem val_wp {o : Oper} {a : Act} {w w' : World} {v : Value} {t : Tmp} {K : Act → World → Prop} (ht : o.dst = some t) (hop : (execOp a.eval o).run P w = .ok (.value v) w') (h : K { tmps := a.tmps.setIfInBounds t v, defers := a.defers } w') : o.wp P a w K Q := by
  unfold Oper.wp
  rw [hop]
  show K (a.put o.dst v) w'
  rw [ht]
  exact h
/-- A call. -/
theorem call_wp {o : Oper} {a : Act} {w : World} {t : Tmp} {K : Act → World → Prop} (ht : o.dst = some t) (f : FuncId) (args : Array Value) (hop : (execOp a.eval o).run P w = .ok (.enter f args) w)
    (hc : Calls P f args w fun e w' => ∃ v, e = .returned v ∧ K { tmps := a.tmps.setIfInBounds t v, defers := a.defers } w') : o.wp P a w K Q := by
  unfold Oper.wp
  rw [hop, Oper.upon_enter]
  refine hc.mono ?_
  rintro e w' ⟨v, rfl, h⟩
  show K (a.put o.dst v) w'
  rw [ht]
  exact h
/-- A struct is stored into a block. -/
theorem store_wp {o : Oper} {a : Act} {w : World} {K : Act → World → Prop} (hd : o.dst = none) (t : TypeId) (x y : Operand) (ho : o.op = .store t x y)
    (b off : Nat) (bt : TypeId) (cur vs : List Value) (hx : a.eval x = .pointer (some ⟨b, off, none⟩)) (hy : (a.eval y).cells = vs.toArray) (hb : Bk w b cur bt) (hi : (P.info? t).map (·.size) = some vs.length) (hle : off + vs.length ≤ cur.length) (h1 : vs.all (·.oneCell') = true)
    (h : ∀ w', Wrt w b (setL cur off vs) bt w' → K a w') : o.wp P a w K Q := by
  have hr : (Instr.storeAt t (.pointer (some ⟨b, off, none⟩)) (a.eval y)).run P w = .ok () (w.setCells b off vs) := by
    have := run_storeCells_cells (P := P) b off vs 0 w (fun j hj => by rw [hb.cell, List.getElem?_eq_getElem (by omega)]; rfl) (fun j hj => by unfold World.frozen?; rw [show w.heap[b]? = _ from hb]; simp) (fun v hv => List.all_eq_true.1 h1 v hv)
    simp only [Nat.add_zero] at this
    cases hq : P.info? t with
    | none => simp [hq] at hi
    | some i =>
      have hs : i.size = vs.length := by simpa [hq] using hi
      simp [Instr.storeAt, Instr.sureAddr, Sem.run_bind, Result.andThen, storeVar, sizeOf, typeInfo, hq, hy, hs, this]
  have hput : a.put o.dst undef = a := by rw [hd]; rfl
  have hK := h _ (Wrt.setCells vs w b off cur bt hb)
  unfold Oper.wp execOp
  simp only [ho, hx, Sem.run_bind, hr, Result.andThen_ok]
  show K (a.put o.dst undef) _
  rw [hput]
  exact hK
/-- Two operations may come up. -/
theorem two_op {l : List Oper} {i j : Nat} {oi oj : Oper} {fuel : Nat} {listed : Array Bool} {a : Act} {w : World} (hr : Region.ready md l.toArray listed = [i, j]) (hi : l[i]? = some oi) (hj : l[j]? = some oj) (gi : oi.guard = none) (gj : oj.guard = none)
    (h1 : oi.wp P a w (fun a' w' => S w' ∧ wpAnyH P md l.toArray Q S fuel (listed.setIfInBounds i true) a' w') Q) (h2 : oj.wp P a w (fun a' w' => S w' ∧ wpAnyH P md l.toArray Q S fuel (listed.setIfInBounds j true) a' w') Q) : wpAnyH P md l.toArray Q S (fuel + 1) listed a w :=
  wpAnyH_all hr (by simp) fun k hk => by
    simp only [List.mem_cons, List.not_mem_nil, or_false] at hk
    rcases hk with rfl | rfl
    · unfold wpOp
      simp only [List.getElem?_toArray, hi]
      rw [if_pos (by unfold Region.wanted; rw [gi])]
      exact .inl h1
    · unfold wpOp
      simp only [List.getElem?_toArray, hj]
      rw [if_pos (by unfold Region.wanted; rw [gj])]
      exact .inl h2
/-- One operation may come up. -/
theorem one_op {l : List Oper} {i : Nat} {oi : Oper} {fuel : Nat} {listed : Array Bool} {a : Act} {w : World} (hr : Region.ready md l.toArray listed = [i]) (hi : l[i]? = some oi) (gi : oi.guard = none)
    (h1 : oi.wp P a w (fun a' w' => S w' ∧ wpAnyH P md l.toArray Q S fuel (listed.setIfInBounds i true) a' w') Q) : wpAnyH P md l.toArray Q S (fuel + 1) listed a w :=
  wpAnyH_one hr (by rw [List.getElem?_toArray]; exact hi) gi h1
/-- The post of one operation. -/
def EndQ (K : Act → World → Prop) (Q : Exit → Act → World → Prop) : Exit → Act → World → Prop
  | .normal, a, w => K a w
  | e, a, w => Q e a w
/-- One operation may come up: by a law of lists. -/
theorem one_list {l : List Oper} {i : Nat} {oi : Oper} {fuel : Nat} {listed : Array Bool} {a : Act} {w : World} (hr : Region.ready md l.toArray listed = [i]) (hi : l[i]? = some oi) (gi : oi.guard = none)
    (h : wpList P l.toArray (EndQ (fun a' w' => S w' ∧ wpAnyH P md l.toArray Q S fuel (listed.setIfInBounds i true) a' w') Q) [oi] a w) : wpAnyH P md l.toArray Q S (fuel + 1) listed a w :=
  wpAnyH_all hr (by simp) fun k hk => by
    rw [List.mem_singleton] at hk
    subst hk
    have hw : Region.wanted oi (yielded l.toArray a.tmps) = true := by unfold Region.wanted; rw [gi]
    unfold wpOp
    simp only [List.getElem?_toArray, hi]
    rw [if_pos hw]
    unfold wpList at h
    rw [if_pos hw] at h
    rcases h with h | ⟨ha, h⟩
    · refine .inl ?_
      unfold Oper.wp at *
      generalize (execOp a.eval oi).run P w = r at *
      cases r with
      | ok n w' => cases n <;> exact h
      | halt x w' => cases x <;> exact h
    · exact .inr ⟨ha, h⟩
/-- One cell of a block is loaded. -/
theorem exec_load_one {o : Oper} {a : Act} {w : World} (t : TypeId) (x : Operand) (ho : o.op = .load t x) (d : TypeDesc)
    (hu : P.underlying t = some d) (hd : d.isRow = false) (b off : Nat) (bt : TypeId) (cur : List Value) (v : Value) (hx : a.eval x = .pointer (some ⟨b, off, none⟩)) (hb : Bk w b cur bt) (hc : cur[off]? = some v) : (execOp a.eval o).run P w = .ok (.value v) w := by
  have hagg : (isAgg t).run P w = .ok false w := by
    unfold isAgg
    rw [Sem.run_bind, run_underlying hu w]
    cases d <;> simp_all [TypeDesc.isRow]
  have hr : (Instr.loadAt t (.pointer (some ⟨b, off, none⟩))).run P w = .ok v w := by
    simp [Instr.loadAt, Instr.sureAddr, Sem.run_bind, Result.andThen, loadVar, hagg, hb.cell, hc]
  unfold execOp
  simp only [ho, hx, Sem.run_bind, hr, Result.andThen_ok, Sem.run_pure]
end
end Go.Proofs.YthijagpnpcpcbaaGreat
namespace Go.Proofs.YthijagpnpcpcbaaGreat
open Go.RowKit Go.Sort
def sbBadR (wl : List DT) (v : Int × DT) : Prop := upOf v.2.c = v.1 ∧ ¬ (0 ≤ atOf v.2.c ∧ atOf v.2.c < wl.length)
/-- The cells of a mode that substitutes. -/
def sbM (A : Option Addr) (n cap : Nat) (fl : Bool) : List Value := [.int .i64 3, .int .i64 0, .int .i64 0, .slice A n cap, .slice none 0 0, .bool fl]
/-- Its state. -/
def RSb (B mp : Nat) (A : Option Addr) (cap : Nat) (wl : List DT) : Cl ((Int × DT → Prop) × Bool) where
  St := fun s W => (B ≤ W.heap.size ∧ FlagOk (sbBadR wl) s ∧ B ≤ mp ∧ Bk W mp (sbM A wl.length cap s.2) 68) ∧ DRow (fun k => k < B) W 14 A cap wl ∧ ∀ x, x ∈ wl → UIn (fun k => k < B) W .expr x
  O := fun _ k => B ≤ k ∧ k = mp
  lt := fun s W h k hk => by obtain ⟨_, rfl⟩ := hk; exact h.1.2.2.2.lt
  B := B
  ob := fun _ _ h => h.1
  base := fun _ _ h => h.1.1
  keep := fun s W W' h hk hz => ⟨⟨Nat.le_trans h.1.1 hz, h.1.2.1, h.1.2.2.1, (hk mp (.inl ⟨h.1.2.2.1, rfl⟩)).trans h.1.2.2.2⟩, h.2.1.keep (fun k hk' => hk k (.inr hk')) fun _ h => h, fun x hx => (h.2.2 x hx).keep (fun k hk' => hk k (.inr hk')) fun _ h => h⟩
theorem rsb_st {B mp : Nat} {A : Option Addr} {cap : Nat} {wl : List DT} {s s' : (Int × DT → Prop) × Bool} {W W' : World} (h : (RSb B mp A cap wl).St s W) (hz : W.heap.size ≤ W'.heap.size) (hk : ∀ k, k < B → W'.heap[k]? = W.heap[k]?) (hf : FlagOk (sbBadR wl) s') (hb : Bk W' mp (sbM A wl.length cap s'.2) 68) : (RSb B mp A cap wl).St s' W' :=
  ⟨⟨Nat.le_trans h.1.1 hz, hf, h.1.2.2.1, hb⟩, h.2.1.keep hk fun _ h => h, fun x hx => (h.2.2 x hx).keep hk fun _ h => h⟩
theorem lv_zero {up d : Int} (iu : I64 up) (hd : 0 ≤ d) (hd2 : d ≤ 1048576) : wrap64 (up - d) = 0 ↔ up = d := by
  unfold I64 at iu
  unfold wrap64
  omega
/-- What the shift in a substitution has come to. -/
def SbCut (B : Nat) (wl : List DT) (d : Int) (x : DT) (w2 : World) (v : Value) (wx : World) : Prop :=
  ∃ (b : Nat) (y : DT), v = .pointer (some ⟨b, 0, none⟩) ∧ Below w2.heap.size w2 wx ∧ w2.heap.size ≤ b ∧ Bk wx b y.c 31 ∧ UIn (Nw (CBs B) w2.heap.size () wx) wx .expr y ∧ SubR wl d x y
/-- What the call of Shift comes to. -/
def SbCall (B : Nat) (wl : List DT) (d : Int) (x : DT) (w : World) (e : Ending) (w' : World) : Prop :=
  ∃ (y : DT) (f : Int), e = .returned (.tuple #[.agg y.c.toArray, .int .i64 f]) ∧ Below w.heap.size w w' ∧ UIn (Nw (CBs B) w.heap.size () w') w' .expr y ∧ SubR wl d x y
theorem SbCall.mk {B : Nat} {wl : List DT} {d : Int} {x wx : DT} {w w' : World} {e : Ending} (h1 : 0 ≤ atOf x.c) (h2 : wl[(atOf x.c).toNat]? = some wx) (h : ShPost B 0 d wx w e w') : SbCall B wl d x w e w' := by
  obtain ⟨y, f, rfl, hb, hy, hr⟩ := h
  have hlt : atOf x.c < wl.length := by have := (List.getElem?_eq_some_iff.1 h2).1; omega
  refine ⟨y, f, rfl, hb, hy, fun hn => absurd ⟨h1, hlt⟩ hn, fun wx' _ hw' => ?_⟩
  · rw [h2] at hw'
    cases hw'
    rcases hr with ⟨hb, _, rfl⟩ | ⟨hn, _, hm⟩
    · exact ⟨fun _ => rfl, fun h => absurd hb h⟩
    · exact ⟨fun ⟨u, a, b⟩ => absurd b (hn u a), fun _ => hm⟩
theorem call_cut {B : Nat} {wl : List DT} {d : Int} {x y : DT} {w2 wm w5 w6 : World} {b : Nat} (hd : Below w2.heap.size w2 wm) (h5 : Below wm.heap.size wm w5) (h6 : Below w2.heap.size w5 w6) (hb : w2.heap.size ≤ b) (hk : Bk w6 b y.c 31) (hy : UIn (Nw (CBs B) wm.heap.size () w5) w5 .expr y) (hy6 : ∀ k, k < w5.heap.size → k ≠ b → w6.heap[k]? = w5.heap[k]?) (hbn : ∀ k, Nw (CBs B) wm.heap.size () w5 k → k ≠ b) (hr : SubR wl d x y) : SbCut B wl d x w2 (.pointer (some ⟨b, 0, none⟩)) w6 := by
  have z1 := hd.size
  have z2 := h5.size
  have z3 := h6.size
  refine ⟨b, y, rfl, ⟨h6.os.trans (h5.os.trans hd.os), h6.tape.trans (h5.tape.trans hd.tape), h6.output.trans (h5.output.trans hd.output), by omega, fun k hk => (h6.block k (by omega)).trans ((h5.block k (by omega)).trans (hd.block k hk))⟩, by omega, hk, ?_, hr⟩
  exact (hy.keep (fun k hk => hy6 k hk.2.1 (hbn k hk)) fun k hk => ⟨hk.1, by have := hk.2.1; omega, hk.2.2⟩).lower (by omega)
set_option maxRecDepth 100000 in
set_option maxHeartbeats 4000000 in
theorem rcol3_any (B mp : Nat) (A : Option Addr) (cap : Nat) (wl : List DT) (hwn : ∀ x, x ∈ wl → x.n ≤ 1048576) (s : (Int × DT → Prop) × Bool) (W : World) (d : Int) (x : DT) (hd : 0 ≤ d) (hd2 : d ≤ 1048576) (hst : (RSb B mp A cap wl).St s W) (hx : UIn (fun k => k < B) W .expr x) (hk : kd x.c = 2) :
    Calls Tryz.prog 54 #[.pointer (some ⟨mp, 0, none⟩), .agg x.c.toArray, .int .i64 d] W (RColPost (RSb B mp A cap wl) (fun s v => s.1 v) (fun _ => 0) (sbCm wl) d x s W) := by
  obtain ⟨w1, hw1⟩ : ∃ w1, W.alloc (.cells x.c.toArray 31) = w1 := ⟨_, rfl⟩
  obtain ⟨w2, hw2⟩ : ∃ w2, w1.alloc (.cells #[.int .i64 0, .int .i64 0, .int .i64 0, .int .i64 0, .int .i64 0, .int .i64 0, .slice none 0 0, .int .i64 0, .int .i64 0, .int .i64 0, .string ⟨#[]⟩, .slice none 0 0, .slice none 0 0, .slice none 0 0] 31) = w2 := ⟨_, rfl⟩
  have hz1 : w1.heap.size = W.heap.size + 1 := by rw [← hw1]; simp
  have hz2 : w2.heap.size = W.heap.size + 2 := by rw [← hw2]; simp [hz1]
  have hb1 : Bk w2 W.heap.size x.c 31 := by rw [← hw2, ← hw1]; exact (Bk.new W x.c _).alloc _
  have hb2 : Bk w2 (W.heap.size + 1) zEx 31 := by rw [← hw2, ← hz1]; exact Bk.new w1 zEx _
  have hbw : Below W.heap.size W w2 := by rw [← hw2, ← hw1]; exact ((Below.refl _ _).alloc (Nat.le_refl _) _).alloc (by simp) _
  have hst2 := (Fr.below hst hbw).st
  have hlen : x.c.length = 14 := hx.len
  obtain ⟨u0, u2, u3, iu, ia⟩ := hx.upAt
  obtain ⟨sm, fl⟩ := s
  have hm : Bk w2 mp [.int .i64 3, .int .i64 0, .int .i64 0, .slice A wl.length cap, .slice none 0 0, .bool fl] 68 := hst2.1.2.2.2
  have lm : mp < W.heap.size := hst.1.2.2.2.lt
  have Hi : Hid ((Tryz.prog.info? 31).map (·.size) = some x.c.length) := by show _ = _; rw [hlen]; exact uClExpr1
  have Hx3 : Hid (x.c.all (·.oneCell') = true) := by have := all_one hx.ones; show _ = _; simpa using this
  obtain ⟨up, hup⟩ : ∃ up, upOf x.c = up := ⟨_, rfl⟩
  obtain ⟨ap, hap⟩ : ∃ ap, atOf x.c = ap := ⟨_, rfl⟩
  rw [hup] at u2 iu
  rw [hap] at u3 ia
  have hlz := lv_zero iu hd hd2
  obtain ⟨lv, hlv⟩ : ∃ lv, wrap64 (up - d) = lv := ⟨_, rfl⟩
  rw [hlv] at hlz
  have hln : wl.length ≤ maxLen := Nat.le_trans hst.2.1.1 hst.2.1.2.1
  have uBool1 := Lib.hid uBool1
  have Hst := Lib.hid hst
  have Hst2 := Lib.hid hst2
  have H1 := Lib.hid hb1
  have H2 := Lib.hid hb2
  have Hm := Lib.hid hm
  have Hx := Lib.hid hx
  have U2 := Lib.hid u2
  have U3 := Lib.hid u3
  have Hup := Lib.hid hup
  have Hap := Lib.hid hap
  have Hl := Lib.hid hlen
  have Hk := Lib.hid hk
  have Hbw := Lib.hid hbw
  have Hln := Lib.hid hln
  have Hwn := Lib.hid hwn
  have Hlz := Lib.hid hlz
  have Hlv := Lib.hid hlv
  have Hhd := Lib.hid (And.intro hd hd2)
  have hBW : B ≤ W.heap.size := hst.1.1
  have hno : Hid (∀ k, W.heap.size ≤ k → ∀ s', ¬ (RSb B mp A cap wl).O s' k) := fun k hk s' e => by have := e.2; omega
  clear hb1 hb2 hbw hst2 hlen u0 u2 u3 iu ia hm hx hk hst hup hap hln hwn hlz
  go_enter Tryz.func54, Tryz.ntmps54
  go_upto_if 85 with (first
    | (refine wpList_load_one rfl 3 _ rfl _ Tryz.underlying3 rfl _ 2 _ _ _ rfl H1.out U2.out ?_)
    | (refine wpList_load_one rfl 3 _ rfl _ Tryz.underlying3 rfl _ 0 _ _ _ rfl Hm.out rfl ?_))
  clear hlv
  by_cases hl0 : lv = 0
  · have hud : up = d := Hlz.out.1 hl0
    subst hl0
    have kc3 : w2.cell? ⟨W.heap.size, 3, none⟩ = some (.int .i64 ap) := by rw [H1.out.cell]; exact U3.out
    have kcm : w2.cell? ⟨mp, 3, none⟩ = some (.slice A wl.length cap) := by rw [Hm.out.cell]; rfl
    have Hdn : Hid ((sbCm wl).dn d x = true) := by show decide (upOf x.c = d) = true; rw [Hup.out]; simp [hud]
    have hBB : (RSb B mp A cap wl).B ≤ W.heap.size := hBW
    by_cases hlo : ap < 0
    · have hg : decide (ap < 0) = true := by simpa using hlo
      have Hnr : Hid (¬ (0 ≤ atOf x.c ∧ atOf x.c < wl.length)) := by show ¬ _; rw [Hap.out]; omega
      go_upto_region 13 with (fail)
      go_quiet (fail)
      generalize hwd : World.drewN _ _ = wd
      have Hbw' : Hid (Below w2.heap.size w2 wd) := by show Below _ _ _; rw [← hwd]; exact below_drewN (Below.refl _ _) _
      have D1 : Hid (Bk wd W.heap.size x.c 31) := by show Bk _ _ _ _; rw [← hwd]; exact H1.out
      have D2 : Hid (Bk wd (W.heap.size + 1) zEx 31) := by show Bk _ _ _ _; rw [← hwd]; exact H2.out
      have DM : Hid (Bk wd mp [.int .i64 3, .int .i64 0, .int .i64 0, .slice A wl.length cap, .slice none 0 0, .bool fl] 68) := by show Bk _ _ _ _; rw [← hwd]; exact Hm.out
      clear hwd kc3 kcm
      go_wp2_with (first
        | (refine wpList_store_blk rfl 4 _ _ rfl _ 5 _ _ [.bool true] rfl rfl DM.out uBool1.out (by simp) rfl ?_; intro w4 hw4; have j1 := Lib.hid (D1.out.wrt hw4 (by omega)); have j2 := Lib.hid (D2.out.wrt hw4 (by omega)); have HW4 := Lib.hid hw4; clear hw4)
        | (refine wpList_load_part rfl 31 _ rfl _ Tryz.underlying31 rfl _ _ _ _ x.c rfl j1.out Hi.out (by rw [List.drop_zero, List.take_length]) ?_)
        | (refine wpList_store_blk rfl 31 _ _ rfl _ _ _ _ x.c rfl rfl j2.out Hi.out (by rw [Hl.out]; decide) Hx3.out ?_; intro w5 hw5))
      rw [setL_all _ _ (by rw [Hl.out]; rfl)] at hw5
      refine bodyPost_blk rfl (W.heap.size + 1) x.c _ rfl _ hw5.bk Tryz.underlying31 rfl Hi.out rfl ?_
      have f1 := (Fr.below Hst.out Hbw.out).trans (Fr.below Hst2.out Hbw'.out)
      have f2 := f1.wrtO (s' := (fun v => sm v ∨ v = (d, x), true)) HW4.out ⟨Hst.out.1.2.2.1, rfl⟩ (fun k hk => hk) (rsb_st Hst.out (by rw [HW4.out.size]; exact f1.size) (fun k hk => (HW4.out.block k (by have := Hst.out.1.2.2.1; omega)).trans ((Hbw'.out.block k (by omega)).trans (Hbw.out.block k (by omega)))) (FlagOk.step Hst.out.1.2.1 ⟨fun _ => .inr ⟨Hup.out.trans hud, Hnr.out⟩, fun _ => rfl⟩) HW4.out.bk)
      have f3 := f2.wrt hw5 (by omega) (hno.out _ (by omega) _)
      exact ⟨x, _, rfl, f3, ⟨fun v => Iff.rfl, Nat.zero_le _⟩, fun h => (by rw [Hdn.out] at h; cases h), fun _ => ⟨Hx.out.keep (f3.src Hst.out) fun k hk => ⟨.inl hk, by have := f3.size; omega, fun e => by have := e.1; omega⟩, x, ⟨fun _ => rfl, fun wx h1 h2 => absurd ⟨h1, by have := (List.getElem?_eq_some_iff.1 h2).1; omega⟩ Hnr.out⟩, USm.refl _ _⟩⟩
    · have hg : decide (ap < 0) = false := by simpa using hlo
      by_cases hhi : (wl.length : Int) ≤ ap
      · have hg2 : decide ((wl.length : Int) ≤ ap) = true := by simpa using hhi
        have Hnr : Hid (¬ (0 ≤ atOf x.c ∧ atOf x.c < wl.length)) := by show ¬ _; rw [Hap.out]; omega
        go_upto_region 13 with (fail)
        go_quiet (fail)
        generalize hwd : World.drewN _ _ = wd
        have Hbw' : Hid (Below w2.heap.size w2 wd) := by show Below _ _ _; rw [← hwd]; exact below_drewN (Below.refl _ _) _
        have D1 : Hid (Bk wd W.heap.size x.c 31) := by show Bk _ _ _ _; rw [← hwd]; exact H1.out
        have D2 : Hid (Bk wd (W.heap.size + 1) zEx 31) := by show Bk _ _ _ _; rw [← hwd]; exact H2.out
        have DM : Hid (Bk wd mp [.int .i64 3, .int .i64 0, .int .i64 0, .slice A wl.length cap, .slice none 0 0, .bool fl] 68) := by show Bk _ _ _ _; rw [← hwd]; exact Hm.out
        clear hwd kc3 kcm
        go_wp2_with (first
          | (refine wpList_store_blk rfl 4 _ _ rfl _ 5 _ _ [.bool true] rfl rfl DM.out uBool1.out (by simp) rfl ?_; intro w4 hw4; have j1 := Lib.hid (D1.out.wrt hw4 (by omega)); have j2 := Lib.hid (D2.out.wrt hw4 (by omega)); have HW4 := Lib.hid hw4; clear hw4)
          | (refine wpList_load_part rfl 31 _ rfl _ Tryz.underlying31 rfl _ _ _ _ x.c rfl j1.out Hi.out (by rw [List.drop_zero, List.take_length]) ?_)
          | (refine wpList_store_blk rfl 31 _ _ rfl _ _ _ _ x.c rfl rfl j2.out Hi.out (by rw [Hl.out]; decide) Hx3.out ?_; intro w5 hw5))
        rw [setL_all _ _ (by rw [Hl.out]; rfl)] at hw5
        refine bodyPost_blk rfl (W.heap.size + 1) x.c _ rfl _ hw5.bk Tryz.underlying31 rfl Hi.out rfl ?_
        have f1 := (Fr.below Hst.out Hbw.out).trans (Fr.below Hst2.out Hbw'.out)
        have f2 := f1.wrtO (s' := (fun v => sm v ∨ v = (d, x), true)) HW4.out ⟨Hst.out.1.2.2.1, rfl⟩ (fun k hk => hk) (rsb_st Hst.out (by rw [HW4.out.size]; exact f1.size) (fun k hk => (HW4.out.block k (by have := Hst.out.1.2.2.1; omega)).trans ((Hbw'.out.block k (by omega)).trans (Hbw.out.block k (by omega)))) (FlagOk.step Hst.out.1.2.1 ⟨fun _ => .inr ⟨Hup.out.trans hud, Hnr.out⟩, fun _ => rfl⟩) HW4.out.bk)
        have f3 := f2.wrt hw5 (by omega) (hno.out _ (by omega) _)
        exact ⟨x, _, rfl, f3, ⟨fun v => Iff.rfl, Nat.zero_le _⟩, fun h => (by rw [Hdn.out] at h; cases h), fun _ => ⟨Hx.out.keep (f3.src Hst.out) fun k hk => ⟨.inl hk, by have := f3.size; omega, fun e => by have := e.1; omega⟩, x, ⟨fun _ => rfl, fun wx h1 h2 => absurd ⟨h1, by have := (List.getElem?_eq_some_iff.1 h2).1; omega⟩ Hnr.out⟩, USm.refl _ _⟩⟩
      · have hg2 : decide ((wl.length : Int) ≤ ap) = false := by simpa using hhi
        obtain ⟨an, rfl⟩ := Int.eq_ofNat_of_zero_le (Int.not_lt.1 hlo)
        have han : an < wl.length := by omega
        obtain ⟨wx, ad, hwx, rfl, hb, hat⟩ := (Hst2.out.2.1).get han
        have hwi := Hst2.out.2.2 wx (mem_of_get? hwx)
        have HiE : Hid ((Tryz.prog.info? 31).map (·.size) = some wx.c.length) := by show _ = _; rw [hwi.len]; exact uClExpr1
        have Hwx := Lib.hid hwx
        have hcell : Hid (∀ w', (fun w' => Bk w' W.heap.size x.c 31 ∧ Bk w' mp [.int .i64 3, .int .i64 0, .int .i64 0, .slice (some ad) wl.length cap, .slice none 0 0, .bool fl] 68 ∧ ∀ k, k < B → w'.heap[k]? = W.heap[k]?) w' → ∀ j u, wx.c[j]? = some u → w'.cell? ((ad.add (an * 14)).add j) = some u) := by
          intro w' hw'
          obtain ⟨wx', ad', hwx', e, _, hat'⟩ := (Hst.out.2.1.keep (w' := w') (fun k hk => hw'.2.2 k hk) fun _ h => h).get han
          cases e
          rw [hwx] at hwx'
          cases hwx'
          exact at_add hat'
        have Hcall : Hid (∀ wz, Below w2.heap.size w2 wz → Calls Tryz.prog 16 #[.agg wx.c.toArray, .int .i64 0, .int .i64 d] wz (SbCall B wl d x wz)) := fun wz hz => by
          have hzz := hz.size
          refine (rshift_any B 0 d (by unfold I64; omega) (by have := Hhd.out; unfold I64; omega) wx wz (by omega) (Hwn.out wx (mem_of_get? Hwx.out)) (hwi.keep (fun k hk => hz.block k (by omega)) fun _ h => h)).mono fun e w' hp => SbCall.mk (by rw [Hap.out]; omega) (by rw [Hap.out]; simpa using Hwx.out) hp
        clear hat hb hwi hwx
        have Hhan := Lib.hid han
        go_upto_region 13 with (fail)
        go_quiet (fail)
        generalize hwd : World.drewN _ _ = wd
        have Hbw' : Hid (Below w2.heap.size w2 wd) := by show Below _ _ _; rw [← hwd]; exact below_drewN (Below.refl _ _) _
        have D1 : Hid (Bk wd W.heap.size x.c 31) := by show Bk _ _ _ _; rw [← hwd]; exact H1.out
        have D2 : Hid (Bk wd (W.heap.size + 1) zEx 31) := by show Bk _ _ _ _; rw [← hwd]; exact H2.out
        have DM : Hid (Bk wd mp [.int .i64 3, .int .i64 0, .int .i64 0, .slice (some ad) wl.length cap, .slice none 0 0, .bool fl] 68) := by show Bk _ _ _ _; rw [← hwd]; exact Hm.out
        clear hwd kc3 kcm
        go_upto_region 16 with (fail)
        go_cut [8] (fun v wx' => SbCut B wl d x wd v wx')
        case first =>
          have hS : (fun w' => Bk w' W.heap.size x.c 31 ∧ Bk w' mp [.int .i64 3, .int .i64 0, .int .i64 0, .slice (some ad) wl.length cap, .slice none 0 0, .bool fl] 68 ∧ ∀ k, k < B → w'.heap[k]? = W.heap[k]?) wd.drew := ⟨D1.out, DM.out, fun k hk => (Hbw'.out.block k (by omega)).trans (Hbw.out.block k (by omega))⟩
          refine wp_region_held_drew (S := (fun w' => Bk w' W.heap.size x.c 31 ∧ Bk w' mp [.int .i64 3, .int .i64 0, .int .i64 0, .slice (some ad) wl.length cap, .slice none 0 0, .bool fl] 68 ∧ ∀ k, k < B → w'.heap[k]? = W.heap[k]?)) (by kernel_rfl) hS fun hS => ?_
          show wpAnyH _ .any _ _ _ 16 (Array.replicate 16 false) _ _
          refine take_op (i := 0) (v := .pointer (some ⟨mp, 0, none⟩)) rfl rfl (by kernel_rfl) (by kernel_rfl) (by kernel_rfl) (fun _ _ _ h => h) (yields_of rfl fun w' _ => by go_simp) hS ?_
          simp only [List.setIfInBounds_toArray, List.set_cons_zero, List.set_cons_succ]
          refine take_op (i := 1) (v := .pointer (some ⟨mp, 0, none⟩)) rfl rfl (by kernel_rfl) (by kernel_rfl) (by kernel_rfl) (fun _ _ _ h => h) (yields_of rfl fun w' _ => by go_simp) hS ?_
          simp only [List.setIfInBounds_toArray, List.set_cons_zero, List.set_cons_succ]
          refine take_op (i := 2) (v := .pointer (some ⟨mp, 3, none⟩)) rfl rfl (by kernel_rfl) (by kernel_rfl) (by kernel_rfl) (fun _ _ _ h => h) (yields_of rfl fun w' _ => by go_simp) hS ?_
          simp only [List.setIfInBounds_toArray, List.set_cons_zero, List.set_cons_succ]
          refine take_op (i := 3) (v := .slice (some ad) wl.length cap) rfl rfl (by kernel_rfl) (by kernel_rfl) (by kernel_rfl) (fun _ _ _ h => h) (yields_load_one rfl 28 _ rfl _ Tryz.underlying28 rfl _ 3 _ _ _ rfl (fun _ h => h.2.1) rfl) hS ?_
          simp only [List.setIfInBounds_toArray, List.set_cons_zero, List.set_cons_succ]
          refine take_op (i := 4) (v := .pointer (some ⟨W.heap.size, 3, none⟩)) rfl rfl (by kernel_rfl) (by kernel_rfl) (by kernel_rfl) (fun _ _ _ h => h) (yields_of rfl fun w' _ => by go_simp) hS ?_
          simp only [List.setIfInBounds_toArray, List.set_cons_zero, List.set_cons_succ]
          refine take_op (i := 5) (v := .int .i64 (an : Int)) rfl rfl (by kernel_rfl) (by kernel_rfl) (by kernel_rfl) (fun _ _ _ h => h) (yields_load_one rfl 3 _ rfl _ Tryz.underlying3 rfl _ 3 _ _ _ rfl (fun _ h => h.1) U3.out) hS ?_
          simp only [List.setIfInBounds_toArray, List.set_cons_zero, List.set_cons_succ]
          refine take_op (i := 6) (v := .pointer (some (ad.add (an * 14)))) rfl rfl (by kernel_rfl) (by kernel_rfl) (by kernel_rfl) (fun _ _ _ h => h) (yields_of rfl fun w' _ => by go_simp) hS ?_
          simp only [List.setIfInBounds_toArray, List.set_cons_zero, List.set_cons_succ]
          refine take_op (i := 7) (v := .agg wx.c.toArray) rfl rfl (by kernel_rfl) (by kernel_rfl) (by kernel_rfl) (fun _ _ _ h => h) (yields_load_st rfl 31 _ rfl _ Tryz.underlying31 rfl (ad.add (an * 14)) wx.c rfl HiE.out (fun w' h => hcell.out w' h)) hS ?_
          simp only [List.setIfInBounds_toArray, List.set_cons_zero, List.set_cons_succ]
          refine take_op (i := 8) (v := .int .i64 d) rfl rfl (by kernel_rfl) (by kernel_rfl) (by kernel_rfl) (fun _ _ _ h => h) (yields_of rfl fun w' _ => by go_simp) hS ?_
          simp only [List.setIfInBounds_toArray, List.set_cons_zero, List.set_cons_succ]
          have hzd : wd.drew.heap.size = wd.heap.size := rfl
          have hz9 := Hbw'.out.size
          have hmp := lm
          refine two_op (i := 9) (j := 13) (by kernel_rfl) rfl rfl rfl rfl ?_ ?_
          · refine call_wp rfl 16 #[.agg wx.c.toArray, .int .i64 0, .int .i64 d] (by go_simp) ((Hcall.out _ Hbw'.out.drew).mono ?_)
            rintro e w5 ⟨y, f, rfl, hb5, hy, hr⟩
            have hz5 := hb5.size
            have hS5 := And.intro ((hb5.block W.heap.size (by omega)).trans hS.1) (And.intro ((hb5.block mp (by omega)).trans hS.2.1) fun k (hk : k < B) => (hb5.block k (by omega)).trans (hS.2.2 k hk))
            have yl := hy.len
            have yi : (Tryz.prog.info? 31).map (·.size) = some y.c.length := by rw [yl]; exact uClExpr1
            have y1 : y.c.all (·.oneCell') = true := by have := all_one hy.ones; simpa using this
            refine ⟨_, rfl, hS5, ?_⟩
            simp only [List.setIfInBounds_toArray, List.set_cons_zero, List.set_cons_succ]
            refine take_op (i := 10) (v := .tuple #[.agg y.c.toArray, .int .i64 f]) rfl rfl (by kernel_rfl) (by kernel_rfl) (by kernel_rfl) (fun _ _ _ h => h) (yields_of rfl fun w' _ => by go_simp) hS5 ?_
            simp only [List.setIfInBounds_toArray, List.set_cons_zero, List.set_cons_succ]
            refine take_op (i := 11) (v := .agg y.c.toArray) rfl rfl (by kernel_rfl) (by kernel_rfl) (by kernel_rfl) (fun _ _ _ h => h) (yields_of rfl fun w' _ => by go_simp) hS5 ?_
            simp only [List.setIfInBounds_toArray, List.set_cons_zero, List.set_cons_succ]
            refine take_op (i := 12) (v := .int .i64 f) rfl rfl (by kernel_rfl) (by kernel_rfl) (by kernel_rfl) (fun _ _ _ h => h) (yields_of rfl fun w' _ => by go_simp) hS5 ?_
            simp only [List.setIfInBounds_toArray, List.set_cons_zero, List.set_cons_succ]
            refine one_op (i := 13) (by kernel_rfl) rfl rfl ?_
            refine val_wp (v := .pointer (some ⟨w5.heap.size, 0, none⟩)) (w' := w5.alloc (.cells #[.int .i64 0, .int .i64 0, .int .i64 0, .int .i64 0, .int .i64 0, .int .i64 0, .slice none 0 0, .int .i64 0, .int .i64 0, .int .i64 0, .string ⟨#[]⟩, .slice none 0 0, .slice none 0 0, .slice none 0 0] 31)) rfl (by go_simp) ⟨⟨Bk.alloc hS5.1 _, Bk.alloc hS5.2.1 _, fun k hk => (Below.heap_alloc w5 _ k (by omega)).trans (hS5.2.2 k hk)⟩, ?_⟩
            simp only [List.setIfInBounds_toArray, List.set_cons_zero, List.set_cons_succ]
            refine one_op (i := 14) (by kernel_rfl) rfl rfl ?_
            refine store_wp rfl 31 _ _ rfl w5.heap.size 0 31 zEx y.c rfl rfl (Bk.new w5 zEx _) yi (by rw [yl]; exact Nat.le_refl _) y1 fun w6 hw6 => ?_
            rw [setL_all _ _ (by rw [yl]; rfl)] at hw6
            have h65 : ∀ k, k < w5.heap.size → w6.heap[k]? = w5.heap[k]? := fun k hk => (hw6.block k (by omega)).trans (Below.heap_alloc w5 _ k hk)
            have hs6 := hw6.size
            simp at hs6
            have hS6 := And.intro ((h65 W.heap.size (by omega)).trans hS5.1) (And.intro ((h65 mp (by omega)).trans hS5.2.1) (fun k (hk : k < B) => (h65 k (by omega)).trans (hS5.2.2 k hk)))
            refine ⟨hS6, ?_⟩
            refine take_op (i := 15) (v := .int .i64 f) rfl rfl (by kernel_rfl) (by kernel_rfl) (by kernel_rfl) (fun _ _ _ h => h) (yields_of rfl fun w' _ => by go_simp) hS6 ?_
            simp only [List.setIfInBounds_toArray, List.set_cons_zero, List.set_cons_succ]
            refine wpAnyH_done (by kernel_rfl) ?_ _
            go_wp2_with fail
            go_meet
            exact call_cut (Below.refl _ _) ⟨hb5.os, hb5.tape, hb5.output, hb5.size, hb5.block⟩ ⟨hw6.os, hw6.tape, hw6.output, by omega, fun k hk => h65 k (by omega)⟩ (by omega) hw6.bk hy (fun k hk _ => h65 k hk) (fun k hk => by have := hk.2.1; omega) hr
          · refine val_wp (v := .pointer (some ⟨wd.heap.size, 0, none⟩)) (w' := wd.drew.alloc (.cells #[.int .i64 0, .int .i64 0, .int .i64 0, .int .i64 0, .int .i64 0, .int .i64 0, .slice none 0 0, .int .i64 0, .int .i64 0, .int .i64 0, .string ⟨#[]⟩, .slice none 0 0, .slice none 0 0, .slice none 0 0] 31)) rfl (by go_simp) ?_
            have hSb := And.intro (Bk.alloc hS.1 (.cells #[.int .i64 0, .int .i64 0, .int .i64 0, .int .i64 0, .int .i64 0, .int .i64 0, .slice none 0 0, .int .i64 0, .int .i64 0, .int .i64 0, .string ⟨#[]⟩, .slice none 0 0, .slice none 0 0, .slice none 0 0] 31)) (And.intro (Bk.alloc hS.2.1 (.cells #[.int .i64 0, .int .i64 0, .int .i64 0, .int .i64 0, .int .i64 0, .int .i64 0, .slice none 0 0, .int .i64 0, .int .i64 0, .int .i64 0, .string ⟨#[]⟩, .slice none 0 0, .slice none 0 0, .slice none 0 0] 31)) fun k (hk : k < B) => (Below.heap_alloc wd.drew (.cells #[.int .i64 0, .int .i64 0, .int .i64 0, .int .i64 0, .int .i64 0, .int .i64 0, .slice none 0 0, .int .i64 0, .int .i64 0, .int .i64 0, .string ⟨#[]⟩, .slice none 0 0, .slice none 0 0, .slice none 0 0] 31) k (by omega)).trans (hS.2.2 k hk))
            have hbb : Bk (wd.drew.alloc (.cells #[.int .i64 0, .int .i64 0, .int .i64 0, .int .i64 0, .int .i64 0, .int .i64 0, .slice none 0 0, .int .i64 0, .int .i64 0, .int .i64 0, .string ⟨#[]⟩, .slice none 0 0, .slice none 0 0, .slice none 0 0] 31)) wd.heap.size zEx 31 := Bk.new wd.drew zEx _
            have hbl : Below wd.heap.size wd (wd.drew.alloc (.cells #[.int .i64 0, .int .i64 0, .int .i64 0, .int .i64 0, .int .i64 0, .int .i64 0, .slice none 0 0, .int .i64 0, .int .i64 0, .int .i64 0, .string ⟨#[]⟩, .slice none 0 0, .slice none 0 0, .slice none 0 0] 31)) := (Below.refl _ _).drew.alloc (Nat.le_refl _) _
            have hzb : (wd.drew.alloc (.cells #[.int .i64 0, .int .i64 0, .int .i64 0, .int .i64 0, .int .i64 0, .int .i64 0, .slice none 0 0, .int .i64 0, .int .i64 0, .int .i64 0, .string ⟨#[]⟩, .slice none 0 0, .slice none 0 0, .slice none 0 0] 31)).heap.size = wd.heap.size + 1 := by simp [hzd]
            refine ⟨hSb, ?_⟩
            generalize wd.drew.alloc (.cells #[.int .i64 0, .int .i64 0, .int .i64 0, .int .i64 0, .int .i64 0, .int .i64 0, .slice none 0 0, .int .i64 0, .int .i64 0, .int .i64 0, .string ⟨#[]⟩, .slice none 0 0, .slice none 0 0, .slice none 0 0] 31) = wb at hSb hbb hbl hzb ⊢
            simp only [List.setIfInBounds_toArray, List.set_cons_zero, List.set_cons_succ]
            refine one_op (i := 9) (by kernel_rfl) rfl rfl ?_
            refine call_wp rfl 16 #[.agg wx.c.toArray, .int .i64 0, .int .i64 d] (by go_simp) ((Hcall.out _ (belTr Hbw'.out (belLo hbl Hbw'.out.size))).mono ?_)
            rintro e w5 ⟨y, f, rfl, hb5, hy, hr⟩
            have hz5 := hb5.size
            have hS5 := And.intro ((hb5.block W.heap.size (by omega)).trans hSb.1) (And.intro ((hb5.block mp (by omega)).trans hSb.2.1) fun k (hk : k < B) => (hb5.block k (by omega)).trans (hSb.2.2 k hk))
            have yl := hy.len
            have yi : (Tryz.prog.info? 31).map (·.size) = some y.c.length := by rw [yl]; exact uClExpr1
            have y1 : y.c.all (·.oneCell') = true := by have := all_one hy.ones; simpa using this
            refine ⟨_, rfl, hS5, ?_⟩
            simp only [List.setIfInBounds_toArray, List.set_cons_zero, List.set_cons_succ]
            refine take_op (i := 10) (v := .tuple #[.agg y.c.toArray, .int .i64 f]) rfl rfl (by kernel_rfl) (by kernel_rfl) (by kernel_rfl) (fun _ _ _ h => h) (yields_of rfl fun w' _ => by go_simp) hS5 ?_
            simp only [List.setIfInBounds_toArray, List.set_cons_zero, List.set_cons_succ]
            refine take_op (i := 11) (v := .agg y.c.toArray) rfl rfl (by kernel_rfl) (by kernel_rfl) (by kernel_rfl) (fun _ _ _ h => h) (yields_of rfl fun w' _ => by go_simp) hS5 ?_
            simp only [List.setIfInBounds_toArray, List.set_cons_zero, List.set_cons_succ]
            refine take_op (i := 12) (v := .int .i64 f) rfl rfl (by kernel_rfl) (by kernel_rfl) (by kernel_rfl) (fun _ _ _ h => h) (yields_of rfl fun w' _ => by go_simp) hS5 ?_
            simp only [List.setIfInBounds_toArray, List.set_cons_zero, List.set_cons_succ]
            refine one_op (i := 14) (by kernel_rfl) rfl rfl ?_
            refine store_wp rfl 31 _ _ rfl wd.heap.size 0 31 zEx y.c rfl rfl ((hb5.block _ (by omega)).trans hbb) yi (by rw [yl]; exact Nat.le_refl _) y1 fun w6 hw6 => ?_
            rw [setL_all _ _ (by rw [yl]; rfl)] at hw6
            have hs6 := hw6.size
            have hS6 := And.intro ((hw6.block W.heap.size (by omega)).trans hS5.1) (And.intro ((hw6.block mp (by omega)).trans hS5.2.1) (fun k (hk : k < B) => (hw6.block k (by omega)).trans (hS5.2.2 k hk)))
            refine ⟨hS6, ?_⟩
            refine take_op (i := 15) (v := .int .i64 f) rfl rfl (by kernel_rfl) (by kernel_rfl) (by kernel_rfl) (fun _ _ _ h => h) (yields_of rfl fun w' _ => by go_simp) hS6 ?_
            simp only [List.setIfInBounds_toArray, List.set_cons_zero, List.set_cons_succ]
            refine wpAnyH_done (by kernel_rfl) ?_ _
            go_wp2_with fail
            go_meet
            exact call_cut hbl hb5 ⟨hw6.os, hw6.tape, hw6.output, by omega, fun k hk => hw6.block k (by omega)⟩ (Nat.le_refl _) hw6.bk hy (fun k hk hne => hw6.block k hne) (fun k hk => by have h1 := hk.at; have : (CBs B).B = B := rfl; omega) hr
        case rest =>
          obtain ⟨b, y, rfl, hbc, hbb, hky, hyc, hr⟩ := hcut
          have Hyc := Lib.hid hyc
          have Hbc := Lib.hid hbc
          have yl := hyc.len
          have Yl : Hid (y.c.length = 14) := yl
          have yi : Hid ((Tryz.prog.info? 31).map (·.size) = some y.c.length) := by show _ = _; rw [yl]; exact uClExpr1
          have y1 : Hid (y.c.all (·.oneCell') = true) := by have := all_one hyc.ones; show _ = _; simpa using this
          have k8 := Lib.hid hky
          have k2 : Hid (Bk wc (W.heap.size + 1) zEx 31) := (hbc.block _ (by have := Hbw'.out.size; omega)).trans D2.out
          have km : Hid (Bk wc mp [.int .i64 3, .int .i64 0, .int .i64 0, .slice (some ad) wl.length cap, .slice none 0 0, .bool fl] 68) := (hbc.block _ (by have := Hbw'.out.size; omega)).trans DM.out
          clear hyc hbc hky yl
          go_wp2_with (first
            | (refine wpList_load_part rfl 31 _ rfl _ Tryz.underlying31 rfl _ _ _ _ y.c rfl k8.out yi.out (by rw [List.drop_zero, List.take_length]) ?_)
            | (refine wpList_store_blk rfl 31 _ _ rfl _ _ _ _ y.c rfl rfl k2.out yi.out (by rw [Yl.out]; exact Nat.le_refl _) y1.out ?_; intro w5 hw5))
          rw [setL_all _ _ (by rw [Yl.out]; rfl)] at hw5
          refine bodyPost_blk rfl (W.heap.size + 1) y.c _ rfl _ hw5.bk Tryz.underlying31 rfl yi.out rfl ?_
          have zb := Hbw'.out.size
          have zc := Hbc.out.size
          have bl2 : Below w2.heap.size w2 wc := belTr Hbw'.out (belLo Hbc.out Hbw'.out.size)
          have f1 := (Fr.below Hst.out Hbw.out).trans (Fr.below Hst2.out bl2)
          have hir : atOf x.c < wl.length := by rw [Hap.out]; omega
          have hir0 : 0 ≤ atOf x.c := by rw [Hap.out]; omega
          have f2 := f1.st' (s' := (fun v => sm v ∨ v = (d, x), fl)) (fun k hk => hk) (rsb_st Hst.out f1.size (fun k hk => (bl2.block k (by omega)).trans (Hbw.out.block k (by omega))) (FlagOk.step Hst.out.1.2.1 ⟨.inl, fun h => h.elim id fun h => absurd ⟨hir0, hir⟩ h.2⟩) km.out)
          have f3 := f2.wrt hw5 (by omega) (hno.out _ (by omega) _)
          have hyn : UIn (Nw (RSb B mp (some ad) cap wl) w2.heap.size (fun v => sm v ∨ v = (d, x), fl) wc) wc .expr y := Hyc.out.keep (fun _ _ => rfl) fun k hk => ⟨hk.1.imp id fun h => by omega, hk.2.1, fun e => by have h1 := hk.at; have h3 : (CBs B).B = B := rfl; have h2 := e.2; have h4 := Hst.out.1.2.2.1; omega⟩
          exact ⟨y, _, rfl, f3, ⟨fun v => Iff.rfl, Nat.zero_le _⟩, fun h => (by rw [Hdn.out] at h; cases h), fun _ => ⟨(hyn.wrt hw5 (by omega) (by omega)).lower (by omega), y, hr, USm.refl _ _⟩⟩
  · have hne : ¬ up = d := fun h => hl0 (Hlz.out.2 h)
    have hlb : (lv == 0) = false := by rw [beq_eq_false_iff_ne]; exact hl0
    go_wp2_with (first
      | (refine wpList_load_part rfl 31 _ rfl _ Tryz.underlying31 rfl _ _ _ _ x.c rfl H1.out Hi.out (by rw [List.drop_zero, List.take_length]) ?_)
      | (refine wpList_store_blk rfl 31 _ _ rfl _ _ _ _ x.c rfl rfl H2.out Hi.out (by rw [Hl.out]; decide) Hx3.out ?_; intro w5 hw5))
    rw [setL_all _ _ (by rw [Hl.out]; rfl)] at hw5
    refine bodyPost_blk rfl (W.heap.size + 1) x.c _ rfl _ hw5.bk Tryz.underlying31 rfl Hi.out rfl ?_
    have hdn : (sbCm wl).dn d x = false := by show decide (upOf x.c = d) = false; rw [Hup.out]; simp [hne]
    have hBB : (RSb B mp A cap wl).B ≤ W.heap.size := hBW
    have f1 := Fr.below Hst.out Hbw.out
    have f2 := f1.st' (s' := (fun v => sm v ∨ v = (d, x), fl)) (fun k hk => hk) (rsb_st Hst.out f1.size (fun k hk => Hbw.out.block k (by omega)) (FlagOk.step Hst.out.1.2.1 ⟨.inl, fun h => h.elim id fun h => absurd h.1 (by show upOf x.c ≠ d; rw [Hup.out]; exact hne)⟩) Hm.out)
    have f3 := f2.wrt hw5 (by omega) (hno.out _ (by omega) _)
    exact ⟨x, _, rfl, f3, ⟨fun v => Iff.rfl, Nat.zero_le _⟩, fun _ => ⟨by cases x; rfl, Hx.out.keep (f3.src Hst.out) fun _ h => h, Hk.out⟩, fun h => by rw [hdn] at h; cases h⟩
end Go.Proofs.YthijagpnpcpcbaaGreat

