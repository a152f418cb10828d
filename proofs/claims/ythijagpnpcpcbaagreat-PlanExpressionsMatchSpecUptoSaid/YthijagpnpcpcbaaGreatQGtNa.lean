/-
  Blocks of which all cells are known as a list: a store into a part, a load of a part, of one cell.
  Frames: what a list of results keeps while its maker goes on.
  plan.copyType, its closure; value.Copy.
  value.Copy.
-/
import Derived.Test.YthijagpnpcpcbaaGreatQGtB
import Derived.Test.YthijagpnpcpcbaaGreatQGtL
import Derived.Laws.IdiomCopy
import Derived.Deep.Upon
namespace Go.Proofs.YthijagpnpcpcbaaGreat
open Go.RowKit
/-- A block of cells. -/
def Bk (w : World) (b : Nat) (cs : List Value) (t : TypeId) : Prop := w.heap[b]? = some (.cells cs.toArray t (0, 0))
def setL (cs : List Value) : Nat → List Value → List Value
  | _, [] => cs
  | o, v :: r => setL (cs.set o v) (o + 1) r
/-- Only one block was written. -/
structure Wrt (w : World) (b : Nat) (cs : List Value) (t : TypeId) (w' : World) : Prop where
  os : w'.os = w.os
  tape : w'.tape = w.tape
  output : w'.output = w.output
  size : w'.heap.size = w.heap.size
  bk : Bk w' b cs t
  block : ∀ k, k ≠ b → w'.heap[k]? = w.heap[k]?
theorem Bk.lt {w : World} {b : Nat} {cs : List Value} {t : TypeId} (h : Bk w b cs t) : b < w.heap.size := (Array.getElem?_eq_some_iff.1 h).1
theorem Bk.new (w : World) (cs : List Value) (t : TypeId) : Bk (w.alloc (.cells cs.toArray t)) w.heap.size cs t := heap_alloc_last w _
theorem Bk.alloc {w : World} {b : Nat} {cs : List Value} {t : TypeId} (h : Bk w b cs t) (o : Obj) : Bk (w.alloc o) b cs t := (Below.heap_alloc w o b h.lt).trans h
theorem Bk.cell {w : World} {b : Nat} {cs : List Value} {t : TypeId} (h : Bk w b cs t) (j : Nat) : w.cell? ⟨b, j, none⟩ = cs[j]? := by
  rw [cell_of_row w b j _ t (0, 0) h]
  simp
theorem Wrt.setCells : ∀ (vs : List Value) (w : World) (b o : Nat) (cs : List Value) (t : TypeId) (_ : Bk w b cs t), Wrt w b (setL cs o vs) t (w.setCells b o vs)
  | [], w, b, o, cs, t, h => ⟨rfl, rfl, rfl, rfl, h, fun _ _ => rfl⟩
  | v :: r, w, b, o, cs, t, h => by
    have h1 : Bk (w.setCell ⟨b, o, none⟩ v) b (cs.set o v) t := by
      have := heap_setCell_same w b o cs.toArray t v h
      simpa [Bk] using this
    have h2 := Wrt.setCells r (w.setCell ⟨b, o, none⟩ v) b (o + 1) (cs.set o v) t h1
    exact ⟨h2.os, h2.tape, h2.output, h2.size.trans (by simp), h2.bk, fun k hk => (h2.block k hk).trans (heap_setCell_other w ⟨b, o, none⟩ k v hk)⟩
section
variable {P : Program}
/-- A store into a part of a block. -/
theorem wpList_store_blk {ops : Array Oper} {rest : List Oper} {o : Oper} {a : Act} {w : World} {Q : Exit → Act → World → Prop} (hgd : o.guard = none) (t : TypeId) (x y : Operand) (ho : o.op = .store t x y)
    (b off : Nat) (bt : TypeId) (cur vs : List Value) (hx : a.eval x = .pointer (some ⟨b, off, none⟩)) (hy : (a.eval y).cells = vs.toArray) (hb : Bk w b cur bt) (hi : (P.info? t).map (·.size) = some vs.length) (hle : off + vs.length ≤ cur.length) (h1 : vs.all (·.oneCell') = true)
    (h : ∀ w', Wrt w b (setL cur off vs) bt w' → wpList P ops Q rest (a.put o.dst undef) w') : wpList P ops Q (o :: rest) a w :=
  wpList_plain hgd fun _ hK => by
    have hr : (Instr.storeAt t (.pointer (some ⟨b, off, none⟩)) (a.eval y)).run P w = .ok () (w.setCells b off vs) := by
      have := run_storeCells_cells (P := P) b off vs 0 w (fun j hj => by rw [hb.cell, List.getElem?_eq_getElem (by omega)]; rfl) (fun j hj => by unfold World.frozen?; rw [show w.heap[b]? = _ from hb]; simp) (fun v hv => List.all_eq_true.1 h1 v hv)
      simp only [Nat.add_zero] at this
      cases hq : P.info? t with
      | none => simp [hq] at hi
      | some i =>
        have hs : i.size = vs.length := by simpa [hq] using hi
        simp [Instr.storeAt, Instr.sureAddr, Sem.run_bind, Result.andThen, storeVar, sizeOf, typeInfo, hq, hy, hs, this]
    unfold Oper.wp execOp
    simp only [ho, hx, Sem.run_bind, hr, Result.andThen_ok]
    exact hK _ _ (h _ (Wrt.setCells vs w b off cur bt hb))
/-- A struct that lies in a block is loaded. -/
theorem wpList_load_part {ops : Array Oper} {rest : List Oper} {o : Oper} {a : Act} {w : World} {Q : Exit → Act → World → Prop} (hgd : o.guard = none) (t : TypeId) (x : Operand) (ho : o.op = .load t x) (d : TypeDesc)
    (hu : P.underlying t = some d) (hd : d.isRow = true) (b off : Nat) (bt : TypeId) (cur cs : List Value) (hx : a.eval x = .pointer (some ⟨b, off, none⟩)) (hb : Bk w b cur bt) (hi : (P.info? t).map (·.size) = some cs.length) (hc : (cur.drop off).take cs.length = cs)
    (h : wpList P ops Q rest (a.put o.dst (.agg cs.toArray)) w) : wpList P ops Q (o :: rest) a w :=
  wpList_load_st hgd t x ho d hu hd ⟨b, off, none⟩ cs hi hx (fun j u hu => by
    have hj : j < cs.length := (List.getElem?_eq_some_iff.1 hu).1
    rw [Addr.add_mid, hb.cell]
    rw [← hc, List.getElem?_take_of_lt hj, List.getElem?_drop] at hu
    exact hu) h
/-- One cell of a block is loaded. -/
theorem wpList_load_one {ops : Array Oper} {rest : List Oper} {o : Oper} {a : Act} {w : World} {Q : Exit → Act → World → Prop} (hgd : o.guard = none) (t : TypeId) (x : Operand) (ho : o.op = .load t x) (d : TypeDesc)
    (hu : P.underlying t = some d) (hd : d.isRow = false) (b off : Nat) (bt : TypeId) (cur : List Value) (v : Value) (hx : a.eval x = .pointer (some ⟨b, off, none⟩)) (hb : Bk w b cur bt) (hc : cur[off]? = some v)
    (h : wpList P ops Q rest (a.put o.dst v) w) : wpList P ops Q (o :: rest) a w :=
  wpList_plain hgd fun _ hK => by
    have hagg : (isAgg t).run P w = .ok false w := by
      unfold isAgg
      rw [Sem.run_bind, run_underlying hu w]
      cases d <;> simp_all [TypeDesc.isRow]
    have hr : (Instr.loadAt t (.pointer (some ⟨b, off, none⟩))).run P w = .ok v w := by
      simp [Instr.loadAt, Instr.sureAddr, Sem.run_bind, Result.andThen, loadVar, hagg, hb.cell, hc]
    unfold Oper.wp execOp
    simp only [ho, hx, Sem.run_bind, hr, Result.andThen_ok]
    exact hK _ _ h
/-- A struct that was made is handed back. -/
theorem bodyPost_blk {fn : Func} {R : Ending → World → Prop} {a : Act} {w : World} {p : Tmp} {ty : TypeId} (h : fn.results = #[.cell p ty]) (b : Nat) (cs : List Value) (d : TypeDesc) (hp : a.tmps.getD p undef = .pointer (some ⟨b, 0, none⟩)) (t : TypeId) (hb : Bk w b cs t)
    (hu : P.underlying ty = some d) (hd : d.isRow = true) (hi : (P.info? ty).map (·.size) = some cs.length) (hdf : a.defers = []) (hR : R (.returned (.agg cs.toArray)) w) : bodyPost P fn R .ret a w :=
  bodyPost_ret (results_cell_row h a.tmps w b t cs.toArray (0, 0) d hp hb hu (by cases d <;> simp_all [TypeDesc.isRow]) (by simpa using hi)) hdf hR
end
end Go.Proofs.YthijagpnpcpcbaaGreat
namespace Go.Proofs.YthijagpnpcpcbaaGreat
open Go.RowKit Go.Sort
theorem Fr.wrt {σ : Type} {C : Cl σ} {s0 s : σ} {w W W' : World} {b : Nat} {cs : List Value} {t : TypeId} (h : Fr C s0 w s W) (hw : Wrt W b cs t W') (hb : w.heap.size ≤ b) (hO : ¬ C.O s b) (hB : C.B ≤ b := by first | omega | exact Nat.zero_le _) : Fr C s0 w s W' where
  os := hw.os.trans h.os
  tape := hw.tape.trans h.tape
  output := hw.output.trans h.output
  size := by rw [hw.size]; exact h.size
  block := fun k hk hn => (hw.block k (by omega)).trans (h.block k hk hn)
  own := h.own
  st := C.keep s W W' h.st (fun k hk => hw.block k fun e => hk.elim (fun hk => hO (e ▸ hk)) fun hk => by omega) (by rw [hw.size]; exact Nat.le_refl _)
theorem Nw.wrt {σ : Type} {C : Cl σ} {b0 b : Nat} {s : σ} {W W' : World} {cs : List Value} {t : TypeId} (hw : Wrt W b cs t W') {k : Nat} (h : Nw C b0 s W k) : Nw C b0 s W' k := ⟨h.1, by rw [hw.size]; exact h.2.1, h.2.2⟩
theorem UIn.wrt {σ : Type} {C : Cl σ} {b0 b : Nat} {s : σ} {W W' : World} {cs : List Value} {T : TypeId} {t : Uy} {y : DT} (h : UIn (Nw C b0 s W) W t y) (hw : Wrt W b cs T W') (h1 : C.B ≤ b) (h2 : b < b0) : UIn (Nw C b0 s W') W' t y :=
  h.keep (fun k hk => hw.block k (by have := hk.at; omega)) fun _ hk => hk.wrt hw
theorem DRow.wrt {σ : Type} {C : Cl σ} {b0 b : Nat} {s : σ} {W W' : World} {cs : List Value} {T : TypeId} {sz cap : Nat} {A : Option Addr} {l : List DT} (h : DRow (Nw C b0 s W) W sz A cap l) (hw : Wrt W b cs T W') (h1 : C.B ≤ b) (h2 : b < b0) : DRow (Nw C b0 s W') W' sz A cap l :=
  h.keep (fun k hk => hw.block k (by have := hk.at; omega)) fun _ hk => hk.wrt hw
theorem Nw.lower {σ : Type} {C : Cl σ} {b0 b1 : Nat} {s : σ} {W : World} (hb : b1 ≤ b0) {k : Nat} (h : Nw C b0 s W k) : Nw C b1 s W k := ⟨h.1.imp id fun h => by omega, h.2⟩
theorem UIn.lower {σ : Type} {C : Cl σ} {b0 b1 : Nat} {s : σ} {W : World} {t : Uy} {y : DT} (hb : b1 ≤ b0) (h : UIn (Nw C b0 s W) W t y) : UIn (Nw C b1 s W) W t y := h.keep (fun _ _ => rfl) fun _ hk => hk.lower hb
theorem Bk.fr {σ : Type} {C : Cl σ} {s s' : σ} {W W' : World} {b : Nat} {cs : List Value} {t : TypeId} (h : Bk W b cs t) (hf : Fr C s W s' W') (hO : ¬ C.O s b) : Bk W' b cs t := (hf.block b h.lt hO).trans h
theorem Bk.wrt {W W' : World} {b b' : Nat} {cs cs' : List Value} {t t' : TypeId} (h : Bk W b cs t) (hw : Wrt W b' cs' t' W') (hne : b ≠ b') : Bk W' b cs t := (hw.block b hne).trans h
/-- What a list came to, at any later point. -/
structure LR {σ : Type} (C : Cl σ) (b0 : Nat) (s : σ) (W : World) (t : Uy) (Rel : DT → DT → Prop) (l : List DT) (A : Option Addr) (ys : List DT) : Prop where
  len : ys.length = l.length
  rel : ∀ (i : Nat) x y, l[i]? = some x → ys[i]? = some y → Rel x y
  row : DRow (Nw C b0 s W) W t.sz A l.length ys
  ins : ∀ y, y ∈ ys → UIn (Nw C b0 s W) W t y
theorem LR.fr {σ : Type} {C : Cl σ} {b0 : Nat} {s s' : σ} {W W' : World} {t : Uy} {Rel : DT → DT → Prop} {l ys : List DT} {A : Option Addr} (h : LR C b0 s W t Rel l A ys) (hf : Fr C s W s' W') : LR C b0 s' W' t Rel l A ys :=
  ⟨h.len, h.rel, h.row.fr hf, fun y hy => (h.ins y hy).fr hf⟩
theorem LR.wrt {σ : Type} {C : Cl σ} {b0 b : Nat} {s : σ} {W W' : World} {cs : List Value} {T : TypeId} {t : Uy} {Rel : DT → DT → Prop} {l ys : List DT} {A : Option Addr} (h : LR C b0 s W t Rel l A ys) (hw : Wrt W b cs T W') (h1 : C.B ≤ b) (h2 : b < b0) : LR C b0 s W' t Rel l A ys :=
  ⟨h.len, h.rel, h.row.wrt hw h1 h2, fun y hy => (h.ins y hy).wrt hw h1 h2⟩
theorem LR.lower {σ : Type} {C : Cl σ} {b0 b1 : Nat} {s : σ} {W : World} {t : Uy} {Rel : DT → DT → Prop} {l ys : List DT} {A : Option Addr} (hb : b1 ≤ b0) (h : LR C b0 s W t Rel l A ys) : LR C b1 s W t Rel l A ys :=
  ⟨h.len, h.rel, h.row.keep (fun _ _ => rfl) fun _ hk => hk.lower hb, fun y hy => (h.ins y hy).lower hb⟩
/-- As a part of a node. -/
theorem LR.kr {σ : Type} {C : Cl σ} {b0 b1 : Nat} {s : σ} {W : World} {t : Uy} {Rel : DT → DT → Prop} {l ys : List DT} {A : Option Addr} (h : LR C b0 s W t Rel l A ys) (hb : b1 ≤ b0) {c : List Value} {o : Nat} (hc : c[o]? = some (.slice A l.length l.length)) :
    ∃ A cap, c[o]? = some (.slice A ys.length cap) ∧ DRow (Nw C b1 s W) W t.sz A cap ys ∧ ∀ x, x ∈ ys → UIn (Nw C b1 s W) W t x :=
  ⟨A, l.length, by rw [h.len]; exact hc, (h.lower hb).row, (h.lower hb).ins⟩
theorem LR.usl {σ : Type} {C : Cl σ} {b0 : Nat} {s : σ} {W : World} {t : Uy} {l ys : List DT} {A : Option Addr} (h : LR C b0 s W t (USm t) l A ys) : USL t l ys := ⟨h.len.symm, h.rel⟩
theorem LsPost.lr {σ : Type} {C : Cl σ} {Sq : σ → Prop} {Rel : DT → DT → Prop} {t : Uy} {l : List DT} {s0 : σ} {w : World} {e : Ending} {w' : World} (h : LsPost C Sq Rel t l s0 w e w') : ∃ (A : Option Addr) (ys : List DT) (s : σ), e = .returned (.slice A l.length l.length) ∧ Fr C s0 w s w' ∧ Sq s ∧ LR C w.heap.size s w' t Rel l A ys := by
  obtain ⟨A, ys, s, rfl, hf, hq, hlen, hrel, hrow, hin⟩ := h
  exact ⟨A, ys, s, by rw [hlen], hf, hq, hlen, hrel, hlen ▸ hrow, hin⟩
/-- The state of a function value that has none. -/
def C0 : Cl Unit where
  St := fun _ _ => True
  O := fun _ _ => False
  lt := fun _ _ _ _ h => h.elim
  B := 0
  ob := fun _ _ h => h.elim
  base := fun _ _ _ => Nat.zero_le _
  keep := fun _ _ _ _ _ _ => trivial
theorem Fr.of0 {w w' : World} (h : Below w.heap.size w w') : Fr C0 () w () w' := ⟨h.os, h.tape, h.output, h.size, fun k hk _ => h.block k hk, fun _ h => .inl h, trivial⟩
theorem Fr.to0 {s s' : Unit} {w w' : World} (h : Fr C0 s w s' w') : Below w.heap.size w w' := ⟨h.os, h.tape, h.output, h.size, fun k hk => h.block k hk fun e => e⟩
/-- What has been made without a state lies well beside any. -/
theorem Nw.of0 {σ : Type} {C : Cl σ} {s : σ} {u : Unit} {W W' : World} (h0 : C.St s W) {k : Nat} (h : Nw C0 W.heap.size u W' k) : Nw C W.heap.size s W' k :=
  ⟨.inr (by have := h.at; simp [C0] at this; exact this), h.2.1, fun e => by have := C.lt s W h0 k e; have h1 := h.at; simp [C0] at h1; omega⟩
theorem LR.of0 {σ : Type} {C : Cl σ} {s : σ} {u : Unit} {W W' : World} (h0 : C.St s W) {t : Uy} {Rel : DT → DT → Prop} {l ys : List DT} {A : Option Addr} (h : LR C0 W.heap.size u W' t Rel l A ys) : LR C W.heap.size s W' t Rel l A ys :=
  ⟨h.len, h.rel, h.row.keep (fun _ _ => rfl) fun _ hk => hk.of0 h0, fun y hy => (h.ins y hy).keep (fun _ _ => rfl) fun _ hk => hk.of0 h0⟩
/-- What a copy comes to. -/
def CpPost (t : Uy) (x : DT) (w : World) (e : Ending) (w' : World) : Prop := OnePost C0 (fun _ => True) (USm t) t x () w e w'
end Go.Proofs.YthijagpnpcpcbaaGreat
namespace Go.Proofs.YthijagpnpcpcbaaGreat
open Go.RowKit Go.Sort
theorem uI3 : (Tryz.prog.info? 24).map (·.size) = some 3 := by kernel_rfl
theorem uI6 : (Tryz.prog.info? 79).map (·.size) = some 6 := by kernel_rfl
theorem uIF : (Tryz.prog.info? 22).map (·.size) = some 1 := by kernel_rfl
set_option maxRecDepth 100000 in
set_option maxHeartbeats 4000000 in
theorem copyType_step (N : Nat) (ih : ∀ (x : DT) (S0 : Nat → Prop) (w : World), x.n < N → x.n ≤ 1048576 → UIn S0 w .field x → (∀ k, S0 k → k < w.heap.size) → Calls Tryz.prog 84 #[.agg x.c.toArray] w (CpPost .field x w))
    (x : DT) (S0 : Nat → Prop) (w : World) (hn : x.n ≤ N) (hn2 : x.n ≤ 1048576) (hx : UIn S0 w .type x) (hS : ∀ k, S0 k → k < w.heap.size) : Calls Tryz.prog 58 #[.agg x.c.toArray] w (CpPost .type x w) := by
  obtain ⟨k, sc, A, cap, l, rfl, ok, rl, il⟩ := hx.typ
  have hnn : nL l + 1 ≤ N := by rw [DT.n_node] at hn; simpa [Nat.add_comm] using hn
  have hln : l.length ≤ 1048576 := by have h1 := len_nL l; rw [DT.n_node] at hn2; simp at hn2; omega
  have hnl : nL l ≤ 1048576 := by rw [DT.n_node] at hn2; simp at hn2; omega
  show Calls _ _ #[.agg #[.int .i64 k, .int .i64 sc, .slice A l.length cap]] _ _
  obtain ⟨w1, hw1⟩ : ∃ w1, w.alloc (.cells #[.int .i64 k, .int .i64 sc, .slice A l.length cap] 24) = w1 := ⟨_, rfl⟩
  obtain ⟨w2, hw2⟩ : ∃ w2, w1.alloc (.cells #[.int .i64 0, .int .i64 0, .slice none 0 0] 24) = w2 := ⟨_, rfl⟩
  have hz1 : w1.heap.size = w.heap.size + 1 := by rw [← hw1]; simp
  have hz2 : w2.heap.size = w.heap.size + 2 := by rw [← hw2]; simp [hz1]
  have hb1 : Bk w2 w.heap.size [.int .i64 k, .int .i64 sc, .slice A l.length cap] 24 := by rw [← hw2, ← hw1]; exact (Bk.new w [_, _, _] _).alloc _
  have hb2 : Bk w2 (w.heap.size + 1) [.int .i64 0, .int .i64 0, .slice none 0 0] 24 := by rw [← hw2, ← hz1]; exact Bk.new w1 [_, _, _] _
  have hbw : Below w.heap.size w w2 := by rw [← hw2, ← hw1]; exact ((Below.refl _ _).alloc (Nat.le_refl _) _).alloc (by simp) _
  have hcall : Hid (Calls Tryz.prog 83 #[.slice A l.length cap, .func (.func 84) #[] #[]] w2 fun e w3 => ∃ (A2 : Option Addr) (ys : List DT), e = .returned (.slice A2 l.length l.length) ∧ Fr C0 () w () w3 ∧ LR C0 w2.heap.size () w3 .field (USm .field) l A2 ys ∧
      Bk w3 w.heap.size [.int .i64 k, .int .i64 sc, .slice A l.length cap] 24 ∧ Bk w3 (w.heap.size + 1) [.int .i64 0, .int .i64 0, .slice none 0 0] 24) := by
    refine (listFld_any C0 (fun _ _ => True) (USm .field) 84 #[] (enters_of Tryz.func84 (by kernel_rfl) rfl) l A cap S0 () w2 trivial trivial (fun k hk => ⟨Nat.lt_of_lt_of_le (hS k hk) hbw.size, fun e => e⟩) (rl.keep (fun k hk => hbw.block k (hS k hk)) fun _ h => h) (fun x hx => (il x hx).keep (fun k hk => hbw.block k (hS k hk)) fun _ h => h) hln fun j x s W' hx _ hf => ?_).mono ?_
    · have hb' := hbw.trans (hf.to0.mono hbw.size)
      have hxn := n_mem (mem_of_get? hx)
      exact ih x S0 W' (by omega) (by omega) ((il x (mem_of_get? hx)).keep (fun k hk => hb'.block k (hS k hk)) fun _ h => h) fun k hk => Nat.lt_of_lt_of_le (hS k hk) hb'.size
    · rintro e w3 hp
      obtain ⟨A2, ys, s, rfl, hf, _, hr⟩ := hp.lr
      exact ⟨A2, ys, rfl, (Fr.of0 hbw).trans hf, hr, hb1.fr hf (fun e => e), hb2.fr hf fun e => e⟩
  have Hb1 := Lib.hid hb1
  clear hn hn2 hx rl il hS ih hnn hln hnl hb1 hb2 hbw
  have i3 := Lib.hid uI3
  have i1 := Lib.hid uIF
  go_enter Tryz.func58, Tryz.ntmps58
  go_upto_region 1 with (fail)
  go_wp2_with (first | (refine wpList_load_one rfl 22 _ rfl _ Tryz.underlying22 rfl _ _ _ _ _ rfl Hb1.out rfl ?_) | (go_at_call 83; refine hcall.out.mono ?_; rintro e w3 ⟨A2, ys, rfl, hf, hr, k1, k2⟩) | (refine wpList_store_blk rfl 22 _ _ rfl _ _ _ _ [.slice A2 l.length l.length] rfl rfl k1 i1.out (by simp) rfl ?_; intro w4 hw4) | (refine wpList_load_part rfl 24 _ rfl _ Tryz.underlying24 rfl _ _ _ _ [.int .i64 k, .int .i64 sc, .slice A2 l.length l.length] rfl hw4.bk i3.out rfl ?_) | (refine wpList_store_blk rfl 24 _ _ rfl _ _ _ _ [.int .i64 k, .int .i64 sc, .slice A2 l.length l.length] rfl rfl (k2.wrt hw4 (by omega)) i3.out (by simp) rfl ?_; intro w5 hw5))
  refine bodyPost_blk rfl (w.heap.size + 1) [.int .i64 k, .int .i64 sc, .slice A2 l.length l.length] _ rfl _ hw5.bk Tryz.underlying24 rfl i3.out rfl ?_
  have hf5 := (hf.wrt hw4 (Nat.le_refl _) fun e => e).wrt hw5 (by omega) fun e => e
  have hr5 := (hr.wrt hw4 (Nat.zero_le _) (by omega)).wrt hw5 (Nat.zero_le _) (by omega)
  exact ⟨.node [.int .i64 k, .int .i64 sc, .slice A2 l.length l.length] [ys], (), rfl, hf5, trivial, UIn.mkK rfl rfl ⟨k, sc, _, rfl, ok⟩ ⟨hr5.kr (by omega) rfl, trivial⟩, USm.mkK rfl (fun j hj => by match j with | 0 => rfl | 1 => rfl | 2 => exact absurd (by simp [Uy.sl]) (hj .field) | j + 3 => rfl) ⟨hr5.usl, trivial⟩⟩
set_option maxRecDepth 100000 in
set_option maxHeartbeats 4000000 in
theorem copyFld_any : ∀ (N : Nat) (x : DT) (S0 : Nat → Prop) (w : World), x.n < N → x.n ≤ 1048576 → UIn S0 w .field x → (∀ k, S0 k → k < w.heap.size) → Calls Tryz.prog 84 #[.agg x.c.toArray] w (CpPost .field x w) := by
  intro N
  induction N with
  | zero => intro x S0 w h; omega
  | succ N ih =>
    intro x S0 w hn hn2 hx hS
    obtain ⟨id, k, sc, nm, nd, A, cap, l, rfl, ok, rl, il⟩ := hx.fld
    show Calls _ _ #[.agg #[.int .i64 id, .string nm, .bool nd, .int .i64 k, .int .i64 sc, .slice A l.length cap]] _ _
    obtain ⟨w1, hw1⟩ : ∃ w1, w.alloc (.cells #[.int .i64 id, .string nm, .bool nd, .int .i64 k, .int .i64 sc, .slice A l.length cap] 79) = w1 := ⟨_, rfl⟩
    obtain ⟨w2, hw2⟩ : ∃ w2, w1.alloc (.cells #[.int .i64 0, .string ⟨#[]⟩, .bool false, .int .i64 0, .int .i64 0, .slice none 0 0] 79) = w2 := ⟨_, rfl⟩
    have hz1 : w1.heap.size = w.heap.size + 1 := by rw [← hw1]; simp
    have hz2 : w2.heap.size = w.heap.size + 2 := by rw [← hw2]; simp [hz1]
    have hb1 : Bk w2 w.heap.size [.int .i64 id, .string nm, .bool nd, .int .i64 k, .int .i64 sc, .slice A l.length cap] 79 := by rw [← hw2, ← hw1]; exact (Bk.new w [_, _, _, _, _, _] _).alloc _
    have hb2 : Bk w2 (w.heap.size + 1) [.int .i64 0, .string ⟨#[]⟩, .bool false, .int .i64 0, .int .i64 0, .slice none 0 0] 79 := by rw [← hw2, ← hz1]; exact Bk.new w1 [_, _, _, _, _, _] _
    have hbw : Below w.heap.size w w2 := by rw [← hw2, ← hw1]; exact ((Below.refl _ _).alloc (Nat.le_refl _) _).alloc (by simp) _
    have hty : UIn S0 w2 .type (.node [.int .i64 k, .int .i64 sc, .slice A l.length cap] [l]) := by
      refine UIn.keep (S := S0) (w := w) (UIn.mkK rfl rfl ⟨k, sc, _, rfl, ok.2.2⟩ ⟨⟨A, cap, rfl, rl, il⟩, trivial⟩) (fun k hk => hbw.block k (hS k hk)) fun _ h => h
    have hcall : Hid (Calls Tryz.prog 58 #[.agg #[.int .i64 k, .int .i64 sc, .slice A l.length cap]] w2 fun e w3 => ∃ (A2 : Option Addr) (cap2 : Nat) (ys : List DT), e = .returned (.agg #[.int .i64 k, .int .i64 sc, .slice A2 ys.length cap2]) ∧ Fr C0 () w () w3 ∧ UIn (Nw C0 w2.heap.size () w3) w3 .type (.node [.int .i64 k, .int .i64 sc, .slice A2 ys.length cap2] [ys]) ∧ USL .field l ys ∧
        Bk w3 w.heap.size [.int .i64 id, .string nm, .bool nd, .int .i64 k, .int .i64 sc, .slice A l.length cap] 79 ∧ Bk w3 (w.heap.size + 1) [.int .i64 0, .string ⟨#[]⟩, .bool false, .int .i64 0, .int .i64 0, .slice none 0 0] 79) := by
      rw [DT.n_node] at hn hn2
      refine (copyType_step N ih _ S0 w2 (by rw [DT.n_node]; omega) (by rw [DT.n_node]; omega) hty fun k hk => Nat.lt_of_lt_of_le (hS k hk) hbw.size).mono ?_
      rintro e w3 ⟨y, s, rfl, hf, _, hy, hs⟩
      obtain ⟨k2, sc2, A2, cap2, ys, rfl, ok2, ry, iy⟩ := hy.typ
      obtain ⟨rfl, rfl, hus⟩ := hs.typ
      exact ⟨A2, cap2, ys, rfl, (Fr.of0 hbw).trans hf, hy, hus, hb1.fr hf (fun e => e), hb2.fr hf fun e => e⟩
    have Hb1 := Lib.hid hb1
    clear hn hn2 hx rl il hS ih hty hb1 hb2 hbw
    have i3 := Lib.hid uI3
    have i6 := Lib.hid uI6
    go_enter Tryz.func84, Tryz.ntmps84
    go_upto_region 1 with (fail)
    go_wp2_with (first | (refine wpList_load_part rfl 24 _ rfl _ Tryz.underlying24 rfl _ _ _ _ [.int .i64 k, .int .i64 sc, .slice A l.length cap] rfl Hb1.out i3.out rfl ?_) | (go_at_call 58; refine hcall.out.mono ?_; rintro e w3 ⟨A2, cap2, ys, rfl, hf, hy, hs, k1, k2⟩) | (refine wpList_store_blk rfl 24 _ _ rfl _ _ _ _ [.int .i64 k, .int .i64 sc, .slice A2 ys.length cap2] rfl rfl k1 i3.out (by simp) rfl ?_; intro w4 hw4) | (refine wpList_load_part rfl 79 _ rfl _ Tryz.underlying79 rfl _ _ _ _ [.int .i64 id, .string nm, .bool nd, .int .i64 k, .int .i64 sc, .slice A2 ys.length cap2] rfl hw4.bk i6.out rfl ?_) | (refine wpList_store_blk rfl 79 _ _ rfl _ _ _ _ [.int .i64 id, .string nm, .bool nd, .int .i64 k, .int .i64 sc, .slice A2 ys.length cap2] rfl rfl (k2.wrt hw4 (by omega)) i6.out (by simp) rfl ?_; intro w5 hw5))
    refine bodyPost_blk rfl (w.heap.size + 1) [.int .i64 id, .string nm, .bool nd, .int .i64 k, .int .i64 sc, .slice A2 ys.length cap2] _ rfl _ hw5.bk Tryz.underlying79 rfl i6.out rfl ?_
    have hf5 := (hf.wrt hw4 (Nat.le_refl _) fun e => e).wrt hw5 (by omega) fun e => e
    have hy5 := ((hy.wrt hw4 (Nat.zero_le _) (by omega)).wrt hw5 (Nat.zero_le _) (by omega)).lower (show w.heap.size ≤ w2.heap.size by omega)
    obtain ⟨r3, i3'⟩ : DRow (Nw C0 w.heap.size () w5) w5 6 A2 cap2 ys ∧ ∀ x, x ∈ ys → UIn (Nw C0 w.heap.size () w5) w5 .field x := by
      cases hy5 with
      | mk _ _ _ hl h1 hok hk hr hx =>
        obtain ⟨A3, cap3, e, r3⟩ := hr 0 2 .field ys rfl rfl
        simp at e
        obtain ⟨rfl, rfl⟩ := e
        exact ⟨r3, hx 0 2 .field ys rfl rfl⟩
    exact ⟨.node [.int .i64 id, .string nm, .bool nd, .int .i64 k, .int .i64 sc, .slice A2 ys.length cap2] [ys], (), rfl, hf5, trivial, UIn.mkK rfl rfl ⟨id, nm, nd, k, sc, _, rfl, ok⟩ ⟨⟨A2, cap2, rfl, r3, i3'⟩, trivial⟩, USm.mkK rfl (fun j hj => by match j with | 0 => rfl | 1 => rfl | 2 => rfl | 3 => rfl | 4 => rfl | 5 => exact absurd (by simp [Uy.sl]) (hj .field) | j + 6 => rfl) ⟨hs, trivial⟩⟩
/-- copyType. -/
theorem copyType_any (x : DT) (S0 : Nat → Prop) (w : World) (hn2 : x.n ≤ 1048576) (hx : UIn S0 w .type x) (hS : ∀ k, S0 k → k < w.heap.size) : Calls Tryz.prog 58 #[.agg x.c.toArray] w (CpPost .type x w) :=
  copyType_step x.n (fun y S w h => copyFld_any x.n y S w h) x S0 w (Nat.le_refl _) hn2 hx hS
end Go.Proofs.YthijagpnpcpcbaaGreat
namespace Go.Proofs.YthijagpnpcpcbaaGreat
open Go.RowKit Go.Sort
theorem uI5 : (Tryz.prog.info? 27).map (·.size) = some 5 := by kernel_rfl
theorem uIV : (Tryz.prog.info? 25).map (·.size) = some 1 := by kernel_rfl
set_option maxRecDepth 100000 in
set_option maxHeartbeats 4000000 in
theorem vCopyU_any : ∀ (N : Nat) (x : DT) (S0 : Nat → Prop) (w : World), x.n < N → x.n ≤ 1048576 → UIn S0 w .value x → (∀ k, S0 k → k < w.heap.size) → Calls Tryz.prog 59 #[.agg x.c.toArray] w (CpPost .value x w) := by
  intro N
  induction N with
  | zero => intro x S0 w h; omega
  | succ N ih =>
    intro x S0 w hN hN2 hx hS
    obtain ⟨k, vn, sc, vs, A, cap, l, rfl, ok, rl, il⟩ := hx.val
    rw [DT.n_node] at hN hN2
    have hnn : nL l < N := by simp at hN; omega
    have hnl : nL l ≤ 1048576 := by simp at hN2; omega
    have hln := Nat.le_trans (len_nL l) hnl
    obtain ⟨i0, hi, hrest⟩ := Option.map_eq_some_iff.1 infoVal_u
    simp only [Prod.mk.injEq] at hrest
    obtain ⟨hz0, isz, iby⟩ := hrest
    obtain ⟨z, iz, hzs⟩ := Option.map_eq_some_iff.1 hz0
    obtain ⟨n, hlen⟩ : ∃ n, l.length = n := ⟨_, rfl⟩
    show Calls _ _ #[.agg #[.int .i64 k, .int .i64 vn, .int .i64 sc, .string vs, .slice A l.length cap]] _ _
    rw [hlen] at hln ⊢
    obtain ⟨w1, hw1⟩ : ∃ w1, w.alloc (.cells #[.int .i64 k, .int .i64 vn, .int .i64 sc, .string vs, .slice A n cap] 27) = w1 := ⟨_, rfl⟩
    obtain ⟨w2, hw2⟩ : ∃ w2, w1.alloc (.cells #[.int .i64 0, .int .i64 0, .int .i64 0, .string ⟨#[]⟩, .slice none 0 0] 27) = w2 := ⟨_, rfl⟩
    have hz1 : w1.heap.size = w.heap.size + 1 := by rw [← hw1]; simp
    have hz2 : w2.heap.size = w.heap.size + 2 := by rw [← hw2]; simp [hz1]
    have hb1 : Bk w2 w.heap.size [.int .i64 k, .int .i64 vn, .int .i64 sc, .string vs, .slice A n cap] 27 := by rw [← hw2, ← hw1]; exact (Bk.new w [_, _, _, _, _] _).alloc _
    have hb2 : Bk w2 (w.heap.size + 1) [.int .i64 0, .int .i64 0, .int .i64 0, .string ⟨#[]⟩, .slice none 0 0] 27 := by rw [← hw2, ← hz1]; exact Bk.new w1 [_, _, _, _, _] _
    have hbw : Below w.heap.size w w2 := by rw [← hw2, ← hw1]; exact ((Below.refl _ _).alloc (Nat.le_refl _) _).alloc (by simp) _
    have Hl := Lib.hid (rl.keep (fun k hk => hbw.block k (hS k hk)) fun _ h => h)
    have Hin : Hid (∀ x, x ∈ l → UIn S0 w2 .value x) := fun x hx => (il x hx).keep (fun k hk => hbw.block k (hS k hk)) fun _ h => h
    have HS : Hid (∀ k, S0 k → k < w2.heap.size) := fun k hk => Nat.lt_of_lt_of_le (hS k hk) hbw.size
    have Hone : Hid (∀ (j : Nat) x W, l[j]? = some x → Below w2.heap.size w2 W → Calls Tryz.prog 59 #[.agg x.c.toArray] W (CpPost .value x W)) := fun j x W hx hb => by
      have hxn := n_mem (mem_of_get? hx)
      exact ih x S0 W (by omega) (by omega) ((Hin.out x (mem_of_get? hx)).keep (fun k hk => hb.block k (HS.out k hk)) fun _ h => h) fun k hk => Nat.lt_of_lt_of_le (HS.out k hk) hb.size
    have Hlen := Lib.hid hlen
    have Hb1 := Lib.hid hb1
    have Hb2 := Lib.hid hb2
    have Hbw := Lib.hid hbw
    clear rl il hS hx hN hN2 hnn hnl hlen hb1 hb2 hbw ih
    have i5 := Lib.hid uI5
    have i1 := Lib.hid uIV
    go_enter Tryz.func59, Tryz.ntmps59
    go_upto_region 1 with (fail)
    go_wp2_with (refine wpList_load_one rfl 25 _ rfl _ Tryz.underlying25 rfl _ _ _ _ _ rfl Hb1.out rfl ?_)
    go_loopw [3, 9] (fun ov i wr => ∃ (j : Nat) (ys : List DT) (s : Unit), j ≤ n ∧ i = .int .i64 j ∧ LsI C0 (fun _ _ => True) (USm .value) .value 27 l () w2 j ys s ov wr) (fun _ i _ => n - (intOf i).toNat)
    case atStart => exact ⟨0, [], (), Nat.zero_le _, rfl, LsI.start trivial trivial⟩
    case round =>
      obtain ⟨j, ys, s, hj, rfl, hI⟩ := hrel
      have HI := Lib.hid hI
      have hsrc : ∀ k, S0 k → wr.heap[k]? = w2.heap[k]? := fun k hk => hI.fr.block k (HS.out k hk) fun e => e
      by_cases hlt : j < n
      · obtain ⟨x, ad, hx, rfl, hb, hat⟩ := (Hl.out.keep hsrc (fun _ h => h)).get (show j < l.length by rw [Hlen.out]; exact hlt)
        have hxi := (Hin.out x (mem_of_get? hx))
        have hx6 := hxi.len
        have HiE : Hid ((Tryz.prog.info? 27).map (·.size) = some x.c.length) := by show _ = _; rw [hx6, hi]; simp [isz, Uy.sz]
        have HiE2 : Hid ((Tryz.prog.info? 27).map (·.size) = some x.c.toArray.size) := by show _ = _; rw [List.size_toArray, hx6, hi]; simp [isz, Uy.sz]
        have Hz : Hid (x.c.toArray.size = 5) := by show _ = _; rw [List.size_toArray, hx6]; rfl
        have H1 := Lib.hid (all_one hxi.ones)
        have Hat := Lib.hid (at_add hat)
        obtain ⟨W2, hW2⟩ : ∃ W2, wr.alloc (.cells x.c.toArray 27) = W2 := ⟨_, rfl⟩
        have Hcell : Hid (∀ j u, x.c[j]? = some u → W2.cell? ((⟨wr.heap.size, 0, none⟩ : Addr).add j) = some u) := by show ∀ j u, _ → _; rw [← hW2]; exact new_cellsT wr x.c 27
        have hbW2 : Below wr.heap.size wr W2 := by rw [← hW2]; exact bel1 _ _
        have hcall := Hone.out j x W2 hx (hI.fr.to0.trans (hbW2.mono hI.fr.size))
        have Hx := Lib.hid hx
        have HW2 := Lib.hid hW2
        have HbW2 := Lib.hid hbW2
        have h3 : Hid (j + 1 ≤ maxLen) := by show _ ≤ _; unfold maxLen; omega
        have h4 : Hid ((j + 1) * 64 ≤ 140737488355328) := by show _ ≤ _; omega
        have hcallH : Hid (Calls Tryz.prog 59 #[.agg x.c.toArray] W2 fun e w3 => ∃ (y : DT) (s' : Unit), e = .returned (.agg y.c.toArray) ∧ Hid (Fr C0 () W2 s' w3) ∧ Hid (UIn (Nw C0 W2.heap.size s' w3) w3 .value y) ∧ Hid (USm .value x y) ∧ Hid (y.c.toArray.size = 5) ∧ Hid (∀ u, u ∈ y.c → u.oneCell' = true) ∧ Hid (w3.ownsRow w2.heap.size 27 5 u3 j (ys.flatMap DT.c)) ∧ Hid (∀ o, w2.heap.size ≤ (w3.alloc o).heap.size)) := by
          refine hcall.mono ?_
          rintro e w3 ⟨y, s', rfl, hf, hq, hy, hr⟩
          have hb0 := hbW2.size
          have hfz := hf.size
          have hw0 := hI.fr.size
          refine ⟨y, s', rfl, hf, hy, hr, ?_, hy.ones, own_fr hI.own (by omega) fun k hk => ?_, fun o => by simp; omega⟩
          · show _ = _
            rw [List.size_toArray, hy.len]; rfl
          · have hl := hI.own.lt k hk
            exact (hf.block k (by omega) (hI.ne k hk)).trans (hbW2.block k hl.2)
        clear hat hxi hx6 hx hW2 hI hsrc hbW2 hcall
        go_upto_region 5 with (first | (refine wpList_load_st rfl 27 _ rfl _ Tryz.underlying27 rfl (ad.add (j * 5)) x.c HiE.out rfl Hat.out ?_) | (refine wpList_store_st rfl 27 _ _ rfl _ x.c.toArray HiE2.out Hz.out.symm H1.out rfl rfl ?_))
        rw [HW2.out]
        go_wp2_with (first | (refine wpList_load_st rfl 27 _ rfl _ Tryz.underlying27 rfl ⟨wr.heap.size, 0, none⟩ x.c HiE.out rfl Hcell.out ?_) | (go_at_call 59; refine hcallH.out.mono ?_; rintro e w3 ⟨y, s', rfl, Hf, Hy, Hr, Hzy, H1y, Hown3, Hz3⟩) | (refine wpList_one_st rfl 25 27 _ rfl i0 Tryz.underlying25 hi _ iz y.c.toArray (isz.trans Hzy.out.symm) (hzs.trans Hzy.out.symm) (by rw [Hzy.out]; decide) (by rw [Hzy.out]; decide) rfl ?_) | (at_builtin; refine wpList_append_row _ rfl _ _ 25 rfl w2.heap.size 27 i0 _ 5 64 Tryz.underlying25 hi iz isz iby hzs (by decide) u3 _ _ rfl (Hown3.out.alloc _) (some ⟨w3.heap.size, 0, none⟩) 1 1 y.c rfl (by rw [← List.size_toArray, Hzy.out]) (new_srcK _ _ _) H1y.out h3.out h4.out (Hz3.out _) ?_; intro ov' w4 hown4 hg4 hm4))
        have Hst' := Lib.hid (HI.out.step trivial Hx.out HbW2.out Hf.out trivial Hy.out Hr.out hown4 hg4 hm4)
        clear hown4
        go_wp2_with fail
        go_roundw
        case rel => exact ⟨j + 1, ys ++ [y], s', by omega, by simp, Hst'.out⟩
        case measure => simp [intOf]; omega
      · obtain rfl : j = n := by omega
        have hzo := hI.own
        obtain ⟨A2, cap2, rfl, hrow, hnil⟩ := own_structs hzo hI.len (fun x hx => (hI.ins x hx).len)
        have hc1 := hrow.1
        rw [hI.len] at hc1
        have hclip := Lib.hid (clipVal_u A2 j cap2 wr hc1 hrow.2.1 hnil)
        have hfin := Lib.hid (HI.out.fin Hlen.out)
        have k1 : Bk wr w.heap.size [.int .i64 k, .int .i64 vn, .int .i64 sc, .string vs, .slice A j cap] 27 := Hb1.out.fr hI.fr fun e => e
        have k2 : Bk wr (w.heap.size + 1) [.int .i64 0, .int .i64 0, .int .i64 0, .string ⟨#[]⟩, .slice none 0 0] 27 := Hb2.out.fr hI.fr fun e => e
        have K1 := Lib.hid k1
        have K2 := Lib.hid k2
        clear hzo hrow hnil hI hc1 k1 k2
        go_wp2_with (first | (go_at_call 85; refine hclip.out.mono ?_; rintro e w' ⟨rfl, rfl⟩) | (refine wpList_store_blk rfl 25 _ _ rfl _ _ _ _ [.slice A2 j j] rfl rfl K1.out i1.out (by simp) rfl ?_; intro w4 hw4) | (refine wpList_load_part rfl 27 _ rfl _ Tryz.underlying27 rfl _ _ _ _ [.int .i64 k, .int .i64 vn, .int .i64 sc, .string vs, .slice A2 j j] rfl hw4.bk i5.out rfl ?_) | (refine wpList_store_blk rfl 27 _ _ rfl _ _ _ _ [.int .i64 k, .int .i64 vn, .int .i64 sc, .string vs, .slice A2 j j] rfl rfl (K2.out.wrt hw4 (by omega)) i5.out (by simp) rfl ?_; intro w5 hw5))
        refine bodyPost_blk rfl (w.heap.size + 1) [.int .i64 k, .int .i64 vn, .int .i64 sc, .string vs, .slice A2 j j] _ rfl _ hw5.bk Tryz.underlying27 rfl i5.out rfl ?_
        obtain ⟨A3, ys', s3, he, hf, _, hr⟩ := hfin.out.lr
        rw [Hlen.out] at he
        cases he
        have hf5 := (((Fr.of0 Hbw.out).trans hf).wrt hw4 (Nat.le_refl _) fun e => e).wrt hw5 (by omega) fun e => e
        have hr5 := (hr.wrt hw4 (Nat.zero_le _) (by omega)).wrt hw5 (Nat.zero_le _) (by omega)
        exact ⟨.node [.int .i64 k, .int .i64 vn, .int .i64 sc, .string vs, .slice A2 j j] [ys'], (), rfl, hf5, trivial, UIn.mkK rfl rfl ⟨k, vn, sc, vs, _, rfl, ok⟩ ⟨hr5.kr (by omega) (by rw [Hlen.out]; rfl), trivial⟩, USm.mkK rfl (fun j hj => by match j with | 0 => rfl | 1 => rfl | 2 => rfl | 3 => rfl | 4 => exact absurd (by simp [Uy.sl]) (hj .value) | j + 5 => rfl) ⟨hr5.usl, trivial⟩⟩
end Go.Proofs.YthijagpnpcpcbaaGreat

