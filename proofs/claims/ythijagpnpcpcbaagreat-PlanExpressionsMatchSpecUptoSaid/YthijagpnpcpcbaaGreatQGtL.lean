/-
  plan.list over structs, at any function value with a state.
  Plain data: what a mapper makes of trees, and what it visits. Trees put together anew.
  plan.list over values and types.
-/
import Derived.Test.YthijagpnpcpcbaaGreatQGtJ
import Derived.Shelf.Abstract
namespace Go.Proofs.YthijagpnpcpcbaaGreat
open Go.RowKit Go.Sort
/-- A state of a function value: what it says of a world, and which blocks are its own. -/
structure Cl (σ : Type) where
  St : σ → World → Prop
  O : σ → Nat → Prop
  lt : ∀ s W, St s W → ∀ k, O s k → k < W.heap.size
  B : Nat
  sh : Nat → Prop := fun k => k < B
  shB : ∀ k, sh k → k < B := by intro k h; exact h
  ob : ∀ s k, O s k → B ≤ k
  base : ∀ s W, St s W → B ≤ W.heap.size
  keep : ∀ s W W', St s W → (∀ k, O s k ∨ k < B → W'.heap[k]? = W.heap[k]?) → W.heap.size ≤ W'.heap.size → St s W'
/-- What changes: the state's own blocks. -/
structure Fr {σ : Type} (C : Cl σ) (s : σ) (W : World) (s' : σ) (W' : World) : Prop where
  os : W'.os = W.os
  tape : W'.tape = W.tape
  output : W'.output = W.output
  size : W.heap.size ≤ W'.heap.size
  block : ∀ k, k < W.heap.size → ¬ C.O s k → W'.heap[k]? = W.heap[k]?
  own : ∀ k, C.O s' k → C.O s k ∨ W.heap.size ≤ k
  st : C.St s' W'
/-- New blocks, or those of the source, that are not the state's. -/
def Nw {σ : Type} (C : Cl σ) (b : Nat) (s : σ) (W : World) (k : Nat) : Prop := (C.sh k ∨ b ≤ k) ∧ k < W.heap.size ∧ ¬ C.O s k
theorem Fr.refl {σ : Type} {C : Cl σ} {s : σ} {W : World} (h : C.St s W) : Fr C s W s W := ⟨rfl, rfl, rfl, Nat.le_refl _, fun _ _ _ => rfl, fun _ h => .inl h, h⟩
theorem Fr.trans {σ : Type} {C : Cl σ} {s s' s'' : σ} {W W' W'' : World} (h : Fr C s W s' W') (h' : Fr C s' W' s'' W'') : Fr C s W s'' W'' where
  os := h'.os.trans h.os
  tape := h'.tape.trans h.tape
  output := h'.output.trans h.output
  size := Nat.le_trans h.size h'.size
  block := fun k hk hn => by
    have hz := h.size
    refine (h'.block k (by omega) fun e => ?_).trans (h.block k hk hn)
    rcases h.own k e with e | e
    · exact hn e
    · omega
  own := fun k hk => by
    have hz := h.size
    rcases h'.own k hk with e | e
    · exact h.own k e
    · exact .inr (by omega)
  st := h'.st
theorem Fr.below {σ : Type} {C : Cl σ} {s : σ} {W W' : World} (h : C.St s W) (hb : Below W.heap.size W W') : Fr C s W s W' :=
  ⟨hb.os, hb.tape, hb.output, hb.size, fun k hk _ => hb.block k hk, fun _ h => .inl h, C.keep s W W' h (fun k hk => hb.block k (hk.elim (C.lt s W h k) fun e => Nat.lt_of_lt_of_le e (C.base s W h))) hb.size⟩
theorem own_fr {w w' : World} {B e size n : Nat} {v : Value} {xs : List Value} (h : w.ownsRow B e size v n xs) (_hz : w.heap.size ≤ w'.heap.size) (hb : ∀ k, v.ownBlock = some k → w'.heap[k]? = w.heap[k]?) : w'.ownsRow B e size v n xs := by
  refine ⟨h.1, ?_⟩
  rcases h.2 with hn | ⟨g, cap, cur, e1, e2, e3, rest⟩
  · exact .inl hn
  · exact .inr ⟨g, cap, cur, e1, e2, (hb g (by rw [e1]; rfl)).trans e3, rest⟩
theorem new_srcK (w : World) (cs : Array Value) (t : TypeId) : SrcAt (w.alloc (.cells cs t)) (some ⟨w.heap.size, 0, none⟩) cs.toList := .inr ⟨_, rfl, fun j u hu => by
  have hadd : (⟨w.heap.size, 0, none⟩ : Addr).add j = ⟨w.heap.size, j, none⟩ := by unfold Addr.add; split <;> simp_all
  rw [hadd, cell_new, ← Array.getElem?_toList]
  exact hu⟩
theorem Nw.at {σ : Type} {C : Cl σ} {b : Nat} {s : σ} {W : World} {k : Nat} (h : Nw C b s W k) : k < C.B ∨ b ≤ k := h.1.imp (C.shB k) id
/-- What has been made stays. -/
theorem Nw.fr {σ : Type} {C : Cl σ} {b : Nat} {s s' : σ} {W W' : World} (hf : Fr C s W s' W') {k : Nat} (h : Nw C b s W k) : Nw C b s' W' k := by
  have hz := hf.size
  obtain ⟨h1, h2, h3⟩ := h
  refine ⟨h1, by omega, fun e => ?_⟩
  rcases hf.own k e with e | e
  · exact h3 e
  · omega
theorem UIn.fr {σ : Type} {C : Cl σ} {b : Nat} {s s' : σ} {W W' : World} {t : Uy} {y : DT} (hf : Fr C s W s' W') (h : UIn (Nw C b s W) W t y) : UIn (Nw C b s' W') W' t y :=
  h.keep (fun k hk => hf.block k hk.2.1 hk.2.2) fun _ hk => hk.fr hf
theorem DRow.fr {σ : Type} {C : Cl σ} {b sz cap : Nat} {A : Option Addr} {l : List DT} {s s' : σ} {W W' : World} (hf : Fr C s W s' W') (h : DRow (Nw C b s W) W sz A cap l) : DRow (Nw C b s' W') W' sz A cap l :=
  h.keep (fun k hk => hf.block k hk.2.1 hk.2.2) fun _ hk => hk.fr hf
theorem Fr.src {σ : Type} {C : Cl σ} {s s' : σ} {W W' : World} (hst : C.St s W) (hf : Fr C s W s' W') (k : Nat) (hk : k < C.B) : W'.heap[k]? = W.heap[k]? :=
  hf.block k (Nat.lt_of_lt_of_le hk (C.base s W hst)) fun e => absurd (C.ob s k e) (by omega)
/-- What stands at the head of list's loop. -/
structure LsI {σ : Type} (C : Cl σ) (Sq : Nat → σ → Prop) (Rel : DT → DT → Prop) (t : Uy) (T : TypeId) (l : List DT) (s0 : σ) (w : World) (j : Nat) (ys : List DT) (s : σ) (ov : Value) (wr : World) : Prop where
  len : ys.length = j
  own : wr.ownsRow w.heap.size T t.sz ov j (ys.flatMap DT.c)
  fr : Fr C s0 w s wr
  sq : Sq j s
  ins : ∀ y, y ∈ ys → UIn (fun k => Nw C w.heap.size s wr k ∧ some k ≠ ov.ownBlock) wr t y
  rel : ∀ (i : Nat) x y, l[i]? = some x → ys[i]? = some y → Rel x y
  ne : ∀ k, ov.ownBlock = some k → ¬ C.O s k
theorem LsI.start {σ : Type} {C : Cl σ} {Sq : Nat → σ → Prop} {Rel : DT → DT → Prop} {t : Uy} {T : TypeId} {l : List DT} {s0 : σ} {w : World} (h0 : Sq 0 s0) (hst : C.St s0 w) : LsI C Sq Rel t T l s0 w 0 [] s0 (.slice none 0 0) w :=
  ⟨rfl, World.ownsRow_nil _ _ _ _, Fr.refl hst, h0, (fun y h => by cases h), (fun i x y _ h => by simp at h), fun k h => by cases h⟩
theorem LsI.step {σ : Type} {C : Cl σ} {Sq : Nat → σ → Prop} {Rel : DT → DT → Prop} {t : Uy} {T : TypeId} {l : List DT} {s0 s s' : σ} {w wr W2 w3 w4 : World} {j : Nat} {ys : List DT} {ov ov' : Value} {x y : DT} {o : Obj} (hst : C.St s0 w) (h : LsI C Sq Rel t T l s0 w j ys s ov wr) (hx : l[j]? = some x)
    (hW2 : Below wr.heap.size wr W2) (hf : Fr C s W2 s' w3) (hq : Sq (j + 1) s') (hy : UIn (Nw C W2.heap.size s' w3) w3 t y) (hr : Rel x y) (hown : w4.ownsRow w.heap.size T t.sz ov' (j + 1) (ys.flatMap DT.c ++ y.c)) (hg : (w3.alloc o).grownBy w4 ov.ownBlock) (hm : Moved (w3.alloc o) ov ov') :
    LsI C Sq Rel t T l s0 w (j + 1) (ys ++ [y]) s' ov' w4 := by
  have z0 := h.fr.size
  have z1 := hW2.size
  have z2 := hf.size
  have z3 : w3.heap.size + 1 ≤ w4.heap.size := by have := hg.size; simpa using this
  have hol := h.own.lt
  have hnO : ∀ k, ov.ownBlock = some k → ¬ C.O s' k := fun k hk e => by
    have := hol k hk
    rcases hf.own k e with e | e
    · exact h.ne k hk e
    · omega
  have h43 : ∀ k, k < w3.heap.size → some k ≠ ov.ownBlock → w4.heap[k]? = w3.heap[k]? := fun k hk hne => (hg.block k (by simp; omega) hne).trans (Below.heap_alloc w3 o k hk)
  have hmv : ∀ k, ov'.ownBlock = some k → ov.ownBlock = some k ∨ w3.heap.size < k := fun k hk => by
    rcases hm with e | e
    · exact .inl (e.symm.trans hk)
    · have := e k hk
      simp at this
      exact .inr (by omega)
  have f1 : Fr C s0 w s' w3 := (h.fr.trans (Fr.below h.fr.st hW2)).trans hf
  refine ⟨by simp [h.len], by rw [List.flatMap_append]; simpa using hown, ⟨hg.os.trans f1.os, hg.tape.trans f1.tape, hg.output.trans f1.output, by omega, fun k hk hn => ?_, f1.own, ?_⟩, hq, fun u hu => ?_, fun i a b ha hb => ?_, fun k hk e => ?_⟩
  · exact (h43 k (by omega) fun e => by have := (hol k e.symm).1; omega).trans (f1.block k hk hn)
  · have hB := C.base s0 w hst
    exact C.keep s' w3 w4 f1.st (fun k hk => hk.elim (fun hk => h43 k (C.lt s' w3 f1.st k hk) fun e => hnO k e.symm hk) fun hk => h43 k (by omega) fun e => by have := (hol k e.symm).1; omega) (by omega)
  · rcases List.mem_append.1 hu with hu | hu
    · refine (h.ins u hu).keep (fun k hk => ?_) (fun k hk => ?_)
      · obtain ⟨⟨k1, k2, k3⟩, k4⟩ := hk
        exact (h43 k (by omega) k4).trans ((hf.block k (by omega) k3).trans (hW2.block k k2))
      · obtain ⟨⟨k1, k2, k3⟩, k4⟩ := hk
        refine ⟨⟨k1, by omega, fun e => ?_⟩, fun e => ?_⟩
        · rcases hf.own k e with e | e
          · exact k3 e
          · omega
        · rcases hmv k e.symm with e | e
          · exact k4 e.symm
          · omega
    · rw [List.mem_singleton] at hu
      subst hu
      have hB := C.base s0 w hst
      refine hy.keep (fun k hk => ?_) (fun k hk => ?_)
      · have k1 := hk.at
        obtain ⟨_, k2, k3⟩ := hk
        exact h43 k k2 fun e => by have := hol k e.symm; omega
      · have k0 := hk.at
        obtain ⟨k1, k2, k3⟩ := hk
        refine ⟨⟨k1.imp id fun h => by omega, by omega, k3⟩, fun e => ?_⟩
        rcases hmv k e.symm with e | e
        · have := hol k e; omega
        · omega
  · by_cases hi : i < ys.length
    · exact h.rel i a b ha (by rw [List.getElem?_append_left hi] at hb; exact hb)
    · rw [List.getElem?_append_right (by omega)] at hb
      have e0 : i - ys.length = 0 := by
        have := (List.getElem?_eq_some_iff.1 hb).1
        simp at this
        omega
      rw [e0] at hb
      simp at hb
      subst hb
      have : i = j := by have := h.len; omega
      subst this
      rw [hx] at ha
      cases ha
      exact hr
  · rcases hmv k hk with h1 | h1
    · exact hnO k h1 e
    · have := C.lt s' w3 f1.st k e; omega
/-- What the function value comes to at one element. -/
def OnePost {σ : Type} (C : Cl σ) (Sq : σ → Prop) (Rel : DT → DT → Prop) (t : Uy) (x : DT) (s : σ) (W : World) (e : Ending) (W1 : World) : Prop :=
  ∃ (y : DT) (s' : σ), e = .returned (.agg y.c.toArray) ∧ Fr C s W s' W1 ∧ Sq s' ∧ UIn (Nw C W.heap.size s' W1) W1 t y ∧ Rel x y
/-- What list comes to. -/
def LsPost {σ : Type} (C : Cl σ) (Sq : σ → Prop) (Rel : DT → DT → Prop) (t : Uy) (l : List DT) (s0 : σ) (w : World) (e : Ending) (w' : World) : Prop :=
  ∃ (A : Option Addr) (ys : List DT) (s : σ), e = .returned (.slice A ys.length ys.length) ∧ Fr C s0 w s w' ∧ Sq s ∧ ys.length = l.length ∧ (∀ (i : Nat) x y, l[i]? = some x → ys[i]? = some y → Rel x y) ∧ DRow (Nw C w.heap.size s w') w' t.sz A ys.length ys ∧ ∀ y, y ∈ ys → UIn (Nw C w.heap.size s w') w' t y
theorem LsI.fin {σ : Type} {C : Cl σ} {Sq : Nat → σ → Prop} {Rel : DT → DT → Prop} {t : Uy} {T : TypeId} {l : List DT} {s0 s : σ} {w wr : World} {ys : List DT} {A : Option Addr} {cap n : Nat} (h : LsI C Sq Rel t T l s0 w n ys s (.slice A n cap) wr) (hl : l.length = n) : LsPost C (Sq n) Rel t l s0 w (.returned (.slice A n n)) wr := by
  have hne := h.ne
  obtain ⟨A', cap', e, hrow, _⟩ := own_structs h.own h.len (fun x hx => (h.ins x hx).len)
  cases e
  refine ⟨A, ys, s, by rw [h.len], h.fr, h.sq, by rw [h.len, hl], h.rel, ?_, fun y hy => (h.ins y hy).keep (fun _ _ => rfl) (fun k hk => hk.1)⟩
  have hk := hrow.keep (S' := Nw C w.heap.size s wr) (w' := wr) (fun _ _ => rfl) (fun k hk => ⟨.inr hk.2.1, hk.2.2, fun e => hne k hk.1 e⟩)
  exact ⟨Nat.le_refl _, by have := hk.1; exact Nat.le_trans this hk.2.1, hk.2.2⟩
set_option maxRecDepth 100000 in
theorem clipFld_u (A : Option Addr) (n cap : Nat) (w : World) (h1 : n ≤ cap) (h2 : cap ≤ maxLen) (h0 : A = none → n = 0 ∧ cap = 0) :
    Calls Tryz.prog 98 #[.slice A n cap] w fun e w' => e = .returned (.slice A n n) ∧ w' = w := by
  unfold maxLen at h2
  cases A with
  | none =>
    obtain ⟨rfl, rfl⟩ := h0 rfl
    go_enter Tryz.func98, Tryz.ntmps98
    go_wp2
    go_ret
    exact ⟨rfl, rfl⟩
  | some ad =>
    clear h0
    go_enter Tryz.func98, Tryz.ntmps98
    go_wp2
    go_ret
    exact ⟨by simp, rfl⟩
theorem infoFld_u : (Tryz.prog.info? 79).map (fun i => (i.zero.map (fun z => z.cells.size), i.size, i.bytes)) = some (some 6, 6, 72) := by kernel_rfl
set_option maxRecDepth 100000 in
set_option maxHeartbeats 4000000 in
theorem listFld_any {σ : Type} (C : Cl σ) (Sq : Nat → σ → Prop) (Rel : DT → DT → Prop) (g : Nat) (lb : Array Value) (eg : ∀ args w, (callFunc g args).run Tryz.prog w = .ok (.enter g args) w) (l : List DT) (A : Option Addr) (cap : Nat) (S0 : Nat → Prop) (s0 : σ) (w : World) (h0 : Sq 0 s0) (hst : C.St s0 w)
    (hS : ∀ k, S0 k → k < w.heap.size ∧ ¬ C.O s0 k) (hl : DRow S0 w 6 A cap l) (hin : ∀ x, x ∈ l → UIn S0 w .field x) (hn : l.length ≤ 1048576)
    (hone : Hid (∀ (j : Nat) x s W, l[j]? = some x → Sq j s → Fr C s0 w s W → Calls Tryz.prog g (#[.agg x.c.toArray] ++ lb) W (OnePost C (Sq (j + 1)) Rel .field x s W))) :
    Calls Tryz.prog 83 #[.slice A l.length cap, .func (.func g) #[] lb] w (LsPost C (Sq l.length) Rel .field l s0 w) := by
  obtain ⟨i0, hi, hrest⟩ := Option.map_eq_some_iff.1 infoFld_u
  simp only [Prod.mk.injEq] at hrest
  obtain ⟨hz0, isz, iby⟩ := hrest
  obtain ⟨z, iz, hzs⟩ := Option.map_eq_some_iff.1 hz0
  obtain ⟨n, hlen⟩ : ∃ n, l.length = n := ⟨_, rfl⟩
  rw [hlen] at hn ⊢
  have Hl := Lib.hid hl
  have Hin := Lib.hid hin
  have HS := Lib.hid hS
  have Hlen := Lib.hid hlen
  have H0 := Lib.hid h0
  have Hst := Lib.hid hst
  clear hl hin hS hlen h0 hst
  go_enter Tryz.func83, Tryz.ntmps83
  go_wp2
  go_loopw [5, 10] (fun ov i wr => ∃ (j : Nat) (ys : List DT) (s : σ), j ≤ n ∧ i = .int .i64 j ∧ LsI C Sq Rel .field 79 l s0 w j ys s ov wr) (fun _ i _ => n - (intOf i).toNat)
  case atStart => exact ⟨0, [], s0, Nat.zero_le _, rfl, LsI.start H0.out Hst.out⟩
  case round =>
    obtain ⟨j, ys, s, hj, rfl, hI⟩ := hrel
    have HI := Lib.hid hI
    have hsrc : ∀ k, S0 k → wr.heap[k]? = w.heap[k]? := fun k hk => hI.fr.block k (HS.out k hk).1 (HS.out k hk).2
    by_cases hlt : j < n
    · obtain ⟨x, ad, hx, rfl, hb, hat⟩ := (Hl.out.keep hsrc (fun _ h => h)).get (show j < l.length by rw [Hlen.out]; exact hlt)
      have hxi := (Hin.out x (mem_of_get? hx))
      have hx6 := hxi.len
      have HiE : Hid ((Tryz.prog.info? 79).map (·.size) = some x.c.length) := by show _ = _; rw [hx6, hi]; simp [isz, Uy.sz]
      have HiE2 : Hid ((Tryz.prog.info? 79).map (·.size) = some x.c.toArray.size) := by show _ = _; rw [List.size_toArray, hx6, hi]; simp [isz, Uy.sz]
      have Hz : Hid (x.c.toArray.size = 6) := by show _ = _; rw [List.size_toArray, hx6]; rfl
      have H1 := Lib.hid (all_one hxi.ones)
      have Hat := Lib.hid (at_add hat)
      obtain ⟨W2, hW2⟩ : ∃ W2, wr.alloc (.cells x.c.toArray 79) = W2 := ⟨_, rfl⟩
      have Hcell : Hid (∀ j u, x.c[j]? = some u → W2.cell? ((⟨wr.heap.size, 0, none⟩ : Addr).add j) = some u) := by show ∀ j u, _ → _; rw [← hW2]; exact new_cellsT wr x.c 79
      have hbW2 : Below wr.heap.size wr W2 := by rw [← hW2]; exact bel1 _ _
      have hcall : Calls Tryz.prog g (#[.agg x.c.toArray] ++ lb) W2 (OnePost C (Sq (j + 1)) Rel .field x s W2) := hone.out j x s W2 hx hI.sq (hI.fr.trans (Fr.below hI.fr.st hbW2))
      have Hx := Lib.hid hx
      have HW2 := Lib.hid hW2
      have HbW2 := Lib.hid hbW2
      have HI' := HI
      have hjn : j < 1048576 := by omega
      have h3 : Hid (j + 1 ≤ maxLen) := by show _ ≤ _; unfold maxLen; omega
      have h4 : Hid ((j + 1) * 72 ≤ 140737488355328) := by show _ ≤ _; omega
      have hcallH : Hid (Calls Tryz.prog g (#[.agg x.c.toArray] ++ lb) W2 fun e w3 => ∃ (y : DT) (s' : σ), e = .returned (.agg y.c.toArray) ∧ Hid (Fr C s W2 s' w3) ∧ Hid (Sq (j + 1) s') ∧ Hid (UIn (Nw C W2.heap.size s' w3) w3 .field y) ∧ Hid (Rel x y) ∧ Hid (y.c.toArray.size = 6) ∧ Hid (∀ u, u ∈ y.c → u.oneCell' = true) ∧ Hid (w3.ownsRow w.heap.size 79 6 u5 j (ys.flatMap DT.c)) ∧ Hid (∀ o, w.heap.size ≤ (w3.alloc o).heap.size)) := by
        refine hcall.mono ?_
        rintro e w3 ⟨y, s', rfl, hf, hq, hy, hr⟩
        have hb0 := hbW2.size
        have hfz := hf.size
        have hw0 := hI.fr.size
        refine ⟨y, s', rfl, hf, hq, hy, hr, ?_, hy.ones, own_fr hI.own (by omega) fun k hk => ?_, fun o => by simp; omega⟩
        · show _ = _
          rw [List.size_toArray, hy.len]; rfl
        · have hl := hI.own.lt k hk
          exact (hf.block k (by omega) (hI.ne k hk)).trans (hbW2.block k hl.2)
      clear hat hxi hx6 hx hW2 hI hsrc hbW2 hcall
      go_upto_region 5 with (first | (refine wpList_load_st rfl 79 _ rfl _ Tryz.underlying79 rfl (ad.add (j * 6)) x.c HiE.out rfl Hat.out ?_) | (refine wpList_store_st rfl 79 _ _ rfl _ x.c.toArray HiE2.out Hz.out.symm H1.out rfl rfl ?_))
      rw [HW2.out]
      go_wp2_with (first | (refine wpList_load_st rfl 79 _ rfl _ Tryz.underlying79 rfl ⟨wr.heap.size, 0, none⟩ x.c HiE.out rfl Hcell.out ?_) | (go_at_fn g; refine hcallH.out.mono ?_; rintro e w3 ⟨y, s', rfl, Hf, Hq, Hy, Hr, Hzy, H1y, Hown3, Hz3⟩) | (refine wpList_one_st rfl 22 79 _ rfl i0 Tryz.underlying22 hi _ iz y.c.toArray (isz.trans Hzy.out.symm) (hzs.trans Hzy.out.symm) (by rw [Hzy.out]; decide) (by rw [Hzy.out]; decide) rfl ?_) | (at_builtin; refine wpList_append_row _ rfl _ _ 22 rfl w.heap.size 79 i0 _ 6 72 Tryz.underlying22 hi iz isz iby hzs (by decide) u5 _ _ rfl (Hown3.out.alloc _) (some ⟨w3.heap.size, 0, none⟩) 1 1 y.c rfl (by rw [← List.size_toArray, Hzy.out]) (new_srcK _ _ _) H1y.out h3.out h4.out (Hz3.out _) ?_; intro ov' w4 hown4 hg4 hm4))
      have Hst' := Lib.hid (HI.out.step Hst.out Hx.out HbW2.out Hf.out Hq.out Hy.out Hr.out hown4 hg4 hm4)
      clear hown4
      go_wp2_with fail
      go_roundw
      case rel => exact ⟨j + 1, ys ++ [y], s', by omega, by simp, Hst'.out⟩
      case measure => simp [intOf]; omega
    · obtain rfl : j = n := by omega
      have hzo := hI.own
      obtain ⟨A2, cap2, rfl, hrow, hnil⟩ := own_structs hzo hI.len (fun x hx => (hI.ins x hx).len)
      have hc1 := hrow.1
      rw [hI.len] at hc1
      have hclip := Lib.hid (clipFld_u A2 j cap2 wr hc1 hrow.2.1 hnil)
      have hfin := Lib.hid (HI.out.fin Hlen.out)
      clear hzo hrow hnil hI hc1
      go_wp2_with fail
      refine hclip.out.mono ?_
      rintro e w' ⟨rfl, rfl⟩
      go_wp2
      go_ret
      exact hfin.out
end Go.Proofs.YthijagpnpcpcbaaGreat
namespace Go.Proofs.YthijagpnpcpcbaaGreat
open Go.RowKit Go.Sort
/-- The slices of a node. -/
def KR (S : Nat → Prop) (w : World) (c : List Value) : List (Nat × Uy) → List (List DT) → Prop
  | [], [] => True
  | p :: sl, m :: k => (∃ A cap, c[p.1]? = some (.slice A m.length cap) ∧ DRow S w p.2.sz A cap m ∧ ∀ x, x ∈ m → UIn S w p.2 x) ∧ KR S w c sl k
  | _, _ => False
theorem KR.get {S : Nat → Prop} {w : World} {c : List Value} : ∀ {sl : List (Nat × Uy)} {k : List (List DT)} (_ : KR S w c sl k) (i o : Nat) (s : Uy) (m : List DT), sl[i]? = some (o, s) → k[i]? = some m → ∃ A cap, c[o]? = some (.slice A m.length cap) ∧ DRow S w s.sz A cap m ∧ ∀ x, x ∈ m → UIn S w s x
  | [], [], _, i, o, s, m, h1, _ => by simp at h1
  | p :: sl, m' :: k, h, 0, o, s, m, h1, h2 => by simp at h1 h2; subst h1 h2; exact h.1
  | p :: sl, m' :: k, h, i + 1, o, s, m, h1, h2 => KR.get h.2 i o s m (by simpa using h1) (by simpa using h2)
  | [], m' :: k, h, _, _, _, _, _, _ => h.elim
  | p :: sl, [], h, _, _, _, _, _, _ => h.elim
theorem KR.len {S : Nat → Prop} {w : World} {c : List Value} : ∀ {sl : List (Nat × Uy)} {k : List (List DT)} (_ : KR S w c sl k), k.length = sl.length
  | [], [], _ => rfl
  | p :: sl, m' :: k, h => by simp [KR.len h.2]
  | [], m' :: k, h => h.elim
  | p :: sl, [], h => h.elim
theorem UIn.mkK {S : Nat → Prop} {w : World} {t : Uy} {c : List Value} {k : List (List DT)} (hl : c.length = t.sz) (h1 : c.all (·.oneCell') = true) (hok : t.ok c) (h : KR S w c t.sl k) : UIn S w t (.node c k) :=
  .mk t c k hl (fun u hu => List.all_eq_true.1 h1 u hu) hok h.len (fun i o s m a b => by obtain ⟨A, cap, e, r, _⟩ := h.get i o s m a b; exact ⟨A, cap, e, r⟩) fun i o s m a b => by obtain ⟨_, _, _, _, g⟩ := h.get i o s m a b; exact g
/-- Two nodes' slices, side by side. -/
def KS (R : Nat → Uy → List DT → List DT → Prop) : Nat → List (Nat × Uy) → List (List DT) → List (List DT) → Prop
  | _, [], [], [] => True
  | i, p :: sl, m :: k, m' :: k' => R i p.2 m m' ∧ KS R (i + 1) sl k k'
  | _, _, _, _ => False
theorem KS.get {R : Nat → Uy → List DT → List DT → Prop} : ∀ {b : Nat} {sl : List (Nat × Uy)} {k k' : List (List DT)} (_ : KS R b sl k k') (i o : Nat) (s : Uy) (m m' : List DT), sl[i]? = some (o, s) → k[i]? = some m → k'[i]? = some m' → R (b + i) s m m'
  | _, [], [], [], _, i, o, s, m, m', h1, _, _ => by simp at h1
  | _, p :: sl, a :: k, a' :: k', h, 0, o, s, m, m', h1, h2, h3 => by simp at h1 h2 h3; subst h1 h2 h3; exact h.1
  | b, p :: sl, a :: k, a' :: k', h, i + 1, o, s, m, m', h1, h2, h3 => by
    have := KS.get h.2 i o s m m' (by simpa using h1) (by simpa using h2) (by simpa using h3)
    rwa [show b + 1 + i = b + (i + 1) by omega] at this
  | _, [], [], _ :: _, h, _, _, _, _, _, _, _, _ => h.elim
  | _, [], _ :: _, [], h, _, _, _, _, _, _, _, _ => h.elim
  | _, [], _ :: _, _ :: _, h, _, _, _, _, _, _, _, _ => h.elim
  | _, _ :: _, [], [], h, _, _, _, _, _, _, _, _ => h.elim
  | _, _ :: _, [], _ :: _, h, _, _, _, _, _, _, _, _ => h.elim
  | _, _ :: _, _ :: _, [], h, _, _, _, _, _, _, _, _ => h.elim
theorem KS.len {R : Nat → Uy → List DT → List DT → Prop} : ∀ {b : Nat} {sl : List (Nat × Uy)} {k k' : List (List DT)} (_ : KS R b sl k k'), k.length = sl.length ∧ k.length = k'.length
  | _, [], [], [], _ => ⟨rfl, rfl⟩
  | _, p :: sl, a :: k, a' :: k', h => by have := KS.len h.2; exact ⟨by simp [this.1], by simp [this.2]⟩
  | _, [], [], _ :: _, h => h.elim
  | _, [], _ :: _, [], h => h.elim
  | _, [], _ :: _, _ :: _, h => h.elim
  | _, _ :: _, [], [], h => h.elim
  | _, _ :: _, [], _ :: _, h => h.elim
  | _, _ :: _, _ :: _, [], h => h.elim
theorem USm.mkK {t : Uy} {c c' : List Value} {k k' : List (List DT)} (hc : c.length = c'.length) (he : ∀ j, (∀ s, (j, s) ∉ t.sl) → c[j]? = c'[j]?) (h : KS (fun _ s m m' => USL s m m') 0 t.sl k k') : USm t (.node c k) (.node c' k') :=
  USm.of hc he h.len.2 h.len.1 fun i o s m m' a b d => h.get i o s m m' a b d
/-- The kind of a node. -/
def kd (c : List Value) : Int :=
  match c with
  | .int .i64 k :: _ => k
  | _ => -1
/-- How deep a part stands. -/
def dep (t : Uy) (c : List Value) (i q : Nat) (d : Int) : Int :=
  match t with
  | .expr => if i = 3 then d + 1 else d
  | .rel => if i = 2 ∧ q = 1 ∧ kd c = 6 then d + 1 else d
  | _ => d
/-- What becomes of columns: whether that is all; the cells of one that is gone on with; what stands for one that is done. -/
structure Cm where
  dn : Int → DT → Bool
  cg : Int → DT → List Value
  rs : Int → DT → DT → Prop
/-- The cells that a node's parts are put back into. -/
def Pre (m : Cm) (t : Uy) (d : Int) (c : List Value) (k : List (List DT)) (c1 : List Value) : Prop :=
  match t with
  | .expr => (kd c = 2 → m.dn d (.node c k) = false ∧ c1 = m.cg d (.node c k)) ∧ (kd c ≠ 2 → c1 = c)
  | .rel => kd c ≠ 13 ∧ c1 = c
  | .key => False
  | _ => c1 = c
/-- A mapper makes one tree of another. -/
inductive Mp (m : Cm) : Uy → Int → DT → DT → Prop
  | node (t : Uy) (d : Int) (c c1 c' : List Value) (k k' : List (List DT)) (hp : Pre m t d c k c1) (hc : c1.length = c'.length) (he : ∀ j, (∀ s, (j, s) ∉ t.sl) → c1[j]? = c'[j]?) (hk : k.length = k'.length)
      (hl : ∀ (i : Nat) (a b : List DT), k[i]? = some a → k'[i]? = some b → a.length = b.length)
      (hx : ∀ (i o : Nat) (s : Uy) (a b : List DT), t.sl[i]? = some (o, s) → k[i]? = some a → k'[i]? = some b → ∀ (q : Nat) (x y : DT), a[q]? = some x → b[q]? = some y → Mp m s (dep t c i q d) x y) : Mp m t d (.node c k) (.node c' k')
  | done (d : Int) (x y0 y : DT) (h0 : kd x.c = 2) (h : m.dn d x = true) (hr : m.rs d x y0) (hs : USm .expr y0 y) : Mp m .expr d x y
  | recu (d : Int) (x y : DT) (h : kd x.c = 13) (hs : USm .rel x y) : Mp m .rel d x y
  | key (d : Int) (c c' b : List Value) (k k' : List (List DT)) (hb : b.length = 2) (hc : c.length = 14) (hc' : c'.length = 14) (h : Mp m .expr d (.node c k) (.node c' k')) : Mp m .key d (.node (c ++ b) k) (.node (c' ++ b) k')
/-- What is visited. -/
inductive Vs (m : Cm) : Uy → Int → DT → Int × DT → Prop
  | here (d : Int) (x : DT) (h : kd x.c = 2) : Vs m .expr d x (d, x)
  | kid (t : Uy) (d : Int) (c : List Value) (k : List (List DT)) (i o : Nat) (s : Uy) (l : List DT) (q : Nat) (x : DT) (v : Int × DT) (hk : t ≠ .key) (hr : t = .rel → kd c ≠ 13) (he : t = .expr → kd c = 2 → m.dn d (.node c k) = false)
      (hs : t.sl[i]? = some (o, s)) (hl : k[i]? = some l) (hx : l[q]? = some x) (h : Vs m s (dep t c i q d) x v) : Vs m t d (.node c k) v
  | key (d : Int) (c b : List Value) (k : List (List DT)) (v : Int × DT) (hb : b.length = 2) (hc : c.length = 14) (h : Vs m .expr d (.node c k) v) : Vs m .key d (.node (c ++ b) k) v
/-- The kinds without expressions. -/
def Uy.flat : Uy → Bool
  | .field => true
  | .type => true
  | .value => true
  | .row => true
  | .set => true
  | .num => true
  | _ => false
theorem Uy.flat_sl {t : Uy} (h : t.flat = true) {i o : Nat} {s : Uy} (hs : t.sl[i]? = some (o, s)) : s.flat = true := by
  have hm : (o, s) ∈ t.sl := List.mem_of_getElem? hs
  cases t <;> simp [Uy.flat] at h <;> simp [Uy.sl] at hm <;> rw [hm.2] <;> rfl
theorem Vs.flat {m : Cm} {t : Uy} {d : Int} {x : DT} {v : Int × DT} (h : Vs m t d x v) : t.flat = false := by
  induction h with
  | here d x h => rfl
  | kid t d c k i o s l q x v hk hr he hs hl hx h ih =>
    cases ht : t.flat with
    | false => rfl
    | true => rw [Uy.flat_sl ht hs] at ih; exact ih
  | key d c b k v hb hc h ih => rfl
theorem Pre.of_flat {m : Cm} {t : Uy} {d : Int} {c : List Value} {k : List (List DT)} (h : t.flat = true) : Pre m t d c k c := by
  cases t <;> simp [Uy.flat] at h <;> rfl
theorem Mp.of_sm {m : Cm} {t : Uy} {x y : DT} (h : USm t x y) : ∀ d, t.flat = true → Mp m t d x y := by
  induction h with
  | mk t c c' k k' hc he hk hl hx ih =>
    intro d ht
    exact .node t d c c c' k k' (Pre.of_flat ht) hc he hk hl fun i o s a b hs ha hb q x y hx' hy => ih i o s a b hs ha hb q x y hx' hy _ (Uy.flat_sl ht hs)
/-- The map that changes nothing. -/
def sameCm : Cm := ⟨fun _ _ => false, fun _ x => x.c, fun _ _ _ => False⟩
theorem Pre.same {t : Uy} {d : Int} {c : List Value} {k : List (List DT)} {c1 : List Value} (h : Pre sameCm t d c k c1) : c1 = c := by
  cases t <;> simp only [Pre] at h
  case expr =>
    by_cases hk : kd c = 2
    · exact (h.1 hk).2
    · exact h.2 hk
  all_goals first | exact h | exact h.2
theorem Mp.key_sm {c c' b : List Value} {k k' : List (List DT)} (_hb : b.length = 2) (hc : c.length = 14) (hc' : c'.length = 14) (h : USm .expr (.node c k) (.node c' k')) : USm .key (.node (c ++ b) k) (.node (c' ++ b) k') := by
  cases h with
  | mk _ _ _ _ _ h1 he hk hl hx =>
    refine .mk .key _ _ _ _ (by simp [h1]) (fun j hj => ?_) hk hl hx
    by_cases h14 : j < 14
    · rw [List.getElem?_append_left (by omega), List.getElem?_append_left (by omega)]
      exact he j hj
    · rw [List.getElem?_append_right (by omega), List.getElem?_append_right (by omega), hc, hc']
theorem Mp.same {t : Uy} {d : Int} {x y : DT} (h : Mp sameCm t d x y) : USm t x y := by
  induction h with
  | node t d c c1 c' k k' hp hc he hk hl hx ih =>
    obtain rfl := hp.same
    exact .mk t c1 c' k k' hc he hk hl ih
  | done d x y0 y h0 h hr hs => cases hr
  | recu d x y h hs => exact hs
  | key d c c' b k k' hb hc hc' h ih => exact Mp.key_sm hb hc hc' ih
theorem Pre.det {m : Cm} {t : Uy} {d : Int} {c : List Value} {k : List (List DT)} {c1 c2 : List Value} (h : Pre m t d c k c1) (h' : Pre m t d c k c2) : c1 = c2 := by
  cases t <;> simp only [Pre] at h h'
  case expr =>
    by_cases hk : kd c = 2
    · exact (h.1 hk).2.trans (h'.1 hk).2.symm
    · exact (h.2 hk).trans (h'.2 hk).symm
  all_goals first | exact h.trans h'.symm | exact h.2.trans h'.2.symm | exact h.elim
/-- What a mapper makes is told by its column map. -/
theorem Mp.det {m : Cm} (hm : ∀ d x y y', m.rs d x y → m.rs d x y' → USm .expr y y') {t : Uy} {d : Int} {x y : DT} (h : Mp m t d x y) : ∀ {y'}, Mp m t d x y' → USm t y y' := by
  induction h with
  | node t d c c1 c' k k' hp hc he hk hl hx ih =>
    intro y' h'
    cases h' with
    | node _ _ _ c2 c3 _ k3 hp2 hc2 he2 hk2 hl2 hx2 =>
      obtain rfl := hp.det hp2
      refine .mk t c' c3 k' k3 (hc.symm.trans hc2) (fun j hj => (he j hj).symm.trans (he2 j hj)) (hk.symm.trans hk2) (fun i a b ha hb => ?_) fun i o s a b hs ha hb q x y hx' hy' => ?_
      · have hi : i < k.length := by rw [hk]; exact (List.getElem?_eq_some_iff.1 ha).1
        exact (hl i _ a (List.getElem?_eq_getElem hi) ha).symm.trans (hl2 i _ b (List.getElem?_eq_getElem hi) hb)
      · have hi : i < k.length := by rw [hk]; exact (List.getElem?_eq_some_iff.1 ha).1
        have h1 := List.getElem?_eq_getElem hi
        have hq : q < k[i].length := by rw [hl i _ a h1 ha]; exact (List.getElem?_eq_some_iff.1 hx').1
        exact ih i o s _ a hs h1 ha q _ x (List.getElem?_eq_getElem hq) hx' (hx2 i o s _ b hs h1 hb q _ y (List.getElem?_eq_getElem hq) hy')
    | done _ _ y0 _ h0 h hr hs =>
      have := (hp.1 h0).1
      rw [h] at this
      cases this
    | recu _ _ _ h hs => exact absurd h hp.1
    | key _ _ _ _ _ _ _ _ _ _ => exact hp.elim
  | done d x y0 y h0 h hr hs =>
    intro y' h'
    cases h' with
    | node _ _ _ c2 c3 _ k3 hp2 hc2 he2 hk2 hl2 hx2 =>
      have := (hp2.1 h0).1
      rw [h] at this
      cases this
    | done _ _ y1 _ h0' h' hr' hs' => exact hs.symm.trans ((hm d x y0 y1 hr hr').trans hs')
  | recu d x y h hs =>
    intro y' h'
    cases h' with
    | node _ _ _ c2 c3 _ k3 hp2 hc2 he2 hk2 hl2 hx2 => exact absurd h hp2.1
    | recu _ _ _ h hs' => exact hs.symm.trans hs'
  | key d c c' b k k' hb hc hc' h ih =>
    intro y' h'
    generalize hx : DT.node (c ++ b) k = x at h'
    cases h' with
    | node _ _ _ c2 c3 _ k3 hp2 hc2 he2 hk2 hl2 hx2 => exact hp2.elim
    | key _ c2 c3 b2 k2 k3 hb2 hc2 hc3 h2 =>
      injection hx with e1 e2
      subst e2
      obtain ⟨rfl, rfl⟩ := List.append_inj e1 (hc.trans hc2.symm)
      exact Mp.key_sm hb hc' hc3 (ih h2)
end Go.Proofs.YthijagpnpcpcbaaGreat
namespace Go.Proofs.YthijagpnpcpcbaaGreat
open Go.RowKit Go.Sort
set_option maxRecDepth 100000 in
theorem clipVal_u (A : Option Addr) (n cap : Nat) (w : World) (h1 : n ≤ cap) (h2 : cap ≤ maxLen) (h0 : A = none → n = 0 ∧ cap = 0) :
    Calls Tryz.prog 85 #[.slice A n cap] w fun e w' => e = .returned (.slice A n n) ∧ w' = w := by
  unfold maxLen at h2
  cases A with
  | none =>
    obtain ⟨rfl, rfl⟩ := h0 rfl
    go_enter Tryz.func85, Tryz.ntmps85
    go_wp2
    go_ret
    exact ⟨rfl, rfl⟩
  | some ad =>
    clear h0
    go_enter Tryz.func85, Tryz.ntmps85
    go_wp2
    go_ret
    exact ⟨by simp, rfl⟩
theorem infoVal_u : (Tryz.prog.info? 27).map (fun i => (i.zero.map (fun z => z.cells.size), i.size, i.bytes)) = some (some 5, 5, 64) := by kernel_rfl
set_option maxRecDepth 100000 in
set_option maxHeartbeats 4000000 in
theorem listVal_any {σ : Type} (C : Cl σ) (Sq : Nat → σ → Prop) (Rel : DT → DT → Prop) (g : Nat) (lb : Array Value) (eg : ∀ args w, (callFunc g args).run Tryz.prog w = .ok (.enter g args) w) (l : List DT) (A : Option Addr) (cap : Nat) (S0 : Nat → Prop) (s0 : σ) (w : World) (h0 : Sq 0 s0) (hst : C.St s0 w)
    (hS : ∀ k, S0 k → k < w.heap.size ∧ ¬ C.O s0 k) (hl : DRow S0 w 5 A cap l) (hin : ∀ x, x ∈ l → UIn S0 w .value x) (hn : l.length ≤ 1048576)
    (hone : Hid (∀ (j : Nat) x s W, l[j]? = some x → Sq j s → Fr C s0 w s W → Calls Tryz.prog g (#[.agg x.c.toArray] ++ lb) W (OnePost C (Sq (j + 1)) Rel .value x s W))) :
    Calls Tryz.prog 102 #[.slice A l.length cap, .func (.func g) #[] lb] w (LsPost C (Sq l.length) Rel .value l s0 w) := by
  obtain ⟨i0, hi, hrest⟩ := Option.map_eq_some_iff.1 infoVal_u
  simp only [Prod.mk.injEq] at hrest
  obtain ⟨hz0, isz, iby⟩ := hrest
  obtain ⟨z, iz, hzs⟩ := Option.map_eq_some_iff.1 hz0
  obtain ⟨n, hlen⟩ : ∃ n, l.length = n := ⟨_, rfl⟩
  rw [hlen] at hn ⊢
  have Hl := Lib.hid hl
  have Hin := Lib.hid hin
  have HS := Lib.hid hS
  have Hlen := Lib.hid hlen
  have H0 := Lib.hid h0
  have Hst := Lib.hid hst
  clear hl hin hS hlen h0 hst
  go_enter Tryz.func102, Tryz.ntmps102
  go_wp2
  go_loopw [5, 10] (fun ov i wr => ∃ (j : Nat) (ys : List DT) (s : σ), j ≤ n ∧ i = .int .i64 j ∧ LsI C Sq Rel .value 27 l s0 w j ys s ov wr) (fun _ i _ => n - (intOf i).toNat)
  case atStart => exact ⟨0, [], s0, Nat.zero_le _, rfl, LsI.start H0.out Hst.out⟩
  case round =>
    obtain ⟨j, ys, s, hj, rfl, hI⟩ := hrel
    have HI := Lib.hid hI
    have hsrc : ∀ k, S0 k → wr.heap[k]? = w.heap[k]? := fun k hk => hI.fr.block k (HS.out k hk).1 (HS.out k hk).2
    by_cases hlt : j < n
    · obtain ⟨x, ad, hx, rfl, hb, hat⟩ := (Hl.out.keep hsrc (fun _ h => h)).get (show j < l.length by rw [Hlen.out]; exact hlt)
      have hxi := (Hin.out x (mem_of_get? hx))
      have hx6 := hxi.len
      have HiE : Hid ((Tryz.prog.info? 27).map (·.size) = some x.c.length) := by show _ = _; rw [hx6, hi]; simp [isz, Uy.sz]
      have HiE2 : Hid ((Tryz.prog.info? 27).map (·.size) = some x.c.toArray.size) := by show _ = _; rw [List.size_toArray, hx6, hi]; simp [isz, Uy.sz]
      have Hz : Hid (x.c.toArray.size = 5) := by show _ = _; rw [List.size_toArray, hx6]; rfl
      have H1 := Lib.hid (all_one hxi.ones)
      have Hat := Lib.hid (at_add hat)
      obtain ⟨W2, hW2⟩ : ∃ W2, wr.alloc (.cells x.c.toArray 27) = W2 := ⟨_, rfl⟩
      have Hcell : Hid (∀ j u, x.c[j]? = some u → W2.cell? ((⟨wr.heap.size, 0, none⟩ : Addr).add j) = some u) := by show ∀ j u, _ → _; rw [← hW2]; exact new_cellsT wr x.c 27
      have hbW2 : Below wr.heap.size wr W2 := by rw [← hW2]; exact bel1 _ _
      have hcall : Calls Tryz.prog g (#[.agg x.c.toArray] ++ lb) W2 (OnePost C (Sq (j + 1)) Rel .value x s W2) := hone.out j x s W2 hx hI.sq (hI.fr.trans (Fr.below hI.fr.st hbW2))
      have Hx := Lib.hid hx
      have HW2 := Lib.hid hW2
      have HbW2 := Lib.hid hbW2
      have HI' := HI
      have hjn : j < 1048576 := by omega
      have h3 : Hid (j + 1 ≤ maxLen) := by show _ ≤ _; unfold maxLen; omega
      have h4 : Hid ((j + 1) * 64 ≤ 140737488355328) := by show _ ≤ _; omega
      have hcallH : Hid (Calls Tryz.prog g (#[.agg x.c.toArray] ++ lb) W2 fun e w3 => ∃ (y : DT) (s' : σ), e = .returned (.agg y.c.toArray) ∧ Hid (Fr C s W2 s' w3) ∧ Hid (Sq (j + 1) s') ∧ Hid (UIn (Nw C W2.heap.size s' w3) w3 .value y) ∧ Hid (Rel x y) ∧ Hid (y.c.toArray.size = 5) ∧ Hid (∀ u, u ∈ y.c → u.oneCell' = true) ∧ Hid (w3.ownsRow w.heap.size 27 5 u5 j (ys.flatMap DT.c)) ∧ Hid (∀ o, w.heap.size ≤ (w3.alloc o).heap.size)) := by
        refine hcall.mono ?_
        rintro e w3 ⟨y, s', rfl, hf, hq, hy, hr⟩
        have hb0 := hbW2.size
        have hfz := hf.size
        have hw0 := hI.fr.size
        refine ⟨y, s', rfl, hf, hq, hy, hr, ?_, hy.ones, own_fr hI.own (by omega) fun k hk => ?_, fun o => by simp; omega⟩
        · show _ = _
          rw [List.size_toArray, hy.len]; rfl
        · have hl := hI.own.lt k hk
          exact (hf.block k (by omega) (hI.ne k hk)).trans (hbW2.block k hl.2)
      clear hat hxi hx6 hx hW2 hI hsrc hbW2 hcall
      go_upto_region 5 with (first | (refine wpList_load_st rfl 27 _ rfl _ Tryz.underlying27 rfl (ad.add (j * 5)) x.c HiE.out rfl Hat.out ?_) | (refine wpList_store_st rfl 27 _ _ rfl _ x.c.toArray HiE2.out Hz.out.symm H1.out rfl rfl ?_))
      rw [HW2.out]
      go_wp2_with (first | (refine wpList_load_st rfl 27 _ rfl _ Tryz.underlying27 rfl ⟨wr.heap.size, 0, none⟩ x.c HiE.out rfl Hcell.out ?_) | (go_at_fn g; refine hcallH.out.mono ?_; rintro e w3 ⟨y, s', rfl, Hf, Hq, Hy, Hr, Hzy, H1y, Hown3, Hz3⟩) | (refine wpList_one_st rfl 25 27 _ rfl i0 Tryz.underlying25 hi _ iz y.c.toArray (isz.trans Hzy.out.symm) (hzs.trans Hzy.out.symm) (by rw [Hzy.out]; decide) (by rw [Hzy.out]; decide) rfl ?_) | (at_builtin; refine wpList_append_row _ rfl _ _ 25 rfl w.heap.size 27 i0 _ 5 64 Tryz.underlying25 hi iz isz iby hzs (by decide) u5 _ _ rfl (Hown3.out.alloc _) (some ⟨w3.heap.size, 0, none⟩) 1 1 y.c rfl (by rw [← List.size_toArray, Hzy.out]) (new_srcK _ _ _) H1y.out h3.out h4.out (Hz3.out _) ?_; intro ov' w4 hown4 hg4 hm4))
      have Hst' := Lib.hid (HI.out.step Hst.out Hx.out HbW2.out Hf.out Hq.out Hy.out Hr.out hown4 hg4 hm4)
      clear hown4
      go_wp2_with fail
      go_roundw
      case rel => exact ⟨j + 1, ys ++ [y], s', by omega, by simp, Hst'.out⟩
      case measure => simp [intOf]; omega
    · obtain rfl : j = n := by omega
      have hzo := hI.own
      obtain ⟨A2, cap2, rfl, hrow, hnil⟩ := own_structs hzo hI.len (fun x hx => (hI.ins x hx).len)
      have hc1 := hrow.1
      rw [hI.len] at hc1
      have hclip := Lib.hid (clipVal_u A2 j cap2 wr hc1 hrow.2.1 hnil)
      have hfin := Lib.hid (HI.out.fin Hlen.out)
      clear hzo hrow hnil hI hc1
      go_wp2_with fail
      refine hclip.out.mono ?_
      rintro e w' ⟨rfl, rfl⟩
      go_wp2
      go_ret
      exact hfin.out
set_option maxRecDepth 100000 in
theorem clipTyp_u (A : Option Addr) (n cap : Nat) (w : World) (h1 : n ≤ cap) (h2 : cap ≤ maxLen) (h0 : A = none → n = 0 ∧ cap = 0) :
    Calls Tryz.prog 120 #[.slice A n cap] w fun e w' => e = .returned (.slice A n n) ∧ w' = w := by
  unfold maxLen at h2
  cases A with
  | none =>
    obtain ⟨rfl, rfl⟩ := h0 rfl
    go_enter Tryz.func120, Tryz.ntmps120
    go_wp2
    go_ret
    exact ⟨rfl, rfl⟩
  | some ad =>
    clear h0
    go_enter Tryz.func120, Tryz.ntmps120
    go_wp2
    go_ret
    exact ⟨by simp, rfl⟩
theorem infoTyp_u : (Tryz.prog.info? 24).map (fun i => (i.zero.map (fun z => z.cells.size), i.size, i.bytes)) = some (some 3, 3, 40) := by kernel_rfl
set_option maxRecDepth 100000 in
set_option maxHeartbeats 4000000 in
theorem listTyp_any {σ : Type} (C : Cl σ) (Sq : Nat → σ → Prop) (Rel : DT → DT → Prop) (g : Nat) (lb : Array Value) (eg : ∀ args w, (callFunc g args).run Tryz.prog w = .ok (.enter g args) w) (l : List DT) (A : Option Addr) (cap : Nat) (S0 : Nat → Prop) (s0 : σ) (w : World) (h0 : Sq 0 s0) (hst : C.St s0 w)
    (hS : ∀ k, S0 k → k < w.heap.size ∧ ¬ C.O s0 k) (hl : DRow S0 w 3 A cap l) (hin : ∀ x, x ∈ l → UIn S0 w .type x) (hn : l.length ≤ 1048576)
    (hone : Hid (∀ (j : Nat) x s W, l[j]? = some x → Sq j s → Fr C s0 w s W → Calls Tryz.prog g (#[.agg x.c.toArray] ++ lb) W (OnePost C (Sq (j + 1)) Rel .type x s W))) :
    Calls Tryz.prog 99 #[.slice A l.length cap, .func (.func g) #[] lb] w (LsPost C (Sq l.length) Rel .type l s0 w) := by
  obtain ⟨i0, hi, hrest⟩ := Option.map_eq_some_iff.1 infoTyp_u
  simp only [Prod.mk.injEq] at hrest
  obtain ⟨hz0, isz, iby⟩ := hrest
  obtain ⟨z, iz, hzs⟩ := Option.map_eq_some_iff.1 hz0
  obtain ⟨n, hlen⟩ : ∃ n, l.length = n := ⟨_, rfl⟩
  rw [hlen] at hn ⊢
  have Hl := Lib.hid hl
  have Hin := Lib.hid hin
  have HS := Lib.hid hS
  have Hlen := Lib.hid hlen
  have H0 := Lib.hid h0
  have Hst := Lib.hid hst
  clear hl hin hS hlen h0 hst
  go_enter Tryz.func99, Tryz.ntmps99
  go_wp2
  go_loopw [5, 10] (fun ov i wr => ∃ (j : Nat) (ys : List DT) (s : σ), j ≤ n ∧ i = .int .i64 j ∧ LsI C Sq Rel .type 24 l s0 w j ys s ov wr) (fun _ i _ => n - (intOf i).toNat)
  case atStart => exact ⟨0, [], s0, Nat.zero_le _, rfl, LsI.start H0.out Hst.out⟩
  case round =>
    obtain ⟨j, ys, s, hj, rfl, hI⟩ := hrel
    have HI := Lib.hid hI
    have hsrc : ∀ k, S0 k → wr.heap[k]? = w.heap[k]? := fun k hk => hI.fr.block k (HS.out k hk).1 (HS.out k hk).2
    by_cases hlt : j < n
    · obtain ⟨x, ad, hx, rfl, hb, hat⟩ := (Hl.out.keep hsrc (fun _ h => h)).get (show j < l.length by rw [Hlen.out]; exact hlt)
      have hxi := (Hin.out x (mem_of_get? hx))
      have hx6 := hxi.len
      have HiE : Hid ((Tryz.prog.info? 24).map (·.size) = some x.c.length) := by show _ = _; rw [hx6, hi]; simp [isz, Uy.sz]
      have HiE2 : Hid ((Tryz.prog.info? 24).map (·.size) = some x.c.toArray.size) := by show _ = _; rw [List.size_toArray, hx6, hi]; simp [isz, Uy.sz]
      have Hz : Hid (x.c.toArray.size = 3) := by show _ = _; rw [List.size_toArray, hx6]; rfl
      have H1 := Lib.hid (all_one hxi.ones)
      have Hat := Lib.hid (at_add hat)
      obtain ⟨W2, hW2⟩ : ∃ W2, wr.alloc (.cells x.c.toArray 24) = W2 := ⟨_, rfl⟩
      have Hcell : Hid (∀ j u, x.c[j]? = some u → W2.cell? ((⟨wr.heap.size, 0, none⟩ : Addr).add j) = some u) := by show ∀ j u, _ → _; rw [← hW2]; exact new_cellsT wr x.c 24
      have hbW2 : Below wr.heap.size wr W2 := by rw [← hW2]; exact bel1 _ _
      have hcall : Calls Tryz.prog g (#[.agg x.c.toArray] ++ lb) W2 (OnePost C (Sq (j + 1)) Rel .type x s W2) := hone.out j x s W2 hx hI.sq (hI.fr.trans (Fr.below hI.fr.st hbW2))
      have Hx := Lib.hid hx
      have HW2 := Lib.hid hW2
      have HbW2 := Lib.hid hbW2
      have HI' := HI
      have hjn : j < 1048576 := by omega
      have h3 : Hid (j + 1 ≤ maxLen) := by show _ ≤ _; unfold maxLen; omega
      have h4 : Hid ((j + 1) * 40 ≤ 140737488355328) := by show _ ≤ _; omega
      have hcallH : Hid (Calls Tryz.prog g (#[.agg x.c.toArray] ++ lb) W2 fun e w3 => ∃ (y : DT) (s' : σ), e = .returned (.agg y.c.toArray) ∧ Hid (Fr C s W2 s' w3) ∧ Hid (Sq (j + 1) s') ∧ Hid (UIn (Nw C W2.heap.size s' w3) w3 .type y) ∧ Hid (Rel x y) ∧ Hid (y.c.toArray.size = 3) ∧ Hid (∀ u, u ∈ y.c → u.oneCell' = true) ∧ Hid (w3.ownsRow w.heap.size 24 3 u5 j (ys.flatMap DT.c)) ∧ Hid (∀ o, w.heap.size ≤ (w3.alloc o).heap.size)) := by
        refine hcall.mono ?_
        rintro e w3 ⟨y, s', rfl, hf, hq, hy, hr⟩
        have hb0 := hbW2.size
        have hfz := hf.size
        have hw0 := hI.fr.size
        refine ⟨y, s', rfl, hf, hq, hy, hr, ?_, hy.ones, own_fr hI.own (by omega) fun k hk => ?_, fun o => by simp; omega⟩
        · show _ = _
          rw [List.size_toArray, hy.len]; rfl
        · have hl := hI.own.lt k hk
          exact (hf.block k (by omega) (hI.ne k hk)).trans (hbW2.block k hl.2)
      clear hat hxi hx6 hx hW2 hI hsrc hbW2 hcall
      go_upto_region 5 with (first | (refine wpList_load_st rfl 24 _ rfl _ Tryz.underlying24 rfl (ad.add (j * 3)) x.c HiE.out rfl Hat.out ?_) | (refine wpList_store_st rfl 24 _ _ rfl _ x.c.toArray HiE2.out Hz.out.symm H1.out rfl rfl ?_))
      rw [HW2.out]
      go_wp2_with (first | (refine wpList_load_st rfl 24 _ rfl _ Tryz.underlying24 rfl ⟨wr.heap.size, 0, none⟩ x.c HiE.out rfl Hcell.out ?_) | (go_at_fn g; refine hcallH.out.mono ?_; rintro e w3 ⟨y, s', rfl, Hf, Hq, Hy, Hr, Hzy, H1y, Hown3, Hz3⟩) | (refine wpList_one_st rfl 52 24 _ rfl i0 Tryz.underlying52 hi _ iz y.c.toArray (isz.trans Hzy.out.symm) (hzs.trans Hzy.out.symm) (by rw [Hzy.out]; decide) (by rw [Hzy.out]; decide) rfl ?_) | (at_builtin; refine wpList_append_row _ rfl _ _ 52 rfl w.heap.size 24 i0 _ 3 40 Tryz.underlying52 hi iz isz iby hzs (by decide) u5 _ _ rfl (Hown3.out.alloc _) (some ⟨w3.heap.size, 0, none⟩) 1 1 y.c rfl (by rw [← List.size_toArray, Hzy.out]) (new_srcK _ _ _) H1y.out h3.out h4.out (Hz3.out _) ?_; intro ov' w4 hown4 hg4 hm4))
      have Hst' := Lib.hid (HI.out.step Hst.out Hx.out HbW2.out Hf.out Hq.out Hy.out Hr.out hown4 hg4 hm4)
      clear hown4
      go_wp2_with fail
      go_roundw
      case rel => exact ⟨j + 1, ys ++ [y], s', by omega, by simp, Hst'.out⟩
      case measure => simp [intOf]; omega
    · obtain rfl : j = n := by omega
      have hzo := hI.own
      obtain ⟨A2, cap2, rfl, hrow, hnil⟩ := own_structs hzo hI.len (fun x hx => (hI.ins x hx).len)
      have hc1 := hrow.1
      rw [hI.len] at hc1
      have hclip := Lib.hid (clipTyp_u A2 j cap2 wr hc1 hrow.2.1 hnil)
      have hfin := Lib.hid (HI.out.fin Hlen.out)
      clear hzo hrow hnil hI hc1
      go_wp2_with fail
      refine hclip.out.mono ?_
      rintro e w' ⟨rfl, rfl⟩
      go_wp2
      go_ret
      exact hfin.out
end Go.Proofs.YthijagpnpcpcbaaGreat

