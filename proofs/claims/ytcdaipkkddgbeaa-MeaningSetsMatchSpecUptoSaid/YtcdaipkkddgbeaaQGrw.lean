/-
  Lists that grow: what stays as it is. Rows of cells. (Out of WideA, NewA, NewE, BatD, BatG0, BatM0, whose texts have these too: import one or the other.)
-/
import Derived.Test.YtcdaipkkddgbeaaQApp
import Derived.Test.YtcdaipkkddgbeaaQSoC
import Derived.Test.YtcdaipkkddgbeaaQRowA
import Derived.Test.YtcdaipkkddgbeaaProg
import Derived.Lib.Hide
import Derived.Deep.Heap
import Derived.OwnWalk
namespace Go.Proofs.Ytcdaipkkddgbeaa
open Go.RowKit
/-- A slice of things that take one cell each. -/
def CRow {α : Type} (f : α → Value) (B : Nat) (w : World) (A : Option Addr) (cap : Nat) (l : List α) : Prop :=
  l.length ≤ cap ∧ cap ≤ maxLen ∧ ∀ (i : Nat) (x : α), l[i]? = some x → ∃ ad : Addr, A = some ad ∧ ad.block < B ∧ w.cell? (ad.add i) = some (f x)
theorem CRow.keep {α : Type} {f : α → Value} {B : Nat} {w w' : World} {A : Option Addr} {cap : Nat} {l : List α} (h : CRow f B w A cap l) (hs : Same B w w') : CRow f B w' A cap l := by
  refine ⟨h.1, h.2.1, fun i x hx => ?_⟩
  obtain ⟨ad, e, hb, hat⟩ := h.2.2 i x hx
  exact ⟨ad, e, hb, (hs.cell (by rw [block_add]; exact hb)).trans hat⟩
theorem CRow.more {α : Type} {f : α → Value} {B B' : Nat} {w : World} {A : Option Addr} {cap : Nat} {l : List α} (h : CRow f B w A cap l) (hB : B ≤ B') : CRow f B' w A cap l := by
  refine ⟨h.1, h.2.1, fun i x hx => ?_⟩
  obtain ⟨ad, e, hb, hat⟩ := h.2.2 i x hx
  exact ⟨ad, e, by omega, hat⟩
theorem CRow.get {α : Type} {f : α → Value} {B : Nat} {w : World} {A : Option Addr} {cap : Nat} {l : List α} (h : CRow f B w A cap l) {i : Nat} (hi : i < l.length) :
    ∃ (x : α) (ad : Addr), l[i]? = some x ∧ A = some ad ∧ ad.block < B ∧ w.cell? (ad.add i) = some (f x) := by
  obtain ⟨ad, e, hb, hat⟩ := h.2.2 i l[i] (List.getElem?_eq_getElem hi)
  exact ⟨l[i], ad, List.getElem?_eq_getElem hi, e, hb, hat⟩
theorem own_keep {w w' : World} {B e size n : Nat} {v : Value} {xs : List Value} (h : w.ownsRow B e size v n xs) (hk : ∀ k, B ≤ k → k < w.heap.size → w'.heap[k]? = w.heap[k]?) : w'.ownsRow B e size v n xs := by
  refine ⟨h.1, ?_⟩
  rcases h.2 with hn | ⟨g, cap, cur, e1, e2, e3, rest⟩
  · exact .inl hn
  · exact .inr ⟨g, cap, cur, e1, e2, (hk g e2 (Array.getElem?_eq_some_iff.1 e3).1).trans e3, rest⟩
/-- A row that a call owns, as a list. -/
theorem own_list {α : Type} {f : α → Value} {w : World} {base e n : Nat} {v : Value} {xs : List α} (h : w.ownsRow base e 1 v n (xs.map f)) (hn : xs.length = n) :
    ∃ (A : Option Addr) (cap : Nat), v = .slice A n cap ∧ CRow f w.heap.size w A cap xs ∧ (A = none → n = 0 ∧ cap = 0) := by
  rcases h.2 with ⟨rfl, rfl⟩ | ⟨g, cap, cur, rfl, hb, hg, h1, h2, h3, h4⟩
  · refine ⟨none, 0, rfl, ⟨by omega, Nat.zero_le _, fun i x hx => ?_⟩, fun _ => ⟨rfl, rfl⟩⟩
    have := (List.getElem?_eq_some_iff.1 hx).1
    omega
  · refine ⟨some ⟨g, 0, none⟩, cap, rfl, ⟨by omega, h2, fun i x hx => ⟨⟨g, 0, none⟩, rfl, (Array.getElem?_eq_some_iff.1 hg).1, ?_⟩⟩, fun h => by cases h⟩
    exact h.cells (g := g) rfl i (f x) (by rw [List.getElem?_map, hx]; rfl)
/-- The blocks from b on are kept. -/
def Keeps (b : Nat) (w w' : World) : Prop := (∀ q, b ≤ q → q < w.heap.size → w'.heap[q]? = w.heap[q]?) ∧ w.heap.size ≤ w'.heap.size
theorem Keeps.refl (b : Nat) (w : World) : Keeps b w w := ⟨fun _ _ _ => rfl, Nat.le_refl _⟩
theorem own_listK {α : Type} {f : α → Value} {w : World} {b base e n : Nat} {v : Value} {xs : List α} (h : w.ownsRow base e 1 v n (xs.map f)) (hn : xs.length = n) (hb : b ≤ base) :
    ∃ (A : Option Addr) (cap : Nat), v = .slice A n cap ∧ (∀ w', Keeps b w w' → CRow f w'.heap.size w' A cap xs) ∧ (A = none → n = 0 ∧ cap = 0) := by
  obtain ⟨A, cap, rfl, _, h0⟩ := own_list h hn
  refine ⟨A, cap, rfl, fun w' hk => ?_, h0⟩
  obtain ⟨A2, cap2, e, hrow, _⟩ := own_list (own_keep h fun k h1 h2 => hk.1 k (by omega) h2) hn
  cases e
  exact hrow
theorem CRow.nil {α : Type} (f : α → Value) (B : Nat) (w : World) : CRow f B w none 0 ([] : List α) := ⟨Nat.le_refl _, Nat.zero_le _, fun i x hx => by simp at hx⟩
theorem VT.Rows.nil (B : Nat) (w : World) : VT.Rows B w none 0 [] := ⟨⟨Nat.le_refl _, Nat.zero_le _, fun i x hx => by simp at hx⟩, fun x hx => by cases hx⟩
theorem CRow.src {α : Type} {f : α → Value} {B : Nat} {w : World} {A : Option Addr} {cap : Nat} {l : List α} (h : CRow f B w A cap l) : SrcAt w A (l.map f) := by
  cases l with
  | nil => exact .inl rfl
  | cons y r =>
    obtain ⟨ad, e, _, _⟩ := h.2.2 0 y rfl
    refine .inr ⟨ad, e, fun j u hu => ?_⟩
    rw [List.getElem?_map] at hu
    cases hj : (y :: r)[j]? with
    | none => rw [hj] at hu; cases hu
    | some x =>
      rw [hj] at hu
      cases hu
      obtain ⟨ad2, e2, _, hat⟩ := h.2.2 j x hj
      rw [e] at e2
      cases e2
      exact hat
/-- What changed: the blocks of ex, the row's own block; and where the row lies now. -/
structure PFr (ex : Nat → Prop) (w : World) (v : Value) (w' : World) (v' : Value) : Prop where
  os : w'.os = w.os
  tape : w'.tape = w.tape
  output : w'.output = w.output
  size : w.heap.size ≤ w'.heap.size
  block : ∀ k, k < w.heap.size → ¬ ex k → some k ≠ v.ownBlock → w'.heap[k]? = w.heap[k]?
  moved : v'.ownBlock = v.ownBlock ∨ ∀ k, v'.ownBlock = some k → w.heap.size ≤ k
theorem PFr.refl (ex : Nat → Prop) (w : World) (v : Value) : PFr ex w v w v := ⟨rfl, rfl, rfl, Nat.le_refl _, fun _ _ _ _ => rfl, .inl rfl⟩
theorem PFr.below {ex : Nat → Prop} {w w' : World} {v : Value} (h : Below w.heap.size w w') : PFr ex w v w' v := ⟨h.os, h.tape, h.output, h.size, fun k hk _ _ => h.block k hk, .inl rfl⟩
theorem PFr.trans {ex : Nat → Prop} {a b c : World} {va vb vc : Value} (h : PFr ex a va b vb) (h' : PFr ex b vb c vc) : PFr ex a va c vc where
  os := h'.os.trans h.os
  tape := h'.tape.trans h.tape
  output := h'.output.trans h.output
  size := Nat.le_trans h.size h'.size
  block := fun k hk h1 h2 => by
    have hb := h.size
    refine (h'.block k (by omega) h1 fun e => ?_).trans (h.block k hk h1 h2)
    rcases h.moved with hm | hm
    · exact h2 (e.trans hm)
    · have := hm k e.symm; omega
  moved := by
    have hb := h.size
    rcases h'.moved with hm | hm
    · rcases h.moved with hm2 | hm2
      · exact .inl (hm.trans hm2)
      · exact .inr fun k hk => hm2 k (hm ▸ hk)
    · exact .inr fun k hk => by have := hm k hk; omega
theorem PFr.grown {ex : Nat → Prop} {w w' : World} {v v' : Value} (hg : w.grownBy w' v.ownBlock) (hm : Moved w v v') : PFr ex w v w' v' :=
  ⟨hg.os, hg.tape, hg.output, hg.size, fun k hk _ hv => hg.block k hk hv, hm⟩
theorem PFr.set {ex : Nat → Prop} (w : World) (v u : Value) (g i : Nat) (hg : ex g) : PFr ex w v (w.setCell ⟨g, i, none⟩ u) v :=
  ⟨rfl, rfl, rfl, by simp [World.setCell], fun k _ hx _ => Deep.blk_setCell_other _ _ _ _ (fun e => hx (by rw [show k = g from e]; exact hg)), .inl rfl⟩
theorem PFr.more {ex ex' : Nat → Prop} {w w' : World} {v v' : Value} (h : PFr ex w v w' v') (he : ∀ k, ex k → ex' k) : PFr ex' w v w' v' :=
  ⟨h.os, h.tape, h.output, h.size, fun k hk h1 h2 => h.block k hk (fun e => h1 (he k e)) h2, h.moved⟩
/-- From nothing on: what lay there lies there. -/
theorem PFr.toBelow {ex : Nat → Prop} {B : Nat} {w w' : World} {v : Value} (h : PFr ex w (.slice none 0 0) w' v) (hB : B ≤ w.heap.size) (he : ∀ k, ex k → B ≤ k) : Below B w w' :=
  ⟨h.os, h.tape, h.output, h.size, fun k hk => h.block k (by omega) (fun e => by have := he k e; omega) (fun e => by cases e)⟩
/-- A property that holds in every world that keeps the blocks up to here, but for those of X and for that in which v lies. -/
def Md (X : Nat → Prop) (v : Value) (w : World) (P : World → Prop) : Prop := ∀ w'', w.heap.size ≤ w''.heap.size → (∀ q, q < w.heap.size → ¬ X q → some q ≠ v.ownBlock → w''.heap[q]? = w.heap[q]?) → P w''
theorem Md.step {X : Nat → Prop} {v v' : Value} {w w' : World} {P : World → Prop} (h : Md X v w P) (hp : PFr X w v w' v') : Md X v' w' P := fun w'' hz hk => by
  refine h w'' (Nat.le_trans hp.size hz) fun q hq hx hv => ?_
  have h1 := hp.size
  refine (hk q (by omega) hx fun e => ?_).trans (hp.block q hq hx hv)
  rcases hp.moved with hm | hm
  · exact hv (e.trans hm)
  · have := hm q e.symm; omega
theorem Md.at {X : Nat → Prop} {v : Value} {w : World} {P : World → Prop} (h : Md X v w P) : P w := h w (Nat.le_refl _) fun _ _ _ _ => rfl
/-! ## Rows of structs -/
def GRow {α : Type} (c : α → List Value) (k B : Nat) (w : World) (A : Option Addr) (cap : Nat) (l : List α) : Prop :=
  l.length ≤ cap ∧ cap ≤ maxLen ∧ ∀ i x, l[i]? = some x → ∃ ad : Addr, A = some ad ∧ ad.block < B ∧ ∀ j u, (c x)[j]? = some u → w.cell? ((ad.add (i * k)).add j) = some u
theorem GRow.nil {α : Type} (c : α → List Value) (k B : Nat) (w : World) : GRow c k B w none 0 [] := ⟨Nat.le_refl _, Nat.zero_le _, fun i x hx => by simp at hx⟩
theorem GRow.keep {α : Type} {c : α → List Value} {k B : Nat} {w w' : World} {A : Option Addr} {cap : Nat} {l : List α} (h : GRow c k B w A cap l) (hs : Same B w w') : GRow c k B w' A cap l :=
  ⟨h.1, h.2.1, fun i x hx => by
    obtain ⟨ad, e, hb, hat⟩ := h.2.2 i x hx
    exact ⟨ad, e, hb, fun j u hu => (hs.cell (by rw [block_add, block_add]; exact hb)).trans (hat j u hu)⟩⟩
theorem GRow.more {α : Type} {c : α → List Value} {k B B' : Nat} {w : World} {A : Option Addr} {cap : Nat} {l : List α} (h : GRow c k B w A cap l) (hB : B ≤ B') : GRow c k B' w A cap l :=
  ⟨h.1, h.2.1, fun i x hx => by
    obtain ⟨ad, e, hb, hat⟩ := h.2.2 i x hx
    exact ⟨ad, e, by omega, hat⟩⟩
theorem GRow.get {α : Type} {c : α → List Value} {k B : Nat} {w : World} {A : Option Addr} {cap : Nat} {l : List α} (h : GRow c k B w A cap l) {i : Nat} (hi : i < l.length) :
    ∃ x ad, l[i]? = some x ∧ A = some ad ∧ ad.block < B ∧ ∀ j u, (c x)[j]? = some u → w.cell? ((ad.add (i * k)).add j) = some u := by
  obtain ⟨ad, e, hb, hat⟩ := h.2.2 i l[i] (List.getElem?_eq_getElem hi)
  exact ⟨l[i], ad, List.getElem?_eq_getElem hi, e, hb, hat⟩
theorem add_add2 (a : Addr) (m n : Nat) : (a.add m).add n = a.add (m + n) := by
  unfold Addr.add
  by_cases hm : m = 0
  · subst hm; simp
  · by_cases hn : n = 0
    · subst hn; simp
    · simp [hm, hn]; try omega
theorem flat_atc {α : Type} {c : α → List Value} (k : Nat) : ∀ (l : List α) (_ : ∀ x, x ∈ l → (c x).length = k) (i : Nat) (x : α) (j : Nat), l[i]? = some x → j < k → (l.flatMap c)[i * k + j]? = (c x)[j]?
  | [], _, i, x, j, hx, _ => by simp at hx
  | y :: r, hf, 0, x, j, hx, hj => by
    simp at hx
    subst hx
    rw [List.flatMap_cons, List.getElem?_append_left (by rw [hf y (by simp)]; omega)]
    simp
  | y :: r, hf, i + 1, x, j, hx, hj => by
    rw [List.flatMap_cons, List.getElem?_append_right (by rw [hf y (by simp), Nat.add_mul]; omega), hf y (by simp)]
    have : (i + 1) * k + j - k = i * k + j := by rw [Nat.add_mul]; omega
    rw [this]
    exact flat_atc k r (fun x h => hf x (by simp [h])) i x j (by simpa using hx) hj
theorem own_grow {α : Type} {c : α → List Value} {w : World} {base e k : Nat} {v : Value} {n : Nat} {l : List α} (h : w.ownsRow base e k v n (l.flatMap c)) (hn : l.length = n) (hf : ∀ x, x ∈ l → (c x).length = k) :
    ∃ (A : Option Addr) (cap : Nat), v = .slice A n cap ∧ GRow c k w.heap.size w A cap l ∧ (A = none → n = 0 ∧ cap = 0) := by
  rcases h.2 with ⟨rfl, rfl⟩ | ⟨g, cap, cur, rfl, hb, hg, h1, h2, h3, h4⟩
  · refine ⟨none, 0, rfl, ⟨by omega, Nat.zero_le _, fun i x hx => ?_⟩, fun _ => ⟨rfl, rfl⟩⟩
    have := (List.getElem?_eq_some_iff.1 hx).1
    omega
  · refine ⟨some ⟨g, 0, none⟩, cap, rfl, ⟨by omega, h2, fun i x hx => ⟨⟨g, 0, none⟩, rfl, (Array.getElem?_eq_some_iff.1 hg).1, fun j u hu => ?_⟩⟩, fun h => by cases h⟩
    have hj : j < k := by rw [← hf x (List.mem_of_getElem? hx)]; exact (List.getElem?_eq_some_iff.1 hu).1
    have := h.cells (g := g) rfl (i * k + j) u (by rw [flat_atc k l hf i x j hx hj]; exact hu)
    rw [← add_add2] at this
    exact this
/-! ## Columns of rows -/
theorem Keeps.mono {b b' : Nat} {w w' : World} (h : Keeps b w w') (hb : b ≤ b') : Keeps b' w w' := ⟨fun q h1 h2 => h.1 q (by omega) h2, h.2⟩
theorem infoVals : (Try.prog.info? 27).map (fun i => (i.zero, i.size, i.bytes)) = some (some (.slice none 0 0), 1, 24) := by kernel_rfl
def RwRel (P : Nat → VT → Prop) (n B : Nat) (w W0 : World) (ov i : Value) (wr : World) : Prop :=
  ∃ (j : Nat) (R : List VT), j ≤ n ∧ i = .int .i64 j ∧ R.length = j ∧ wr.ownsRow W0.heap.size 27 1 ov j (R.map rwV) ∧ PFr (fun _ => False) W0 (.slice none 0 0) wr ov ∧
    (∀ r, r ∈ R → Md (· < W0.heap.size) ov wr fun w'' => Same B w w'' → VT.Rows w''.heap.size w'' r.a.A r.a.cap r.l) ∧ ∀ (q : Nat) (r : VT), R[q]? = some r → P q r
theorem RwRel.start {P : Nat → VT → Prop} {n B : Nat} {w W0 : World} : RwRel P n B w W0 (.slice none 0 0) (.int .i64 ((0 : Nat) : Int)) W0 :=
  ⟨0, [], Nat.zero_le _, rfl, rfl, World.ownsRow_nil _ _ _ _, PFr.refl _ _ _, fun b hb => (by cases hb), fun q r h => by simp at h⟩
theorem RwRel.step {P : Nat → VT → Prop} {n B j : Nat} {w W0 wo wx w4 : World} {ov ov' : Value} {R : List VT} {r : VT} (o : Obj) (hj : j < n) (hl : R.length = j) (hown : wo.ownsRow W0.heap.size 27 1 ov j (R.map rwV)) (hpf : PFr (fun _ => False) W0 (.slice none 0 0) wo ov)
    (hmd : ∀ r, r ∈ R → Md (· < W0.heap.size) ov wo fun w'' => Same B w w'' → VT.Rows w''.heap.size w'' r.a.A r.a.cap r.l) (hP : ∀ (q : Nat) (r : VT), R[q]? = some r → P q r)
    (hb1 : Below wo.heap.size wo wx) (hmod : ∀ w'', Keeps wo.heap.size wx w'' → Same B w w'' → VT.Rows w''.heap.size w'' r.a.A r.a.cap r.l) (hr : P j r)
    (hown4 : w4.ownsRow W0.heap.size 27 1 ov' (j + 1) (R.map rwV ++ [rwV r])) (hg4 : (wx.alloc o).grownBy w4 ov.ownBlock) (hm4 : Moved (wx.alloc o) ov ov') : RwRel P n B w W0 ov' (.int .i64 ((j : Int) + 1)) w4 := by
  have hol := hown.lt
  have z0 := hpf.size
  have z1 := hb1.size
  have pX : PFr (fun _ => False) wx ov w4 ov' := (PFr.below (bel1 wx o)).trans (PFr.grown hg4 hm4)
  have pO : PFr (fun _ => False) wo ov wx ov := PFr.below hb1
  have hmX : Md (· < W0.heap.size) ov wx fun w'' => Same B w w'' → VT.Rows w''.heap.size w'' r.a.A r.a.cap r.l := fun w'' hz hk hS =>
    hmod w'' ⟨fun q h1 h2 => hk q h2 (by omega) (fun e => by have := (hol q e.symm).2; omega), hz⟩ hS
  refine ⟨j + 1, R ++ [r], by omega, by simp, by simp [hl], ?_, hpf.trans (pO.trans pX), fun u hu => ?_, fun k a ha => ?_⟩
  · rw [List.map_append]
    exact hown4
  · rcases List.mem_append.1 hu with hu | hu
    · exact ((hmd u hu).step (pO.more fun _ h => h.elim)).step (pX.more fun _ h => h.elim)
    · rw [List.mem_singleton] at hu
      subst hu
      exact hmX.step (pX.more fun _ h => h.elim)
  · by_cases hk : k < R.length
    · exact hP k a (by rw [List.getElem?_append_left hk] at ha; exact ha)
    · rw [List.getElem?_append_right (by omega)] at ha
      have hk0 : k - R.length = 0 := by
        have := (List.getElem?_eq_some_iff.1 ha).1
        simp at this
        omega
      rw [hk0] at ha
      simp at ha
      subst ha
      have : k = j := by omega
      subst this
      exact hr
/-- What rowsOf and copyRows come to. -/
def RwPost (P : Nat → VT → Prop) (n B : Nat) (w : World) (e : Ending) (w' : World) : Prop :=
  ∃ (A : Option Addr) (cap : Nat) (R : List VT), R.length = n ∧ e = .returned (.slice A R.length cap) ∧ Below w.heap.size w w' ∧
    (∀ w'', Keeps w.heap.size w' w'' → Same B w w'' → VT.RRow w''.heap.size w'' A cap R) ∧ (∀ (q : Nat) (r : VT), R[q]? = some r → P q r) ∧ (A = none → R.length = 0 ∧ cap = 0)
theorem RwRel.fin {P : Nat → VT → Prop} {n B cap : Nat} {w W0 wr wf : World} {A : Option Addr} {R : List VT} (hl : R.length = n) (hbw : Below w.heap.size w W0) (hown : wr.ownsRow W0.heap.size 27 1 (.slice A n cap) n (R.map rwV)) (hpf : PFr (fun _ => False) W0 (.slice none 0 0) wr (.slice A n cap))
    (hmd : ∀ r, r ∈ R → Md (· < W0.heap.size) (.slice A n cap) wr fun w'' => Same B w w'' → VT.Rows w''.heap.size w'' r.a.A r.a.cap r.l) (hP : ∀ (q : Nat) (r : VT), R[q]? = some r → P q r) (cap' : Nat) (hc : n ≤ cap') (hcm : cap' ≤ maxLen) (h0 : A = none → n = 0 ∧ cap' = 0) (hf : Below wr.heap.size wr wf) :
    RwPost P n B w (.returned (.slice A n cap')) wf := by
  have z0 := hpf.size
  have z1 := hf.size
  have z2 := hbw.size
  refine ⟨A, cap', R, hl, by rw [hl], hbw.trans ((hpf.toBelow z2 (fun k e => e.elim)).trans (hf.mono (by omega))), fun w'' hk hS => ?_, hP, fun h => by have := h0 h; omega⟩
  have hk' : ∀ q, W0.heap.size ≤ q → q < wr.heap.size → w''.heap[q]? = wr.heap[q]? := fun q h1 h2 => (hk.1 q (by omega) (by omega)).trans (hf.block q h2)
  obtain ⟨A2, cap2, e, h, _⟩ := own_list (own_keep hown hk') hl
  cases e
  exact ⟨by omega, hcm, fun x hx => hmd x hx w'' (Nat.le_trans z1 hk.2) (fun q h1 h2 _ => hk' q (by omega) h1) hS, h.2.2⟩
end Go.Proofs.Ytcdaipkkddgbeaa
