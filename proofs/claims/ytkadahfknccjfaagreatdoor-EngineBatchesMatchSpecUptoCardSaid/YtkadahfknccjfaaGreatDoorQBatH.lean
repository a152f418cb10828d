/-
  Rows of types: their first error.
  Batches: the data, and what stays as it is while a list grows. No code is walked here.
  Lists of types: package engine and its reference.
  Lists of batches: the data, and what stays as it is while the list grows. No code is walked here.
-/
import Derived.Test.YtkadahfknccjfaaGreatDoorQData3
import Derived.Test.YtkadahfknccjfaaGreatDoorQApp
import Derived.Test.YtkadahfknccjfaaGreatDoorQRefK
import Derived.Test.YtkadahfknccjfaaGreatDoorQRvE
import Derived.Test.YtkadahfknccjfaaGreatDoorQMeanE
import Derived.Test.YtkadahfknccjfaaGreatDoorQVecK
namespace Go.Proofs.YtkadahfknccjfaaGreatDoor
open Go.RowKit
def rowI : List FT → List VT → Int
  | t :: q, x :: r => if checkS t x ≠ 0 then checkS t x else rowI q r
  | _, _ => 0
def checkRowS (ts : List FT) (l : List VT) : Int := if l.length ≠ ts.length then 1 else rowI ts l
def rowsS (ts : List FT) : List VT → Int
  | [] => 0
  | x :: r => if checkRowS ts x.l ≠ 0 then checkRowS ts x.l else rowsS ts r
theorem rowI_cons (t : FT) (q : List FT) (x : VT) (r : List VT) : rowI (t :: q) (x :: r) = if checkS t x ≠ 0 then checkS t x else rowI q r := rfl
theorem rowI_nil (ts : List FT) : rowI ts [] = 0 := by cases ts <;> rfl
theorem rowsS_cons (ts : List FT) (x : VT) (r : List VT) : rowsS ts (x :: r) = if checkRowS ts x.l ≠ 0 then checkRowS ts x.l else rowsS ts r := rfl
end Go.Proofs.YtkadahfknccjfaaGreatDoor
namespace Go.Proofs.YtkadahfknccjfaaGreatDoor
open Go.RowKit
/-- What changed: the blocks of ex, the row's own block; and where the row lies now. -/
structure PFr (ex : Nat → Prop) (w : World) (v : Value) (w' : World) (v' : Value) : Prop where
  os : w'.os = w.os
  tape : w'.tape = w.tape
  output : w'.output = w.output
  size : w.heap.size ≤ w'.heap.size
  block : ∀ k, k < w.heap.size → ¬ ex k → some k ≠ v.ownBlock → w'.heap[k]? = w.heap[k]?
  moved : v'.ownBlock = v.ownBlock ∨ ∀ k, v'.ownBlock = some k → w.heap.size ≤ k
theorem PFr.refl (ex : Nat → Prop) (w : World) (v : Value) : PFr ex w v w v := ⟨rfl, rfl, rfl, Nat.le_refl _, fun _ _ _ _ => rfl, .inl rfl⟩
theorem PFr.below {ex : Nat → Prop} {w w' : World} {v : Value} (h : Below w.heap.size w w') : PFr ex w v w' v := ⟨h.os, h.tape, h.output, h.size, fun k hk _ _ => h.block k hk, .inl rfl⟩
theorem PFr.trans {ex : Nat → Prop} {a b c : World} {va vb vc : Value} (h : PFr ex a va b vb) (h' : PFr ex b vb c vc) : PFr ex a va c vc where
  os := h'.os.trans h.os
  tape := h'.tape.trans h.tape
  output := h'.output.trans h.output
  size := Nat.le_trans h.size h'.size
  block := fun k hk h1 h2 => by
    have hb := h.size
    refine (h'.block k (by omega) h1 fun e => ?_).trans (h.block k hk h1 h2)
    rcases h.moved with hm | hm
    · exact h2 (e.trans hm)
    · have := hm k e.symm; omega
  moved := by
    have hb := h.size
    rcases h'.moved with hm | hm
    · rcases h.moved with hm2 | hm2
      · exact .inl (hm.trans hm2)
      · exact .inr fun k hk => hm2 k (hm ▸ hk)
    · exact .inr fun k hk => by have := hm k hk; omega
theorem PFr.grown {ex : Nat → Prop} {w w' : World} {v v' : Value} (hg : w.grownBy w' v.ownBlock) (hm : Moved w v v') : PFr ex w v w' v' :=
  ⟨hg.os, hg.tape, hg.output, hg.size, fun k hk _ hv => hg.block k hk hv, hm⟩
theorem PFr.set {ex : Nat → Prop} (w : World) (v u : Value) (g i : Nat) (hg : ex g) : PFr ex w v (w.setCell ⟨g, i, none⟩ u) v :=
  ⟨rfl, rfl, rfl, by simp [World.setCell], fun k _ hx _ => Deep.blk_setCell_other _ _ _ _ (fun e => hx (by rw [show k = g from e]; exact hg)), .inl rfl⟩
theorem PFr.more {ex ex' : Nat → Prop} {w w' : World} {v v' : Value} (h : PFr ex w v w' v') (he : ∀ k, ex k → ex' k) : PFr ex' w v w' v' :=
  ⟨h.os, h.tape, h.output, h.size, fun k hk h1 h2 => h.block k hk (fun e => h1 (he k e)) h2, h.moved⟩
/-- From nothing on: what lay there lies there. -/
theorem PFr.toBelow {ex : Nat → Prop} {B : Nat} {w w' : World} {v : Value} (h : PFr ex w (.slice none 0 0) w' v) (hB : B ≤ w.heap.size) (he : ∀ k, ex k → B ≤ k) : Below B w w' :=
  ⟨h.os, h.tape, h.output, h.size, fun k hk => h.block k (by omega) (fun e => by have := he k e; omega) (fun e => by cases e)⟩
/-- A property that holds in every world that keeps the blocks up to here, but for those of X and for that in which v lies. -/
def Md (X : Nat → Prop) (v : Value) (w : World) (P : World → Prop) : Prop := ∀ w'', w.heap.size ≤ w''.heap.size → (∀ q, q < w.heap.size → ¬ X q → some q ≠ v.ownBlock → w''.heap[q]? = w.heap[q]?) → P w''
theorem Md.step {X : Nat → Prop} {v v' : Value} {w w' : World} {P : World → Prop} (h : Md X v w P) (hp : PFr X w v w' v') : Md X v' w' P := fun w'' hz hk => by
  refine h w'' (Nat.le_trans hp.size hz) fun q hq hx hv => ?_
  have h1 := hp.size
  refine (hk q (by omega) hx fun e => ?_).trans (hp.block q hq hx hv)
  rcases hp.moved with hm | hm
  · exact hv (e.trans hm)
  · have := hm q e.symm; omega
theorem Md.at {X : Nat → Prop} {v : Value} {w : World} {P : World → Prop} (h : Md X v w P) : P w := h w (Nat.le_refl _) fun _ _ _ _ => rfl
/-! ## Rows of structs -/
/-- The cells of a vector. -/
def VecT.c (v : VecT) : List Value := [.int .i64 v.t.a.k, .int .i64 v.t.a.sc, .slice v.t.a.A v.t.l.length v.t.a.cap, .slice v.NA v.ns.length v.ncap, .slice v.IA v.is.length v.icap, .slice v.SA v.ss.length v.scap, .slice v.VA v.vs.length v.vcap]
/-- A batch in which all rows count. -/
structure BatT where
  n : Nat
  CA : Option Addr
  ccap : Nat
  cs : List VecT
def BatT.c (b : BatT) : List Value := [.int .i64 b.n, .slice b.CA b.cs.length b.ccap, .bool true, .slice none 0 0]
def GRow {α : Type} (c : α → List Value) (k B : Nat) (w : World) (A : Option Addr) (cap : Nat) (l : List α) : Prop :=
  l.length ≤ cap ∧ cap ≤ maxLen ∧ ∀ i x, l[i]? = some x → ∃ ad : Addr, A = some ad ∧ ad.block < B ∧ ∀ j u, (c x)[j]? = some u → w.cell? ((ad.add (i * k)).add j) = some u
theorem GRow.nil {α : Type} (c : α → List Value) (k B : Nat) (w : World) : GRow c k B w none 0 [] := ⟨Nat.le_refl _, Nat.zero_le _, fun i x hx => by simp at hx⟩
theorem GRow.keep {α : Type} {c : α → List Value} {k B : Nat} {w w' : World} {A : Option Addr} {cap : Nat} {l : List α} (h : GRow c k B w A cap l) (hs : Same B w w') : GRow c k B w' A cap l :=
  ⟨h.1, h.2.1, fun i x hx => by
    obtain ⟨ad, e, hb, hat⟩ := h.2.2 i x hx
    exact ⟨ad, e, hb, fun j u hu => (hs.cell (by rw [block_add, block_add]; exact hb)).trans (hat j u hu)⟩⟩
theorem GRow.more {α : Type} {c : α → List Value} {k B B' : Nat} {w : World} {A : Option Addr} {cap : Nat} {l : List α} (h : GRow c k B w A cap l) (hB : B ≤ B') : GRow c k B' w A cap l :=
  ⟨h.1, h.2.1, fun i x hx => by
    obtain ⟨ad, e, hb, hat⟩ := h.2.2 i x hx
    exact ⟨ad, e, by omega, hat⟩⟩
theorem GRow.get {α : Type} {c : α → List Value} {k B : Nat} {w : World} {A : Option Addr} {cap : Nat} {l : List α} (h : GRow c k B w A cap l) {i : Nat} (hi : i < l.length) :
    ∃ x ad, l[i]? = some x ∧ A = some ad ∧ ad.block < B ∧ ∀ j u, (c x)[j]? = some u → w.cell? ((ad.add (i * k)).add j) = some u := by
  obtain ⟨ad, e, hb, hat⟩ := h.2.2 i l[i] (List.getElem?_eq_getElem hi)
  exact ⟨l[i], ad, List.getElem?_eq_getElem hi, e, hb, hat⟩
theorem add_add2 (a : Addr) (m n : Nat) : (a.add m).add n = a.add (m + n) := by
  unfold Addr.add
  by_cases hm : m = 0
  · subst hm; simp
  · by_cases hn : n = 0
    · subst hn; simp
    · simp [hm, hn]; try omega
theorem flat_atc {α : Type} {c : α → List Value} (k : Nat) : ∀ (l : List α) (_ : ∀ x, x ∈ l → (c x).length = k) (i : Nat) (x : α) (j : Nat), l[i]? = some x → j < k → (l.flatMap c)[i * k + j]? = (c x)[j]?
  | [], _, i, x, j, hx, _ => by simp at hx
  | y :: r, hf, 0, x, j, hx, hj => by
    simp at hx
    subst hx
    rw [List.flatMap_cons, List.getElem?_append_left (by rw [hf y (by simp)]; omega)]
    simp
  | y :: r, hf, i + 1, x, j, hx, hj => by
    rw [List.flatMap_cons, List.getElem?_append_right (by rw [hf y (by simp), Nat.add_mul]; omega), hf y (by simp)]
    have : (i + 1) * k + j - k = i * k + j := by rw [Nat.add_mul]; omega
    rw [this]
    exact flat_atc k r (fun x h => hf x (by simp [h])) i x j (by simpa using hx) hj
theorem own_grow {α : Type} {c : α → List Value} {w : World} {base e k : Nat} {v : Value} {n : Nat} {l : List α} (h : w.ownsRow base e k v n (l.flatMap c)) (hn : l.length = n) (hf : ∀ x, x ∈ l → (c x).length = k) :
    ∃ (A : Option Addr) (cap : Nat), v = .slice A n cap ∧ GRow c k w.heap.size w A cap l ∧ (A = none → n = 0 ∧ cap = 0) := by
  rcases h.2 with ⟨rfl, rfl⟩ | ⟨g, cap, cur, rfl, hb, hg, h1, h2, h3, h4⟩
  · refine ⟨none, 0, rfl, ⟨by omega, Nat.zero_le _, fun i x hx => ?_⟩, fun _ => ⟨rfl, rfl⟩⟩
    have := (List.getElem?_eq_some_iff.1 hx).1
    omega
  · refine ⟨some ⟨g, 0, none⟩, cap, rfl, ⟨by omega, h2, fun i x hx => ⟨⟨g, 0, none⟩, rfl, (Array.getElem?_eq_some_iff.1 hg).1, fun j u hu => ?_⟩⟩, fun h => by cases h⟩
    have hj : j < k := by rw [← hf x (List.mem_of_getElem? hx)]; exact (List.getElem?_eq_some_iff.1 hu).1
    have := h.cells (g := g) rfl (i * k + j) u (by rw [flat_atc k l hf i x j hx hj]; exact hu)
    rw [← add_add2] at this
    exact this
/-! ## Columns of rows -/
/-- Column k of rows. -/
def Col (rows : List VT) (k : Nat) : List VT := rows.map fun r => r.l.getD k zeroV
theorem Col_len (rows : List VT) (k : Nat) : (Col rows k).length = rows.length := by simp [Col]
theorem Col_get {rows : List VT} {q : Nat} {r : VT} (h : rows[q]? = some r) (k : Nat) : (Col rows k)[q]? = some (r.l.getD k zeroV) := by simp [Col, h]
/-- The columns of a batch are those of rows. -/
def ColsOf (F : List VT → List VT) (ts : List FT) (rows : List VT) (cs : List VecT) : Prop := ∀ (k : Nat) (v : VecT), cs[k]? = some v → ∃ t, ts[k]? = some t ∧ VecOf t (F (Col rows k)) v
/-- What newBatch comes to. -/
def BatPost (F : List VT → List VT) (ts : List FT) (rows : List VT) (B : Nat) (w : World) (e : Ending) (w' : World) : Prop :=
  ∃ (A : Option Addr) (cap : Nat) (cs : List VecT), cs.length = ts.length ∧ e = .returned (.agg #[.int .i64 rows.length, .slice A cs.length cap, .bool true, .slice none 0 0]) ∧ Below w.heap.size w w' ∧
    (∀ w'', Keeps w.heap.size w' w'' → Same B w w'' → GRow VecT.c 7 w''.heap.size w'' A cap cs ∧ ∀ v, v ∈ cs → VecT.In w''.heap.size w'' v) ∧ ColsOf F ts rows cs ∧ (A = none → cs.length = 0 ∧ cap = 0)
/-- What the loop over the columns has at its head. -/
def NbRel (F : List VT → List VT) (ts : List FT) (rows : List VT) (B : Nat) (w W0 : World) (bb n flen : Nat) (i : Value) (wr : World) : Prop :=
  ∃ (j : Nat) (A : Option Addr) (cap : Nat) (cs : List VecT), j ≤ flen ∧ i = .int .i64 j ∧ cs.length = j ∧ wr.heap[bb]? = some (.cells #[.int .i64 n, .slice A j cap, .bool true, .slice none 0 0] 32 (0, 0)) ∧
    wr.ownsRow W0.heap.size 54 7 (.slice A j cap) j (cs.flatMap VecT.c) ∧ PFr (· = bb) W0 (.slice none 0 0) wr (.slice A j cap) ∧
    (∀ v, v ∈ cs → Md (· < W0.heap.size) (.slice A j cap) wr fun w'' => Same B w w'' → VecT.In w''.heap.size w'' v) ∧ ColsOf F ts rows cs
/-- What the loop over the values of a column has at its head. -/
def ClR (L : List VT) (B0 : Nat) (W1 : World) (size : Nat) (sv i : Value) (wr : World) : Prop :=
  ∃ j : Nat, j ≤ size ∧ i = .int .i64 j ∧ wr.ownsRow B0 61 5 sv j ((L.take j).flatMap vCells) ∧ Below B0 W1 wr
theorem ClR.step {L : List VT} {B0 : Nat} {W1 wr w2 w3 : World} {size j : Nat} {sv sv' : Value} {x : VT} (hB0 : W1.heap.size = B0) (hx : L[j]? = some x) (hj : j < size) (hown : wr.ownsRow B0 61 5 sv j ((L.take j).flatMap vCells)) (hb : Below B0 W1 wr)
    (hb2 : Below wr.heap.size wr w2) (o : Obj) (hown' : w3.ownsRow B0 61 5 sv' (j + 1) ((L.take j).flatMap vCells ++ vCells x)) (hg : (w2.alloc o).grownBy w3 sv.ownBlock) : ClR L B0 W1 size sv' (.int .i64 ((j : Int) + 1)) w3 := by
  have hol := hown.lt
  have hz2 := hb2.size
  have hz := hb.size
  refine ⟨j + 1, by omega, by simp, by rw [List.take_add_one, hx, List.flatMap_append]; simpa using hown', ?_⟩
  refine ⟨hg.os.trans (hb2.os.trans hb.os), hg.tape.trans (hb2.tape.trans hb.tape), hg.output.trans (hb2.output.trans hb.output), by have := hg.size; simp at this; omega, fun k hk => ?_⟩
  rw [hg.block k (by simp; omega) (fun e => by have := (hol k e.symm).1; omega), Below.heap_alloc _ _ _ (by omega), hb2.block k (by omega), hb.block k hk]
theorem VecT.c_len (v : VecT) : v.c.length = 7 := rfl
theorem VecT.c_one (v : VecT) : ∀ u, u ∈ v.c → u.oneCell' = true := fun u hu => by simp [VecT.c] at hu; rcases hu with rfl | rfl | rfl | rfl | rfl | rfl | rfl <;> rfl
theorem BatT.c_one (b : BatT) : ∀ u, u ∈ b.c → u.oneCell' = true := fun u hu => by simp [BatT.c] at hu; rcases hu with rfl | rfl | rfl | rfl <;> rfl
theorem Keeps.mono {b b' : Nat} {w w' : World} (h : Keeps b w w') (hb : b ≤ b') : Keeps b' w w' := ⟨fun q h1 h2 => h.1 q (by omega) h2, h.2⟩
theorem NbRel.step {F : List VT → List VT} {ts : List FT} {rows : List VT} {B : Nat} {w W0 wo wr wx w4 : World} {bb n flen j ccap gg cap4 : Nat} {CA : Option Addr} {cs : List VecT} {t : FT} {v : VecT} (o : Obj) (hj : j < flen) (hcl : cs.length = j)
    (hP : wo.heap[bb]? = some (.cells #[.int .i64 n, .slice CA j ccap, .bool true, .slice none 0 0] 32 (0, 0))) (hown : wo.ownsRow W0.heap.size 54 7 (.slice CA j ccap) j (cs.flatMap VecT.c)) (hpf : PFr (· = bb) W0 (.slice none 0 0) wo (.slice CA j ccap))
    (hmd : ∀ v, v ∈ cs → Md (· < W0.heap.size) (.slice CA j ccap) wo fun w'' => Same B w w'' → VecT.In w''.heap.size w'' v) (hco : ColsOf F ts rows cs) (hbb : bb < W0.heap.size)
    (hb1 : Below wo.heap.size wo wr) (hbx : Below wr.heap.size wr wx) (hmod : ∀ w'', Keeps wr.heap.size wx w'' → Same B w w'' → VecT.In w''.heap.size w'' v) (ht : ts[j]? = some t) (hof : VecOf t (F (Col rows j)) v)
    (hown4 : w4.ownsRow W0.heap.size 54 7 (.slice (some ⟨gg, 0, none⟩) (j + 1) cap4) (j + 1) (cs.flatMap VecT.c ++ v.c)) (hg4 : (wx.alloc o).grownBy w4 (Value.slice CA j ccap).ownBlock) (hm4 : Moved (wx.alloc o) (.slice CA j ccap) (.slice (some ⟨gg, 0, none⟩) (j + 1) cap4)) :
    NbRel F ts rows B w W0 bb n flen (.int .i64 ((j : Int) + 1)) (w4.setCell ⟨bb, 1, none⟩ (.slice (some ⟨gg, 0, none⟩) (j + 1) cap4)) := by
  have hol := hown.lt
  have z0 := hpf.size
  have z1 := hb1.size
  have z2 := hbx.size
  have pX : PFr (· = bb) wx (.slice CA j ccap) (w4.setCell ⟨bb, 1, none⟩ (.slice (some ⟨gg, 0, none⟩) (j + 1) cap4)) (.slice (some ⟨gg, 0, none⟩) (j + 1) cap4) :=
    (PFr.below (bel1 wx o)).trans ((PFr.grown hg4 hm4).trans (PFr.set w4 _ _ bb 1 rfl))
  have pO : PFr (· = bb) wo (.slice CA j ccap) wx (.slice CA j ccap) := (PFr.below hb1).trans (PFr.below hbx)
  have hsub : ∀ k, k = bb → k < W0.heap.size := fun k e => by rw [e]; exact hbb
  have hP4 : w4.heap[bb]? = some (.cells #[.int .i64 n, .slice CA j ccap, .bool true, .slice none 0 0] 32 (0, 0)) := by
    rw [hg4.block bb (by simp; omega) (fun e => by have := (hol bb e.symm).1; omega), Below.heap_alloc _ _ _ (by omega), hbx.block bb (by omega), hb1.block bb (by omega)]
    exact hP
  have hmX : Md (· < W0.heap.size) (.slice CA j ccap) wx fun w'' => Same B w w'' → VecT.In w''.heap.size w'' v := fun w'' hz hk hS =>
    hmod w'' ⟨fun q h1 h2 => hk q h2 (by omega) (fun e => by have := (hol q e.symm).2; omega), hz⟩ hS
  refine ⟨j + 1, _, cap4, cs ++ [v], by omega, by simp, by simp [hcl], ?_, ?_, hpf.trans (pO.trans pX), fun u hu => ?_, fun k u hu => ?_⟩
  · rw [setCell_row _ _ _ _ _ _ _ hP4]; simp
  · rw [List.flatMap_append, List.flatMap_singleton]
    exact own_keep hown4 fun q h1 _ => Deep.blk_setCell_other _ _ _ _ (by simp; omega)
  · rcases List.mem_append.1 hu with hu | hu
    · exact ((hmd u hu).step (pO.more hsub)).step (pX.more hsub)
    · rw [List.mem_singleton] at hu
      subst hu
      exact hmX.step (pX.more hsub)
  · by_cases hk : k < cs.length
    · exact hco k u (by rw [List.getElem?_append_left hk] at hu; exact hu)
    · rw [List.getElem?_append_right (by omega)] at hu
      have hk0 : k - cs.length = 0 := by
        have := (List.getElem?_eq_some_iff.1 hu).1
        simp at this
        omega
      rw [hk0] at hu
      simp at hu
      subst hu
      have : k = j := by omega
      subst this
      exact ⟨t, ht, hof⟩
theorem NbRel.fin {F : List VT → List VT} {ts : List FT} {rows : List VT} {B : Nat} {w W0 wr Wf : World} {n ccap : Nat} {CA : Option Addr} {cs : List VecT} (hcl : cs.length = ts.length) (hn : rows.length = n) (hz : W0.heap.size = w.heap.size + 2) (hbw : Below w.heap.size w W0)
    (hown : wr.ownsRow W0.heap.size 54 7 (.slice CA cs.length ccap) cs.length (cs.flatMap VecT.c)) (hpf : PFr (· = w.heap.size + 1) W0 (.slice none 0 0) wr (.slice CA cs.length ccap))
    (hmd : ∀ v, v ∈ cs → Md (· < W0.heap.size) (.slice CA cs.length ccap) wr fun w'' => Same B w w'' → VecT.In w''.heap.size w'' v) (hco : ColsOf F ts rows cs) (hf : Below w.heap.size wr Wf) (hk : ∀ q, W0.heap.size ≤ q → q < wr.heap.size → Wf.heap[q]? = wr.heap[q]?) :
    BatPost F ts rows B w (.returned (.agg #[.int .i64 n, .slice CA cs.length ccap, .bool true, .slice none 0 0])) Wf := by
  have z0 := hpf.size
  have z1 := hf.size
  obtain ⟨A, cap, e, _, hnil⟩ := own_grow hown rfl (fun _ _ => rfl)
  cases e
  refine ⟨CA, ccap, cs, hcl, by rw [hn], hbw.trans ((hpf.toBelow (by omega) (fun k e => by omega)).trans hf), fun w'' hk2 hS => ⟨?_, fun v hv => ?_⟩, hco, hnil⟩
  · have hk2' : ∀ q, W0.heap.size ≤ q → q < wr.heap.size → w''.heap[q]? = wr.heap[q]? := fun q h1 h2 => (hk2.1 q (by omega) (by omega)).trans (hk q h1 h2)
    obtain ⟨A, cap, e, h, _⟩ := own_grow (own_keep hown hk2') rfl (fun _ _ => rfl)
    cases e
    exact h
  · exact hmd v hv w'' (Nat.le_trans z1 hk2.2) (fun q h1 h2 _ => (hk2.1 q (by omega) (by omega)).trans (hk q (by omega) h1)) hS
theorem infoVector : (Tryz.prog.info? 54).map (fun i => (i.zero, i.size, i.bytes)) = some (some (.agg #[.int .i64 0, .int .i64 0, .slice none 0 0, .slice none 0 0, .slice none 0 0, .slice none 0 0, .slice none 0 0]), 7, 136) := by kernel_rfl
theorem infoBatch : (Tryz.prog.info? 32).map (fun i => (i.zero, i.size, i.bytes)) = some (some (.agg #[.int .i64 0, .slice none 0 0, .bool false, .slice none 0 0]), 4, 64) := by kernel_rfl
end Go.Proofs.YtkadahfknccjfaaGreatDoor
namespace Go.Proofs.YtkadahfknccjfaaGreatDoor
open Go.RowKit
/-- The error of types. -/
def typesS (l : List FT) : Int := if 120 < l.length then 7 else plainsS l
set_option maxRecDepth 100000 in
set_option maxHeartbeats 1000000 in
theorem echeckTypes_any (A : Option Addr) (cap len : Nat) (l : List FT) (B : Nat) (w : World) (hr : FT.TRow B w A cap l) (hB : B ≤ w.heap.size) (hlen : Hid (l.length = len)) :
    Calls Tryz.prog 9 #[.slice A len cap] w fun e w' => e = .returned (.int .i64 (typesS l)) ∧ Below w.heap.size w w' := by
  have hll : len ≤ 9223372036854775807 := by rw [← hlen.out]; exact Nat.le_trans hr.1 hr.2.1
  by_cases h120 : 120 < len
  · have hts : typesS l = 7 := by unfold typesS; rw [if_pos (by rw [hlen.out]; exact h120)]
    rw [hts]
    clear hr hlen hts
    go_enter Tryz.func9, Tryz.ntmps9
    go_wp2
    go_ret
    exact ⟨rfl, Below.refl _ _⟩
  have hts : typesS l = plainsS l := by unfold typesS; rw [if_neg (by rw [hlen.out]; exact h120)]
  rw [hts]
  obtain ⟨R, hR⟩ : ∃ R, plainsS l = R := ⟨_, rfl⟩
  rw [hR]
  have HR := Lib.hid hR
  clear hR hts
  go_enter Tryz.func9, Tryz.ntmps9
  go_wp2
  go_loopw [11] (fun i wr => ∃ j : Nat, j ≤ len ∧ i = .int .i64 j ∧ Below w.heap.size w wr ∧ Hid (plainsS (l.drop j) = R)) (fun i _ => len - (intOf i).toNat)
  case atStart => exact ⟨0, Nat.zero_le _, rfl, Below.refl _ _, HR⟩
  case round =>
    obtain ⟨j, hj, rfl, hbr, HRj⟩ := hrel
    by_cases hlt : j < len
    · have hSr := Same.mono (Same.of_below hbr) hB
      obtain ⟨x, ad, hx, rfl, hb, d0, d1, d2⟩ := (hr.keep hSr).get (show j < l.length by rw [hlen.out]; exact hlt)
      have hzr := hbr.size
      have hic := Lib.hid (fun o => eplainType_any x B (wr.alloc o) ((hr.2.2.1 x (mem_of_get? hx)).keep (hSr.alloc (by omega) o)) (by simp; omega))
      have HR2 := HRj.out
      rw [drop_of_get? hx] at HR2
      unfold plainsS at HR2
      have hal : ∀ o, Below w.heap.size w (wr.alloc o) := fun o => hbr.alloc hzr o
      have hal := Lib.hid hal
      by_cases h0 : plainS x = 0
      · have H0 := Lib.hid h0
        have HR3 := Lib.hid (show plainsS (l.drop (j + 1)) = R by rw [← HR2, if_neg (by simp [h0])])
        clear h0 HR2 HRj hr hx
        go_wp2_with fail
        refine (hic.out _).mono ?_
        rintro e w' ⟨rfl, hb2⟩
        rw [H0.out]
        go_wp2
        go_roundw
        case rel => exact ⟨j + 1, by omega, by go_num, (hal.out _).trans (hb2.mono (by simp; omega)), HR3⟩
        case measure => simp [intOf]; omega
      · have n0 : (plainS x != 0) = true := by simpa using h0
        have HR3 := Lib.hid (show plainS x = R by rw [← HR2, if_pos h0])
        clear h0 HR2 HRj hr hx
        go_wp2_with fail
        refine (hic.out _).mono ?_
        rintro e w' ⟨rfl, hb2⟩
        go_wp2
        go_ret
        exact ⟨by rw [← HR3.out]; rfl, (hal.out _).trans (hb2.mono (by simp; omega))⟩
    · have HR3 : Hid (0 = R) := by have := HRj.out; rw [List.drop_eq_nil_of_le (by rw [hlen.out]; omega)] at this; exact this
      go_wp2
      go_ret
      exact ⟨by rw [← HR3.out]; rfl, hbr⟩
set_option maxRecDepth 100000 in
set_option maxHeartbeats 1000000 in
theorem rTypes_any (A : Option Addr) (cap len : Nat) (l : List FT) (B : Nat) (w : World) (hr : FT.TRow B w A cap l) (hB : B ≤ w.heap.size) (hlen : Hid (l.length = len)) :
    Calls Tryz.prog 15 #[.slice A len cap] w fun e w' => e = .returned (.int .i64 (typesS l)) ∧ Below w.heap.size w w' := by
  have hll : len ≤ 9223372036854775807 := by rw [← hlen.out]; exact Nat.le_trans hr.1 hr.2.1
  have hc := Lib.hid (rCheckTypes_any A cap len l B w hr hB hlen)
  by_cases h120 : 120 < len
  · have hts : typesS l = 7 := by unfold typesS; rw [if_pos (by rw [hlen.out]; exact h120)]
    rw [hts]
    clear hr hlen hts
    go_enter Tryz.func15, Tryz.ntmps15
    go_wp2
    go_ret
    exact ⟨rfl, Below.refl _ _⟩
  have hts : typesS l = plainsS l := by unfold typesS; rw [if_neg (by rw [hlen.out]; exact h120)]
  rw [hts]
  clear hr hlen hts
  go_enter Tryz.func15, Tryz.ntmps15
  go_wp2_with fail
  refine hc.out.mono ?_
  rintro e w' ⟨rfl, hb⟩
  go_wp2
  go_ret
  exact ⟨rfl, hb⟩
end Go.Proofs.YtkadahfknccjfaaGreatDoor
namespace Go.Proofs.YtkadahfknccjfaaGreatDoor
open Go.RowKit
/-- A batch in memory. -/
def BatT.In (B : Nat) (w : World) (b : BatT) : Prop := GRow VecT.c 7 B w b.CA b.ccap b.cs ∧ ∀ v, v ∈ b.cs → VecT.In B w v
theorem BatT.In.keep {B : Nat} {w w' : World} {b : BatT} (h : BatT.In B w b) (hs : Same B w w') : BatT.In B w' b := ⟨h.1.keep hs, fun v hv => (h.2 v hv).keep hs⟩
/-- Part i of rows, so many in each. -/
def chunkAt (rows : List VT) (n i : Nat) : List VT := (rows.drop (i * n)).take n
theorem chunkAt_len (rows : List VT) (n i : Nat) : (chunkAt rows n i).length = min n (rows.length - i * n) := by simp [chunkAt]
theorem chunkAt_mem {rows : List VT} {n i : Nat} {r : VT} (h : r ∈ chunkAt rows n i) : r ∈ rows := List.mem_of_mem_drop (List.mem_of_mem_take h)
/-- Batches are those of the parts of rows. -/
def BsOf (F : List VT → List VT) (ts : List FT) (rows : List VT) (n : Nat) (bs : List BatT) : Prop :=
  ∀ (i : Nat) (b : BatT), bs[i]? = some b → b.n = (chunkAt rows n i).length ∧ b.cs.length = ts.length ∧ ColsOf F ts (chunkAt rows n i) b.cs
/-- What Batches is refused for. -/
def batchS (ts : List FT) (rows : List VT) (n : Int) : Int := if typesS ts ≠ 0 then typesS ts else if rowsS ts rows ≠ 0 then rowsS ts rows else if n < 1 ∨ 1024 < n then 3 else 0
/-- So many batches have all rows, and none has no row. -/
def BsLen (rows : List VT) (n k : Nat) : Prop := rows.length ≤ k * n ∧ (k = 0 ∨ (k - 1) * n < rows.length)
def BsPost (F : List VT → List VT) (ts : List FT) (rows : List VT) (n : Int) (B : Nat) (w : World) (e : Ending) (w' : World) : Prop :=
  ∃ (A : Option Addr) (cap : Nat) (bs : List BatT), e = .returned (.tuple #[.slice A bs.length cap, .int .i64 (batchS ts rows n)]) ∧ Below w.heap.size w w' ∧
    (∀ w'', Keeps w.heap.size w' w'' → Same B w w'' → GRow BatT.c 4 w''.heap.size w'' A cap bs ∧ ∀ b, b ∈ bs → BatT.In w''.heap.size w'' b) ∧
    (batchS ts rows n = 0 → BsOf F ts rows n.toNat bs ∧ BsLen rows n.toNat bs.length) ∧ (batchS ts rows n ≠ 0 → bs = [])
theorem bs_none {F : List VT → List VT} {ts : List FT} {rows : List VT} {n R : Int} {B : Nat} {w w' : World} (h : batchS ts rows n = R) (hR : R ≠ 0) (hb : Below w.heap.size w w') : BsPost F ts rows n B w (.returned (.tuple #[.slice none 0 0, .int .i64 R])) w' :=
  ⟨none, 0, [], by rw [h]; rfl, hb, fun w'' _ _ => ⟨GRow.nil _ _ _ _, fun b hb => by cases hb⟩, fun h0 => absurd (h.symm.trans h0) hR, fun _ => rfl⟩
/-- What stands when a list of batches has grown to i batches. -/
def BsRel (X : Nat → Prop) (F : List VT → List VT) (ts : List FT) (rows : List VT) (n B : Nat) (w W0 : World) (i : Nat) (out : Value) (bs : List BatT) (wr : World) : Prop :=
  bs.length = i ∧ wr.ownsRow W0.heap.size 32 4 out i (bs.flatMap BatT.c) ∧ PFr X W0 (.slice none 0 0) wr out ∧
    (∀ b, b ∈ bs → Md (· < W0.heap.size) out wr fun w'' => Same B w w'' → BatT.In w''.heap.size w'' b) ∧ BsOf F ts rows n bs
theorem BsRel.start {X : Nat → Prop} {F : List VT → List VT} {ts : List FT} {rows : List VT} {n B : Nat} {w W0 : World} : BsRel X F ts rows n B w W0 0 (.slice none 0 0) [] W0 :=
  ⟨rfl, World.ownsRow_nil _ _ _ _, PFr.refl _ _ _, fun b hb => (by cases hb), fun i b hb => by simp at hb⟩
theorem BsRel.step {X : Nat → Prop} {F : List VT → List VT} {ts : List FT} {rows : List VT} {n B i : Nat} {w W0 wo wx w4 : World} {out out' : Value} {bs : List BatT} {CA : Option Addr} {ccap : Nat} {cs : List VecT} (o : Obj) (hX : ∀ k, X k → k < W0.heap.size)
    (h : BsRel X F ts rows n B w W0 i out bs wo) (hb1 : Below wo.heap.size wo wx) (hcs : cs.length = ts.length)
    (hmod : ∀ w'', Keeps wo.heap.size wx w'' → Same B w w'' → GRow VecT.c 7 w''.heap.size w'' CA ccap cs ∧ ∀ v, v ∈ cs → VecT.In w''.heap.size w'' v) (hof : ColsOf F ts (chunkAt rows n i) cs)
    (hown4 : w4.ownsRow W0.heap.size 32 4 out' (i + 1) (bs.flatMap BatT.c ++ BatT.c ⟨(chunkAt rows n i).length, CA, ccap, cs⟩)) (hg4 : (wx.alloc o).grownBy w4 out.ownBlock) (hm4 : Moved (wx.alloc o) out out') :
    BsRel X F ts rows n B w W0 (i + 1) out' (bs ++ [⟨(chunkAt rows n i).length, CA, ccap, cs⟩]) w4 := by
  obtain ⟨hl, hown, hpf, hmd, hco⟩ := h
  have hol := hown.lt
  have z0 := hpf.size
  have z1 := hb1.size
  have pX : PFr X wx out w4 out' := (PFr.below (bel1 wx o)).trans (PFr.grown hg4 hm4)
  have pO : PFr X wo out wx out := PFr.below hb1
  have hmX : Md (· < W0.heap.size) out wx fun w'' => Same B w w'' → BatT.In w''.heap.size w'' ⟨(chunkAt rows n i).length, CA, ccap, cs⟩ := fun w'' hz hk hS =>
    hmod w'' ⟨fun q h1 h2 => hk q h2 (by omega) (fun e => by have := (hol q e.symm).2; omega), hz⟩ hS
  refine ⟨by simp [hl], ?_, hpf.trans (pO.trans pX), fun u hu => ?_, fun k u hu => ?_⟩
  · rw [List.flatMap_append, List.flatMap_singleton]
    exact hown4
  · rcases List.mem_append.1 hu with hu | hu
    · exact ((hmd u hu).step (pO.more hX)).step (pX.more hX)
    · rw [List.mem_singleton] at hu
      subst hu
      exact hmX.step (pX.more hX)
  · by_cases hk : k < bs.length
    · exact hco k u (by rw [List.getElem?_append_left hk] at hu; exact hu)
    · rw [List.getElem?_append_right (by omega)] at hu
      have hk0 : k - bs.length = 0 := by
        have := (List.getElem?_eq_some_iff.1 hu).1
        simp at this
        omega
      rw [hk0] at hu
      simp at hu
      subst hu
      have : k = i := by omega
      subst this
      exact ⟨rfl, hcs, hof⟩
theorem RRow_take {B : Nat} {w : World} {A : Option Addr} {cap : Nat} {l : List VT} (h : VT.RRow B w A cap l) (k : Nat) : VT.RRow B w A cap (l.take k) := by
  refine ⟨by have := h.1; simp; omega, h.2.1, fun x hx => h.2.2.1 x (List.mem_of_mem_take hx), fun i x hx => h.2.2.2 i x ?_⟩
  rw [List.getElem?_take] at hx
  split at hx
  · exact hx
  · cases hx
/-- Rows of which a part lies in memory as a slice of their own. -/
theorem RRow_part {B : Nat} {w : World} {ad : Addr} {cap : Nat} {l : List VT} (h : VT.RRow B w (some ad) cap l) (m k cap' : Nat) (hk : k ≤ cap') (hc : cap' ≤ maxLen) : VT.RRow B w (some (ad.add m)) cap' ((l.drop m).take k) := by
  refine ⟨by simp; omega, hc, fun x hx => h.2.2.1 x (List.mem_of_mem_drop (List.mem_of_mem_take hx)), fun i x hx => ?_⟩
  have hx2 : l[m + i]? = some x := by
    rw [List.getElem?_take] at hx
    split at hx
    · rw [List.getElem?_drop] at hx; exact hx
    · cases hx
  obtain ⟨ad', e, hb, hat⟩ := h.2.2.2 (m + i) x hx2
  cases e
  exact ⟨_, rfl, by rw [block_add]; exact hb, by rw [add_add2]; exact hat⟩
theorem drop_next {α : Type} {rows : List α} {i size m k : Nat} (hm : rows.length - i * size = m) (hk : min size m = k) : rows.drop ((i + 1) * size) = (rows.drop (i * size)).drop k ∧ rows.length - (i + 1) * size = m - k := by
  have e : (i + 1) * size = i * size + size := Nat.succ_mul i size
  refine ⟨?_, by rw [e]; omega⟩
  rw [List.drop_drop, e]
  by_cases h : size ≤ m
  · have : k = size := by omega
    rw [this]
  · have : k = m := by omega
    subst this
    rw [List.drop_eq_nil_of_le (by omega), List.drop_eq_nil_of_le (by omega)]
theorem RRow_next {B : Nat} {w : World} {ad : Addr} {cap : Nat} {rows : List VT} {i size m k : Nat} (h : VT.RRow B w (some ad) cap (rows.drop (i * size))) (hm : rows.length - i * size = m) (hk : min size m = k) : VT.RRow B w (some (ad.add k)) (cap - k) (rows.drop ((i + 1) * size)) := by
  rw [(drop_next hm hk).1]
  have h1 := h.1
  have h2 := h.2.1
  simp at h1
  have := RRow_part h k ((rows.drop (i * size)).drop k).length (cap - k) (by simp; omega) (by omega)
  rw [List.take_length] at this
  exact this
theorem RRow_next2 {B : Nat} {w : World} {ad : Addr} {cap : Nat} {rows : List VT} {i size m k : Nat} (h : VT.RRow B w (some ad) cap (rows.drop (i * size))) (hm : rows.length - i * size = m) (hk : min size m = k) : VT.RRow B w (if cap = k then some ad else some (ad.add k)) (cap - k) (rows.drop ((i + 1) * size)) := by
  have h1 := RRow_next h hm hk
  by_cases e : cap = k
  · rw [if_pos e]
    have hl := h1.1
    have hn : rows.drop ((i + 1) * size) = [] := List.eq_nil_of_length_eq_zero (by omega)
    rw [hn]
    exact ⟨Nat.zero_le _, h1.2.1, fun x hx => (by cases hx), fun i x hx => by simp at hx⟩
  · rw [if_neg e]
    exact h1
end Go.Proofs.YtkadahfknccjfaaGreatDoor
