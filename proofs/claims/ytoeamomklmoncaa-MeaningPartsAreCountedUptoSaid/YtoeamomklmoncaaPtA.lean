/-
  What is known of trees and their cells, in general.
-/
import Derived.Test.YtoeamomklmoncaaDtH
namespace Go.Proofs.Ytoeamomklmoncaa
open Go.RowKit
theorem kids5 (d : DT) : nL (d.kid 0) + nL (d.kid 1) + nL (d.kid 2) + nL (d.kid 3) + nL (d.kid 4) + 1 ≤ d.n := by
  obtain ⟨c, k⟩ := d
  rw [DT.n_node]
  unfold DT.kid DT.k
  match k with
  | [] => simp [nL]
  | [a] => simp [nL_nil]; omega
  | [a, b] => simp [nL_nil]; omega
  | [a, b, e] => simp [nL_nil]; omega
  | [a, b, e, g] => simp [nL_nil]; omega
  | a :: b :: e :: g :: h :: r => simp; omega
theorem nL_flat {f : DT → List DT} {l : List DT} (h : ∀ x, nL (f x) ≤ x.n) : nL (l.flatMap f) ≤ nL l := by
  induction l with
  | nil => exact Nat.le_refl _
  | cons y l ih =>
    rw [List.flatMap_cons, nL_append, nL_cons]
    have := h y
    omega
theorem keyE_n (d : DT) : (keyE d).n = d.n := by
  obtain ⟨c, k⟩ := d
  unfold keyE
  rw [DT.n_node, DT.n_node]
  rfl
theorem nL_key (l : List DT) : nL (l.map keyE) = nL l := by
  unfold nL
  rw [List.map_map]
  congr 1
  apply List.map_congr_left
  intro x _
  exact keyE_n x
theorem nL_aggE (d : DT) : nL (aggE d) + 1 ≤ d.n := by
  have := kids5 d
  unfold aggE
  rw [nL_append]
  omega
theorem nL_winE (d : DT) : nL (winE d) + 1 ≤ d.n := by
  have := kids5 d
  have := nL_flat (f := aggE) (l := d.kid 1) fun x => by have := nL_aggE x; omega
  unfold winE
  simp only [nL_append, nL_key]
  omega
theorem nL_relE (d : DT) : nL (d.kid 0) + nL (relE d) + 1 ≤ d.n := by
  have := kids5 d
  have := nL_flat (f := aggE) (l := d.kid 2) fun x => by have := nL_aggE x; omega
  have := nL_flat (f := winE) (l := d.kid 3) fun x => by have := nL_winE x; omega
  unfold relE
  simp only [nL_append, nL_key]
  omega
theorem len_flat_n {α : Type} {f : DT → List α} {l : List DT} (h : ∀ x, (f x).length ≤ x.n) : (l.flatMap f).length ≤ nL l := by
  induction l with
  | nil => exact Nat.le_refl _
  | cons y l ih =>
    rw [List.flatMap_cons, List.length_append, nL_cons]
    have := h y
    omega
/-- The cells of an expression that are looked at. -/
theorem DT.In.exprCells {S : Nat → Prop} {w : World} {d : DT} (h : DT.In S w .expr d) : I64 (dInt d 0) ∧ I64 (dInt d 2) ∧ I64 (dInt d 3) ∧ d.c[0]? = some (.int .i64 (dInt d 0)) ∧ d.c[2]? = some (.int .i64 (dInt d 2)) ∧ d.c[3]? = some (.int .i64 (dInt d 3)) := by
  obtain ⟨a, A, cap, az, B, bcap, ss, hd⟩ := h.expr
  obtain ⟨he, ok, _⟩ := hd
  subst he
  exact ⟨ok.1, ok.2.2.1, ok.2.2.2, rfl, rfl, rfl⟩
theorem sizeRel : (Try.prog.info? 31).map (·.size) = some Ty.rel.sz := by kernel_rfl
/-- A cell of a new block. -/
theorem new_cell (w : World) (cs : List Value) (t : TypeId) (j : Nat) {u : Value} (h : cs[j]? = some u) : (w.alloc (.cells cs.toArray t)).cell? ⟨w.heap.size, j, none⟩ = some u := by
  rw [cell_of_row _ _ j _ t (0, 0) (heap_alloc_new w _)]
  simpa using h
theorem DT.In.relCells {S : Nat → Prop} {w : World} {d : DT} (h : DT.In S w .rel d) :
    d.c[0]? = some (.int .i64 (dInt d 0)) ∧ (∃ TA tc, d.c[4]? = some (.slice TA (dLen d 4) tc)) ∧ dLen d 4 ≤ 1048576 ∧ (∃ IA icap, d.c[6]? = some (.slice IA (d.kid 0).length icap) ∧ DRow S w 14 IA icap (d.kid 0)) ∧
      (∃ EA ecap, d.c[7]? = some (.slice EA (d.kid 1).length ecap) ∧ DRow S w 14 EA ecap (d.kid 1)) ∧ (∀ x, x ∈ d.kid 0 → DT.In S w .rel x) ∧ (∀ x, x ∈ d.kid 1 → DT.In S w .expr x) ∧ I64 (dInt d 0) := by
  obtain ⟨a, IA, icap, is, EA, ecap, es, GA, gcap, gs, WA, wcap, ws, KA, kcap, ks, hd⟩ := h.rel
  obtain ⟨he, hk, ht, ri, re, _, _, _, ii, ie, _, _, _⟩ := hd
  subst he
  exact ⟨rfl, ⟨a.TA, a.tc, rfl⟩, ht, ⟨IA, icap, rfl, ri⟩, ⟨EA, ecap, rfl, re⟩, ii, ie, hk⟩
/-- What changed: the blocks of ex, the row's own block; and where the row lies now. -/
structure PFr (ex : Nat → Prop) (w : World) (v : Value) (w' : World) (v' : Value) : Prop where
  os : w'.os = w.os
  tape : w'.tape = w.tape
  output : w'.output = w.output
  size : w.heap.size ≤ w'.heap.size
  block : ∀ k, k < w.heap.size → ¬ ex k → some k ≠ v.ownBlock → w'.heap[k]? = w.heap[k]?
  moved : v'.ownBlock = v.ownBlock ∨ ∀ k, v'.ownBlock = some k → w.heap.size ≤ k
theorem PFr.refl (ex : Nat → Prop) (w : World) (v : Value) : PFr ex w v w v := ⟨rfl, rfl, rfl, Nat.le_refl _, fun _ _ _ _ => rfl, .inl rfl⟩
theorem PFr.below {ex : Nat → Prop} {w w' : World} {v : Value} (h : Below w.heap.size w w') : PFr ex w v w' v := ⟨h.os, h.tape, h.output, h.size, fun k hk _ _ => h.block k hk, .inl rfl⟩
theorem PFr.trans {ex : Nat → Prop} {a b c : World} {va vb vc : Value} (h : PFr ex a va b vb) (h' : PFr ex b vb c vc) : PFr ex a va c vc where
  os := h'.os.trans h.os
  tape := h'.tape.trans h.tape
  output := h'.output.trans h.output
  size := Nat.le_trans h.size h'.size
  block := fun k hk h1 h2 => by
    have hb := h.size
    refine (h'.block k (by omega) h1 fun e => ?_).trans (h.block k hk h1 h2)
    rcases h.moved with hm | hm
    · exact h2 (e.trans hm)
    · have := hm k e.symm; omega
  moved := by
    have hb := h.size
    rcases h'.moved with hm | hm
    · rcases h.moved with hm2 | hm2
      · exact .inl (hm.trans hm2)
      · exact .inr fun k hk => hm2 k (hm ▸ hk)
    · exact .inr fun k hk => by have := hm k hk; omega
theorem PFr.more {ex ex' : Nat → Prop} {w w' : World} {v v' : Value} (h : PFr ex w v w' v') (he : ∀ k, ex k → ex' k) : PFr ex' w v w' v' :=
  ⟨h.os, h.tape, h.output, h.size, fun k hk h1 h2 => h.block k hk (fun e => h1 (he k e)) h2, h.moved⟩
theorem DT.In.exprKids {S : Nat → Prop} {w : World} {d : DT} (h : DT.In S w .expr d) :
    (∃ A cap, d.c[12]? = some (.slice A (d.kid 0).length cap) ∧ DRow S w 14 A cap (d.kid 0)) ∧ (∃ A cap, d.c[13]? = some (.slice A (d.kid 1).length cap) ∧ DRow S w 14 A cap (d.kid 1)) ∧ (∀ x, x ∈ d.kid 0 → DT.In S w .expr x) ∧ ∀ x, x ∈ d.kid 1 → DT.In S w .rel x := by
  obtain ⟨a, A, cap, az, B, bcap, ss, hd⟩ := h.expr
  obtain ⟨he, _, ra, rs, ia, is⟩ := hd
  subst he
  exact ⟨⟨A, cap, rfl, ra⟩, ⟨B, bcap, rfl, rs⟩, ia, is⟩
theorem own_structs2 {w : World} {base e sz : Nat} {v : Value} {n : Nat} {l : List DT} (h : w.ownsRow base e sz v n (l.flatMap DT.c)) (hn : l.length = n) (hf : ∀ x, x ∈ l → x.c.length = sz) :
    ∃ (A : Option Addr) (cap : Nat), v = .slice A n cap ∧ DRow (fun q => ∃ cs, w.heap[q]? = some (.cells cs e (0, 0))) w sz A cap l := by
  rcases h.2 with ⟨rfl, rfl⟩ | ⟨g, cap, cur, rfl, hb, hg, h1, h2, h3, h4⟩
  · refine ⟨none, 0, rfl, ⟨by omega, Nat.zero_le _, fun i x hx => ?_⟩⟩
    have := (List.getElem?_eq_some_iff.1 hx).1
    omega
  · refine ⟨some ⟨g, 0, none⟩, cap, rfl, ⟨by omega, h2, fun i x hx => ⟨⟨g, 0, none⟩, rfl, ⟨cur, hg⟩, fun j u hu => ?_⟩⟩⟩
    have hj : j < sz := by rw [← hf x (List.mem_of_getElem? hx)]; exact (List.getElem?_eq_some_iff.1 hu).1
    have := h.cells (g := g) rfl (i * sz + j) u (by rw [flatD_at sz l hf i x j hx hj]; exact hu)
    rw [← add_add] at this
    exact this
/-- The expressions right in a relation are expressions. -/
theorem DT.In.relE {S : Nat → Prop} {w : World} {d : DT} (h : DT.In S w .rel d) : ∀ x, x ∈ Go.Proofs.Ytoeamomklmoncaa.relE d → DT.In S w .expr x := by
  obtain ⟨a, IA, icap, is, EA, ecap, es, GA, gcap, gs, WA, wcap, ws, KA, kcap, ks, hd⟩ := h.rel
  obtain ⟨he, _, _, _, _, _, _, _, _, ie, ig, iw, ik⟩ := hd
  subst he
  intro x hx
  rcases List.mem_append.1 (show x ∈ es ++ gs.flatMap Go.Proofs.Ytoeamomklmoncaa.aggE ++ ws.flatMap Go.Proofs.Ytoeamomklmoncaa.winE ++ ks.map keyE from hx) with hx | hx
  · rcases List.mem_append.1 hx with hx | hx
    · rcases List.mem_append.1 hx with hx | hx
      · exact ie x hx
      · obtain ⟨y, hy, hxy⟩ := List.mem_flatMap.1 hx
        exact (ig y hy).aggE x hxy
    · obtain ⟨y, hy, hxy⟩ := List.mem_flatMap.1 hx
      exact (iw y hy).winE x hxy
  · obtain ⟨y, hy, rfl⟩ := List.mem_map.1 hx
    exact (ik y hy).key.1
theorem cells_of_heap {w : World} {g : Nat} {cs : List Value} {t : TypeId} {fr : Nat × Nat} (h : w.heap[g]? = some (.cells cs.toArray t fr)) : ∀ j u, cs[j]? = some u → w.cell? ((⟨g, 0, none⟩ : Addr).add j) = some u := fun j u hu => by
  have hadd : (⟨g, 0, none⟩ : Addr).add j = ⟨g, j, none⟩ := by unfold Addr.add; split <;> simp_all
  rw [hadd, cell_of_row _ _ j _ t fr h]
  simpa using hu
end Go.Proofs.Ytoeamomklmoncaa
