/-
  The closure of Reads that sees the tables: what it keeps, and its walk.
-/
import Derived.Test.YtlphgceejghfkaaRdD
namespace Go.Proofs.Ytlphgceejghfkaa
open Go.RowKit Go.Sort
theorem DT.In.relCells {S : Nat → Prop} {w : World} {d : DT} (h : DT.In S w .rel d) :
    d.c[0]? = some (.int .i64 (dInt d 0)) ∧ (∃ TA tc, d.c[4]? = some (.slice TA (dLen d 4) tc)) ∧ dLen d 4 ≤ 1048576 ∧ (∃ IA icap, d.c[6]? = some (.slice IA (d.kid 0).length icap) ∧ DRow S w 14 IA icap (d.kid 0)) ∧
      (∃ EA ecap, d.c[7]? = some (.slice EA (d.kid 1).length ecap) ∧ DRow S w 14 EA ecap (d.kid 1)) ∧ (∀ x, x ∈ d.kid 0 → DT.In S w .rel x) ∧ (∀ x, x ∈ d.kid 1 → DT.In S w .expr x) ∧ I64 (dInt d 0) := by
  obtain ⟨a, IA, icap, is, EA, ecap, es, GA, gcap, gs, WA, wcap, ws, KA, kcap, ks, hd⟩ := h.rel
  obtain ⟨he, hk, ht, ri, re, _, _, _, ii, ie, _, _, _⟩ := hd
  subst he
  exact ⟨rfl, ⟨a.TA, a.tc, rfl⟩, ht, ⟨IA, icap, rfl, ri⟩, ⟨EA, ecap, rfl, re⟩, ii, ie, hk⟩
/-- What the table x below r has to be read. -/
def ownOf : Option DT → DT → List Int
  | none, d => upTo (dLen d 4)
  | some r, d => readOf r d
/-- A variable that holds a row of slices of numbers of the call's own. -/
def OInv (vb B : Nat) (w : World) (v : Value) (L : List (List Int)) : Prop :=
  w.heap[vb]? = some (.cells #[v] 29 (0, 0)) ∧ B ≤ vb ∧ ∃ xs, w.ownsRow B 37 1 v L.length xs ∧ RR w xs L
/-- What changed: the blocks of ex, the row's own block; and where the row lies now. -/
structure PFr (ex : Nat → Prop) (w : World) (v : Value) (w' : World) (v' : Value) : Prop where
  os : w'.os = w.os
  tape : w'.tape = w.tape
  output : w'.output = w.output
  size : w.heap.size ≤ w'.heap.size
  block : ∀ k, k < w.heap.size → ¬ ex k → some k ≠ v.ownBlock → w'.heap[k]? = w.heap[k]?
  moved : v'.ownBlock = v.ownBlock ∨ ∀ k, v'.ownBlock = some k → w.heap.size ≤ k
theorem PFr.refl (ex : Nat → Prop) (w : World) (v : Value) : PFr ex w v w v := ⟨rfl, rfl, rfl, Nat.le_refl _, fun _ _ _ _ => rfl, .inl rfl⟩
theorem PFr.below {ex : Nat → Prop} {w w' : World} {v : Value} (h : Below w.heap.size w w') : PFr ex w v w' v := ⟨h.os, h.tape, h.output, h.size, fun k hk _ _ => h.block k hk, .inl rfl⟩
theorem PFr.trans {ex : Nat → Prop} {a b c : World} {va vb vc : Value} (h : PFr ex a va b vb) (h' : PFr ex b vb c vc) : PFr ex a va c vc where
  os := h'.os.trans h.os
  tape := h'.tape.trans h.tape
  output := h'.output.trans h.output
  size := Nat.le_trans h.size h'.size
  block := fun k hk h1 h2 => by
    have hb := h.size
    refine (h'.block k (by omega) h1 fun e => ?_).trans (h.block k hk h1 h2)
    rcases h.moved with hm | hm
    · exact h2 (e.trans hm)
    · have := hm k e.symm; omega
  moved := by
    have hb := h.size
    rcases h'.moved with hm | hm
    · rcases h.moved with hm2 | hm2
      · exact .inl (hm.trans hm2)
      · exact .inr fun k hk => hm2 k (hm ▸ hk)
    · exact .inr fun k hk => by have := hm k hk; omega
theorem PFr.more {ex ex' : Nat → Prop} {w w' : World} {v v' : Value} (h : PFr ex w v w' v') (he : ∀ k, ex k → ex' k) : PFr ex' w v w' v' :=
  ⟨h.os, h.tape, h.output, h.size, fun k hk h1 h2 => h.block k hk (fun e => h1 (he k e)) h2, h.moved⟩
theorem own_ne {w : World} {B e n k : Nat} {v : Value} {xs : List Value} {cs : Array Value} {t : TypeId} {fr : Nat × Nat} (h : w.ownsRow B e 1 v n xs) (hk : w.heap[k]? = some (.cells cs t fr)) (ht : t ≠ e) : some k ≠ v.ownBlock := fun e1 => by
  rcases h.2 with ⟨rfl, _⟩ | ⟨g, cap, cur, rfl, _, hg, _⟩
  · cases e1
  · cases e1
    rw [hg] at hk
    cases hk
    exact ht rfl
theorem OInv.below {vb B : Nat} {w w' : World} {v : Value} {L : List (List Int)} (h : OInv vb B w v L) (hb : Below w.heap.size w w') : OInv vb B w' v L := by
  obtain ⟨h1, h2, xs, h3, h4⟩ := h
  exact ⟨(hb.block vb (Array.getElem?_eq_some_iff.1 h1).1).trans h1, h2, xs, own_below h3 hb, h4.keep (KeepI.below hb)⟩
/-- A slice of numbers is appended and the row stored. -/
theorem OInv.store {vb B : Nat} {w wr w6 : World} {v v' : Value} {L : List (List Int)} {l : List Int} {xs : List Value} {A : Option Addr} {cap : Nat} (h1 : w.heap[vb]? = some (.cells #[v] 29 (0, 0))) (h2 : B ≤ vb) (h3 : w.ownsRow B 37 1 v L.length xs) (h4 : RR w xs L)
    (hb : Below w.heap.size w wr) (hl : IRow wr A cap l) (hg : (wr.alloc (.cells #[.slice A l.length cap] 37)).grownBy w6 v.ownBlock) (hm : Moved (wr.alloc (.cells #[.slice A l.length cap] 37)) v v')
    (hown : w6.ownsRow B 37 1 v' (L.length + 1) (xs ++ [.slice A l.length cap])) : OInv vb B (w6.setCell ⟨vb, 0, none⟩ v') v' (L ++ [l]) ∧ PFr (· = vb) w v (w6.setCell ⟨vb, 0, none⟩ v') v' := by
  have hb5 : Below w.heap.size w (wr.alloc (.cells #[.slice A l.length cap] 37)) := hb.trans ((bel1 _ _).mono hb.size)
  generalize hw5 : wr.alloc (.cells #[.slice A l.length cap] 37) = w5 at hg hm hb5
  have k5 : KeepI wr w5 := KeepI.below (by rw [← hw5]; exact bel1 _ _)
  have o5 := own_below h3 hb5
  have k6 : KeepI w5 w6 := KeepI.grown o5 (by decide) hg
  have hvl : vb < w.heap.size := (Array.getElem?_eq_some_iff.1 h1).1
  have e5 := (hb5.block vb hvl).trans h1
  have hne : some vb ≠ v.ownBlock := own_ne h3 h1 (by decide)
  have e6 : w6.heap[vb]? = some (.cells #[v] 29 (0, 0)) := (hg.block vb (by have := hb5.size; omega) hne).trans e5
  have e7 : (w6.setCell ⟨vb, 0, none⟩ v').heap[vb]? = some (.cells #[v'] 29 (0, 0)) := heap_setCell_same w6 vb 0 _ _ v' e6
  have hne' : some vb ≠ v'.ownBlock := own_ne hown e6 (by decide)
  have k7 : KeepI w6 (w6.setCell ⟨vb, 0, none⟩ v') := fun k cs fr hk => by
    refine heap_setCell_other w6 _ k v' fun e => ?_
    rw [show k = vb from e, e6] at hk
    cases hk
  have kk : KeepI w (w6.setCell ⟨vb, 0, none⟩ v') := (KeepI.below hb5).trans (k6.trans k7)
  refine ⟨⟨e7, h2, xs ++ [.slice A l.length cap], ?_, (h4.keep kk).append (RR.one (hl.keep (k5.trans (k6.trans k7))))⟩, rfl |>.trans (hg.os.trans hb5.os), rfl |>.trans (hg.tape.trans hb5.tape), rfl |>.trans (hg.output.trans hb5.output), ?_, ?_, ?_⟩
  · rw [List.length_append, List.length_singleton]
    refine ⟨hown.1, ?_⟩
    rcases hown.2 with hn | ⟨g, cap', cur, rfl, hbg, hgg, rest⟩
    · exact .inl hn
    · exact .inr ⟨g, cap', cur, rfl, hbg, (heap_setCell_other w6 _ g _ (fun e => hne' (by rw [show g = vb from e]; rfl))).trans hgg, rest⟩
  · rw [size_setCell]
    have := hb5.size
    have := hg.size
    omega
  · intro k hk hex hko
    have := hb5.size
    exact (heap_setCell_other w6 _ k v' hex).trans ((hg.block k (by omega) hko).trans (hb5.block k hk))
  · rcases hm with hm | hm
    · exact .inl hm
    · exact .inr fun k hk => by have := hm k hk; have := hb5.size; omega
/-- What stands above. -/
def AbOk (S : Nat → Prop) (w : World) (ab : Value) : Option DT → Prop
  | none => ab = .pointer none
  | some p => ∃ q, ab = .pointer (some ⟨q, 0, none⟩) ∧ w.heap[q]? = some (.cells p.c.toArray 34 (0, 0)) ∧ DT.In S w .rel p
theorem infoInts : (Try.prog.info? 37).map (fun i => (i.zero, i.size, i.bytes)) = some (some (.slice none 0 0), 1, 24) := by kernel_rfl
/-- Behind the closure. -/
def SeePost (vb B : Nat) (v : Value) (L : List (List Int)) (w : World) (e : Ending) (w' : World) : Prop := e = .returned (.tuple #[]) ∧ ∃ v', OInv vb B w' v' L ∧ PFr (· = vb) w v w' v'
end Go.Proofs.Ytlphgceejghfkaa
