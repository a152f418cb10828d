/-
  A struct written into a row: the row behind it.
-/
import Derived.Test.YtoeamomklmoncaaPtL
namespace Go.Proofs.Ytoeamomklmoncaa
open Go.RowKit
theorem row_set {g o : Nat} {w : World} {cur : Array Value} {e : TypeId} (v : Value) (h : w.heap[g]? = some (.cells cur e (0, 0))) : (w.setCell ⟨g, o, none⟩ v).heap[g]? = some (.cells (cur.setIfInBounds o v) e (0, 0)) := by
  have hg := (Array.getElem?_eq_some_iff.1 h).1
  rw [heap_setCell_same w g o _ _ v h]
theorem row_sets {g : Nat} {e : TypeId} : ∀ (vs : List Value) (o : Nat) (w : World) (cur : Array Value), w.heap[g]? = some (.cells cur e (0, 0)) → o + vs.length ≤ cur.size →
    ∃ cur', (w.setCells g o vs).heap[g]? = some (.cells cur' e (0, 0)) ∧ cur'.size = cur.size ∧ cur'.toList.take o = cur.toList.take o ∧ cur'.toList.take (o + vs.length) = cur.toList.take o ++ vs
  | [], o, w, cur, h, _ => ⟨cur, h, rfl, rfl, by simp⟩
  | v :: r, o, w, cur, h, hl => by
    rw [List.length_cons] at hl
    obtain ⟨cur', h1, h2, h3, h4⟩ := row_sets r (o + 1) (w.setCell ⟨g, o, none⟩ v) (cur.setIfInBounds o v) (row_set v h) (by simpa using (by omega : o + 1 + r.length ≤ cur.size))
    have h5 : (cur.setIfInBounds o v).toList.take (o + 1) = cur.toList.take o ++ [v] := by
      rw [Array.toList_setIfInBounds, List.take_add_one, List.getElem?_set_self (by simp; omega), List.take_set_of_le (Nat.le_refl _)]
      simp
    refine ⟨cur', h1, by simpa using h2, ?_, ?_⟩
    · have h6 := congrArg (List.take o) h3
      rw [List.take_take, h5] at h6
      have : (cur.toList.take o).length = o := by rw [List.length_take, Array.length_toList]; omega
      simpa [Nat.min_eq_left (Nat.le_succ o), List.take_append, this] using h6
    · rw [List.length_cons, show o + (r.length + 1) = o + 1 + r.length by omega, h4, h5]
      simp
theorem sets_frame {g : Nat} : ∀ (vs : List Value) (o : Nat) (w : World), (w.setCells g o vs).os = w.os ∧ (w.setCells g o vs).tape = w.tape ∧ (w.setCells g o vs).output = w.output ∧ (w.setCells g o vs).heap.size = w.heap.size ∧ ∀ k, k ≠ g → (w.setCells g o vs).heap[k]? = w.heap[k]?
  | [], _, _ => ⟨rfl, rfl, rfl, rfl, fun _ _ => rfl⟩
  | v :: r, o, w => by
    obtain ⟨h1, h2, h3, h4, h5⟩ := sets_frame (g := g) r (o + 1) (w.setCell ⟨g, o, none⟩ v)
    exact ⟨h1, h2, h3, h4.trans (size_setCell _ _ _), fun k hk => (h5 k hk).trans (heap_setCell_other w _ k _ hk)⟩
/-- The visitor behind both stores, in either order. -/
theorem tab_close {B g q qc : Nat} {w w6 : World} {A : Option Addr} {vcap : Nat} {L : List DT} {d : DT} {zs : List Value} {x : Value} (hz : zs.length = 14) (hd : d.c.length = 14) (hB : B ≤ g)
    (hown : w6.ownsRow B 31 14 (.slice (some ⟨q, 0, none⟩) (L.length + 1) qc) (L.length + 1) (L.flatMap DT.c ++ zs)) (hxl : (L.flatMap DT.c).length = L.length * 14) (hg : w6.heap[g]? = some (.cells #[x] 53 (0, 0))) (hgq : g ≠ q)
    (hp : PFr (· = g) w (.slice A L.length vcap) w6 (.slice (some ⟨q, 0, none⟩) (L.length + 1) qc)) (hq : q < w.heap.size → some q = (Value.slice A L.length vcap).ownBlock) (wf : World)
    (hwf : wf = (w6.setCells q (L.length * 14) d.c).setCell ⟨g, 0, none⟩ (.slice (some ⟨q, 0, none⟩) (L.length + 1) qc) ∨ wf = (w6.setCell ⟨g, 0, none⟩ (.slice (some ⟨q, 0, none⟩) (L.length + 1) qc)).setCells q (L.length * 14) d.c) :
    XPost g B (.slice A L.length vcap) (L ++ [d]) w (.returned (.tuple #[])) wf := by
  have hgl := (Array.getElem?_eq_some_iff.1 hg).1
  rcases hown.2 with ⟨hv, _⟩ | ⟨q', cap', cur, hv, hBq, hc, hn1, hcm, hcs, htake⟩
  · cases hv
  cases hv
  have hfit : L.length * 14 + d.c.length ≤ cur.size := by omega
  have hql := (Array.getElem?_eq_some_iff.1 hc).1
  have hpre : cur.toList.take (L.length * 14) = L.flatMap DT.c := by
    have h := congrArg (List.take (L.length * 14)) htake
    rw [List.take_take, Nat.min_eq_left (by omega)] at h
    rw [h, ← hxl]
    exact List.take_left
  have key : ∃ cur', wf.heap[q]? = some (.cells cur' 31 (0, 0)) ∧ cur'.size = cur.size ∧ cur'.toList.take (L.length * 14 + d.c.length) = cur.toList.take (L.length * 14) ++ d.c ∧ wf.heap[g]? = some (.cells #[.slice (some ⟨q, 0, none⟩) (L.length + 1) qc] 53 (0, 0)) ∧ wf.os = w6.os ∧ wf.tape = w6.tape ∧ wf.output = w6.output ∧ wf.heap.size = w6.heap.size ∧ ∀ k, k < w6.heap.size → k ≠ g → k ≠ q → wf.heap[k]? = w6.heap[k]? := by
    rcases hwf with rfl | rfl
    · obtain ⟨cur', r1, r2, _, r4⟩ := row_sets d.c (L.length * 14) w6 cur hc hfit
      obtain ⟨f1, f2, f3, f4, f5⟩ := sets_frame (g := q) d.c (L.length * 14) w6
      exact ⟨cur', (heap_setCell_other _ _ q _ (Ne.symm hgq)).trans r1, r2, r4, heap_setCell_same _ g 0 _ _ _ ((f5 g hgq).trans hg), f1, f2, f3, (size_setCell _ _ _).trans f4, fun k _ h1 h2 => (heap_setCell_other _ _ k _ h1).trans (f5 k h2)⟩
    · obtain ⟨cur', r1, r2, _, r4⟩ := row_sets d.c (L.length * 14) (w6.setCell ⟨g, 0, none⟩ (.slice (some ⟨q, 0, none⟩) (L.length + 1) qc)) cur ((heap_setCell_other _ _ q _ (Ne.symm hgq)).trans hc) hfit
      obtain ⟨f1, f2, f3, f4, f5⟩ := sets_frame (g := q) d.c (L.length * 14) (w6.setCell ⟨g, 0, none⟩ (.slice (some ⟨q, 0, none⟩) (L.length + 1) qc))
      exact ⟨cur', r1, r2, r4, (f5 g hgq).trans (heap_setCell_same _ g 0 _ _ _ hg), f1, f2, f3, f4.trans (size_setCell _ _ _), fun k _ h1 h2 => (f5 k h2).trans (heap_setCell_other _ _ k _ h1)⟩
  obtain ⟨cur', k1, k2, k3, k4, k5, k6, k7, k8, k9⟩ := key
  refine ⟨rfl, _, ⟨k4, hB, ?_, .inr ⟨q, qc, cur', ?_, hBq, k1, ?_, hcm, by omega, ?_⟩⟩, ⟨k5.trans hp.os, k6.trans hp.tape, k7.trans hp.output, by rw [k8]; exact hp.size, fun k hk h1 h2 => ?_, hp.moved⟩⟩
  · simp [hxl, hd]; omega
  · simp
  · simpa using hn1
  · have e : (L ++ [d]).length * 14 = L.length * 14 + d.c.length := by simp; omega
    rw [e, k3, hpre]
    simp
  · exact (k9 k (by have := hp.size; omega) h1 (fun e => by subst e; exact h2 (hq hk))).trans (hp.block k hk h1 h2)
end Go.Proofs.Ytoeamomklmoncaa
