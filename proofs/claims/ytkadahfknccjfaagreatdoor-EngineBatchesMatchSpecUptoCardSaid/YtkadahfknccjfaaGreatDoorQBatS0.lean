/-
  slices.Chunk over rows, and its closure.
  Lists of batches under a range over a function: what is asked of cells alone. No code is walked here.
-/
import Derived.Test.YtkadahfknccjfaaGreatDoorQRvA
import Derived.Test.YtkadahfknccjfaaGreatDoorQBatH
import Derived.Test.YtkadahfknccjfaaGreatDoorQBatG0
import Derived.RangeFuncNested
import Derived.RangeFuncBound
import Derived.RangeFuncCalls
import Derived.RangeFuncLeaves
import Derived.Shelf.Abstract
import Derived.Shelf.RegionOpen
import Derived.WalkKit
import Derived.OwnWalkIn
import Derived.TacticsInMore
import Derived.LoopNIn
import Derived.LoopIn
namespace Go.Proofs.YtkadahfknccjfaaGreatDoor
open Go.RowKit Go.Shelf
attribute [local go_sem] Oper.semAt_some
set_option maxHeartbeats 1000000 in
theorem chunk_in (F : Fence) (n : Nat) (h11 : F.fn 11) (hro : F.round = none) (a : Option Addr) (len cap size : Nat) (hs : 1 ≤ size) (hs2 : size ≤ 1024) (w : World) :
    CallsIn F n Tryz.prog 11 #[.slice a len cap, .int .i64 size] w fun e w' => e = .returned (.func (.func 27) #[] #[.pointer (some ⟨w.heap.size, 0, none⟩), .pointer (some ⟨w.heap.size + 1, 0, none⟩)]) ∧ w' = (w.alloc (.cells #[.slice a len cap] 23)).alloc (.cells #[.int .i64 size] 3) := by
  have h1 : ¬ ((size : Int) < 1) := by omega
  refine callsIn_of_wp Tryz.func11 rfl h11 ?_ hro
  simp only [Tryz.ntmps11, List.size_toArray, List.length_cons, List.length_nil, Nat.reduceAdd, Nat.reduceSub, Array.replicate_succ, Array.replicate_zero, List.push_toArray, List.append_toArray, List.nil_append, List.cons_append]
  gi_wp2
  go_ret
  exact ⟨rfl, rfl⟩
/-- Part k of a slice of rows. -/
def chunkV (ad : Addr) (len size k : Nat) : Value := .slice (some (ad.add (k * size))) (min size (len - k * size)) (min size (len - k * size))
def KpB (Bs Bn : Nat) (W W' : World) : Prop := W'.heap[Bs]? = W.heap[Bs]? ∧ W'.heap[Bn]? = W.heap[Bn]?
set_option maxRecDepth 100000 in
set_option maxHeartbeats 2000000 in
theorem chunk1_in (F : Fence) (n : Nat) (h27 : F.fn 27) (hro : F.round = none) (hn : 1 ≤ n) (l Bs Bn : Nat) (ad : Addr) (len cap size K : Nat) (hs : 1 ≤ size) (hs2 : size ≤ 1024) (hlen : len ≤ 1048576) (hlc : len ≤ cap) (_hcm : cap ≤ 9223372036854775807)
    (hK1 : len ≤ K * size) (hK2 : K = 0 ∨ (K - 1) * size < len) (J Jx : List Nat → World → Prop)
    (hY : ∀ pre k W, J pre W → pre.length < K → YieldAt F (n - 1) Tryz.prog l #[chunkV ad len size k] W fun e W' =>
      (e = .returned (.bool true) ∧ J (pre ++ [k]) W' ∧ KpB Bs Bn W W') ∨ (e = .returned (.bool false) ∧ Jx (pre ++ [k]) W'))
    (hJd : ∀ pre W, J pre W → J pre W.drew) (W : World) (hBs : W.cell? ⟨Bs, 0, none⟩ = some (.slice (some ad) len cap)) (hBn : W.cell? ⟨Bn, 0, none⟩ = some (.int .i64 size)) (h0 : J [] W) :
    CallsIn F n Tryz.prog 27 #[.func (.yield l) #[] #[], .pointer (some ⟨Bs, 0, none⟩), .pointer (some ⟨Bn, 0, none⟩)] W fun e W' => (∃ v, e = .returned v) ∧
      ((∃ ys, ys = List.range K ∧ J ys W') ∨ (∃ pre, (∃ k, k ≤ K ∧ pre = List.range k) ∧ Jx pre W')) := by
  refine callsIn_of_wp Tryz.func27 rfl h27 ?_ hro
  simp only [Tryz.ntmps27, List.size_toArray, List.length_cons, List.length_nil, Nat.reduceAdd, Nat.reduceSub, Array.replicate_succ, Array.replicate_zero, List.push_toArray, List.append_toArray, List.nil_append, List.cons_append]
  gi_wp2
  gi_loopw [4] (fun i wr => ∃ k : Nat, k ≤ K ∧ i = .int .i64 ((k * size : Nat) : Int) ∧ J (List.range k) wr ∧ KpB Bs Bn W wr) (fun i _ => K * size - (intOf i).toNat)
  case atStart => exact ⟨0, Nat.zero_le _, by simp, h0, rfl, rfl⟩
  case round =>
    obtain ⟨k, hk, rfl, hJs, hk1, hk2⟩ := hrel
    have c0 := (World.cell?_of_block (a := ⟨Bs, 0, none⟩) hk1).trans hBs
    have c1 := (World.cell?_of_block (a := ⟨Bn, 0, none⟩) hk2).trans hBn
    have f0 : k < K → k * size < len := fun h => by
      rcases hK2 with h2 | h2
      · omega
      · have : k * size ≤ (K - 1) * size := Nat.mul_le_mul_right size (by omega)
        omega
    by_cases hlt : k < K
    · have hkl := f0 hlt
      obtain ⟨fn, tmps, assign, body, hy, hR⟩ := hY _ k wr.drew (hJd _ _ hJs) (by rw [List.length_range]; exact hlt)
      obtain ⟨i, hi⟩ : ∃ i, k * size = i := ⟨_, rfl⟩
      obtain ⟨m, hm⟩ : ∃ m, min size (len - i) = m := ⟨_, rfl⟩
      have hmI : min (size : Int) ((len - i : Nat) : Int) = (m : Int) := by omega
      have e1 : ((i : Int) + (m : Int)).toNat = i + m := by omega
      have h63 : IntKind.i64.wrap ((i : Int) + (m : Int)) = (i : Int) + (m : Int) := wrap_small _ (by omega) (by omega)
      have hm0 : 0 < m := by omega
      have him : i + m ≤ len := by omega
      unfold chunkV at hy
      rw [hi] at hkl hy ⊢
      rw [hm] at hy
      have Hi := Lib.hid hi
      have Hm := Lib.hid hm
      clear hi hm f0
      gi_wp2
      gi_region
      all_goals
        gi_wp2
        refine hR.mono ?_
        rintro e W3 (⟨rfl, hJ3, hk31, hk32⟩ | ⟨rfl, hJx3⟩)
        · have c2 := (World.cell?_of_block (a := ⟨Bn, 0, none⟩) (hk32.trans (show wr.drew.heap[Bn]? = wr.heap[Bn]? from rfl))).trans c1
          gi_wp2
          go_roundw
          case rel => exact ⟨k + 1, by omega, by rw [Nat.succ_mul, Hi.out]; simp, by rw [List.range_succ]; exact hJ3, hk31.trans hk1, hk32.trans hk2⟩
          case measure =>
            have hi := Hi.out
            have : (k + 1) * size = k * size + size := Nat.succ_mul k size
            have : (k + 1) * size ≤ K * size := Nat.mul_le_mul_right size (by omega)
            simp [intOf]
            omega
        · gi_wp2
          refine bodyPost_ret (results_none rfl _ _ _) rfl ?_
          exact ⟨⟨_, rfl⟩, .inr ⟨_, ⟨k + 1, by omega, List.range_succ.symm⟩, hJx3⟩⟩
    · obtain rfl : k = K := by omega
      have hle : len ≤ k * size := hK1
      gi_wp2
      go_end0
      exact ⟨⟨_, rfl⟩, .inl ⟨_, rfl, hJs⟩⟩
end Go.Proofs.YtkadahfknccjfaaGreatDoor
namespace Go.Proofs.YtkadahfknccjfaaGreatDoor
open Go.RowKit
def isC (w : World) (q : Nat) : Prop := ∃ c t f, w.heap[q]? = some (.cells c t f)
theorem isC_of_cell {w : World} {p : Addr} {u : Value} (h : w.cell? p = some u) : isC w p.block := by
  unfold World.cell? at h
  split at h
  · exact ⟨_, _, _, by assumption⟩
  · cases h
/-- What is a cell there is the same cell here. -/
def CLe (a b : World) : Prop := ∀ p u, a.cell? p = some u → b.cell? p = some u
theorem VT.At.le {a b : World} (h : CLe a b) {q : Addr} {x : VT} (hx : x.At a q) : x.At b q := ⟨h _ _ hx.1, h _ _ hx.2.1, h _ _ hx.2.2.1, h _ _ hx.2.2.2.1, h _ _ hx.2.2.2.2⟩
theorem VT.Row.le {a b : World} (h : CLe a b) {B cap : Nat} {A : Option Addr} {l : List VT} (hr : VT.Row B a A cap l) : VT.Row B b A cap l :=
  ⟨hr.1, hr.2.1, fun i x hx => by
    obtain ⟨ad, e, hb, hat⟩ := hr.2.2 i x hx
    exact ⟨ad, e, hb, hat.le h⟩⟩
theorem VT.In.le {a b : World} (h : CLe a b) {B : Nat} {x : VT} (hx : VT.In B a x) : VT.In B b x := by
  induction hx with
  | mk k n sc s A cap l hk hn hsc hs hr hl ih => exact .mk k n sc s A cap l hk hn hsc hs (hr.le h) ih
theorem FT.At.le {a b : World} (h : CLe a b) {q : Addr} {x : FT} (hx : x.At a q) : x.At b q := ⟨h _ _ hx.1, h _ _ hx.2.1, h _ _ hx.2.2.1, h _ _ hx.2.2.2.1, h _ _ hx.2.2.2.2.1, h _ _ hx.2.2.2.2.2⟩
theorem FT.Row.le {a b : World} (h : CLe a b) {B cap : Nat} {A : Option Addr} {l : List FT} (hr : FT.Row B a A cap l) : FT.Row B b A cap l :=
  ⟨hr.1, hr.2.1, fun i x hx => by
    obtain ⟨ad, e, hb, hat⟩ := hr.2.2 i x hx
    exact ⟨ad, e, hb, hat.le h⟩⟩
theorem FT.In.le {a b : World} (h : CLe a b) {B : Nat} {x : FT} (hx : FT.In B a x) : FT.In B b x := by
  induction hx with
  | mk id nm nd k sc A cap l h1 h2 h3 h4 hr hl ih => exact .mk id nm nd k sc A cap l h1 h2 h3 h4 (hr.le h) ih
theorem CRow.le {α : Type} {f : α → Value} {a b : World} (h : CLe a b) {B cap : Nat} {A : Option Addr} {l : List α} (hr : CRow f B a A cap l) : CRow f B b A cap l :=
  ⟨hr.1, hr.2.1, fun i x hx => by
    obtain ⟨ad, e, hb, hat⟩ := hr.2.2 i x hx
    exact ⟨ad, e, hb, h _ _ hat⟩⟩
theorem VecT.In.le {a b : World} (h : CLe a b) {B : Nat} {v : VecT} (hv : VecT.In B a v) : VecT.In B b v := ⟨hv.t.le h, hv.ns.le h, hv.nb, hv.is.le h, hv.ib, hv.ss.le h, hv.sb, ⟨hv.vs.1.le h, fun x hx => (hv.vs.2 x hx).le h⟩⟩
theorem GRow.le {α : Type} {c : α → List Value} {a b : World} (h : CLe a b) {k B cap : Nat} {A : Option Addr} {l : List α} (hr : GRow c k B a A cap l) : GRow c k B b A cap l :=
  ⟨hr.1, hr.2.1, fun i x hx => by
    obtain ⟨ad, e, hb, hat⟩ := hr.2.2 i x hx
    exact ⟨ad, e, hb, fun j u hu => h _ _ (hat j u hu)⟩⟩
theorem BatT.In.le {a b : World} (h : CLe a b) {B : Nat} {x : BatT} (hx : BatT.In B a x) : BatT.In B b x := ⟨hx.1.le h, fun v hv => (hx.2 v hv).le h⟩
/-- As Md, but only blocks of cells are asked to be kept. -/
def MdC (X : Nat → Prop) (v : Value) (w : World) (P : World → Prop) : Prop := ∀ w'', w.heap.size ≤ w''.heap.size → (∀ q, q < w.heap.size → ¬ X q → some q ≠ v.ownBlock → isC w q → w''.heap[q]? = w.heap[q]?) → P w''
open Classical in
/-- A world with the blocks that were no cells put back. -/
noncomputable def backW (w w'' : World) : World := { w'' with heap := Array.ofFn (n := w''.heap.size) fun i => if i.val < w.heap.size ∧ ¬ isC w i.val then (w.heap[i.val]?).getD w''.heap[i] else w''.heap[i] }
theorem backW_size (w w'' : World) : (backW w w'').heap.size = w''.heap.size := by simp [backW]
theorem backW_c {w w'' : World} {q : Nat} (h : w.heap.size ≤ w''.heap.size) (hq : q < w.heap.size) (hc : ¬ isC w q) : (backW w w'').heap[q]? = w.heap[q]? := by
  have hq2 : q < w''.heap.size := by omega
  have e : w.heap[q]? = some w.heap[q] := Array.getElem?_eq_getElem hq
  simp [backW, hq2, hq, hc]
theorem backW_o {w w'' : World} {q : Nat} (h : ¬ (q < w.heap.size ∧ ¬ isC w q)) : (backW w w'').heap[q]? = w''.heap[q]? := by
  by_cases hq2 : q < w''.heap.size
  · simp only [backW, Array.getElem?_ofFn, hq2, dite_true, h, if_false]
    simp [hq2]
  · rw [Array.getElem?_eq_none (by rw [backW_size]; omega), Array.getElem?_eq_none (by omega)]
theorem backW_le (w w'' : World) (hz : w.heap.size ≤ w''.heap.size) : CLe (backW w w'') w'' := fun p u hu => by
  by_cases h : p.block < w.heap.size ∧ ¬ isC w p.block
  · obtain ⟨c, t, f, hc⟩ := isC_of_cell hu
    rw [backW_c hz h.1 h.2] at hc
    exact absurd ⟨c, t, f, hc⟩ h.2
  · rw [← World.cell?_of_block (w := w'') (w' := backW w w'') (backW_o h)]
    exact hu
theorem MdC.of {X : Nat → Prop} {v : Value} {w : World} {P : World → Prop} (h : Md X v w P) (hP : ∀ a b : World, CLe a b → a.heap.size = b.heap.size → P a → P b) : MdC X v w P := fun w'' hz hk =>
  hP _ _ (backW_le w w'' hz) (backW_size w w'') (h _ (by rw [backW_size]; exact hz) fun q hq hx hv => by
    by_cases hc : isC w q
    · rw [backW_o (fun e => e.2 hc)]
      exact hk q hq hx hv hc
    · exact backW_c hz hq hc)
theorem isC.keep {w w' : World} {q : Nat} (h : isC w q) (e : w'.heap[q]? = w.heap[q]?) : isC w' q := by
  obtain ⟨c, t, f, hc⟩ := h
  exact ⟨c, t, f, e.trans hc⟩
theorem MdC.step {X : Nat → Prop} {v v' : Value} {w w' : World} {P : World → Prop} (h : MdC X v w P) (hp : PFr X w v w' v') : MdC X v' w' P := fun w'' hz hk => by
  refine h w'' (Nat.le_trans hp.size hz) fun q hq hx hv hc => ?_
  have h1 := hp.size
  have e := hp.block q hq hx hv
  refine (hk q (by omega) hx (fun e => ?_) (hc.keep e)).trans e
  rcases hp.moved with hm | hm
  · exact hv (e.trans hm)
  · have := hm q e.symm; omega
theorem MdC.turn {X : Nat → Prop} {v : Value} {w w' : World} {P : World → Prop} {row : Option Nat} (h : MdC X v w P) (hg : w.grownBy w' row) (hr : ∀ r, row = some r → ¬ isC w r) : MdC X v w' P := fun w'' hz hk => by
  refine h w'' (Nat.le_trans hg.size hz) fun q hq hx hv hc => ?_
  have e := hg.block q hq (fun e => hr q e.symm hc)
  exact (hk q (by have := hg.size; omega) hx hv (hc.keep e)).trans e
/-- What stands between two rounds of the range over the parts. -/
def EbI (ts : List FT) (rows : List VT) (size bo : Nat) (W0 : World) (pre : List Nat) (W : World) : Prop :=
  ∃ (ov : Value) (bs : List BatT), W.heap[bo]? = some (.cells #[ov] 24 (0, 0)) ∧ bs.length = pre.length ∧ W.ownsRow W0.heap.size 32 4 ov pre.length (bs.flatMap BatT.c) ∧ PFr (· = bo) W0 (.slice none 0 0) W ov ∧
    (∀ b, b ∈ bs → MdC (· < W0.heap.size) ov W fun w'' => BatT.In w''.heap.size w'' b) ∧
    ∀ (i k : Nat) (b : BatT), bs[i]? = some b → pre[i]? = some k → b.n = (chunkAt rows size k).length ∧ b.cs.length = ts.length ∧ ColsOf id ts (chunkAt rows size k) b.cs
theorem isCells_not {w : World} {r : Nat} {o : Obj} (h : w.heap[r]? = some o) (ho : o.isCells = false) : ¬ isC w r := fun ⟨c, t, f, hc⟩ => by
  rw [h] at hc
  cases hc
  simp [Obj.isCells] at ho
theorem EbI.turn {ts : List FT} {rows : List VT} {size bo : Nat} {W0 : World} (hbo : bo < W0.heap.size) (s : List Nat) (A B : World) (row : Option Nat) (h : EbI ts rows size bo W0 s A) (hg : A.grownBy B row) (hr : ∀ r, row = some r → W0.heap.size ≤ r ∧ ¬ isC A r) : EbI ts rows size bo W0 s B := by
  obtain ⟨ov, bs, h1, h2, h3, h4, h5, h6⟩ := h
  have z0 := h4.size
  refine ⟨ov, bs, (hg.block bo (by omega) (fun e => by have := (hr bo e.symm).1; omega)).trans h1, h2, own_grown h3 hg (fun q e e2 => ?_), ⟨hg.os.trans h4.os, hg.tape.trans h4.tape, hg.output.trans h4.output, Nat.le_trans z0 hg.size, fun k hk hx hv => (hg.block k (by omega) (fun e => by have := (hr k e.symm).1; omega)).trans (h4.block k hk hx hv), h4.moved⟩, fun b hb => (h5 b hb).turn hg (fun r e => (hr r e).2), h6⟩
  rcases h3.2 with ⟨rfl, _⟩ | ⟨g, cap, cur, rfl, _, hgh, _⟩
  · cases e
  · cases e
    exact (hr g e2).2 ⟨_, _, _, hgh⟩
theorem EbI.step {ts : List FT} {rows : List VT} {size bo k ccap : Nat} {W0 wo wx w4 : World} {ov ov' : Value} {bs : List BatT} {pre : List Nat} {CA : Option Addr} {cs : List VecT} (o : Obj) (hbo : bo < W0.heap.size)
    (h1 : wo.heap[bo]? = some (.cells #[ov] 24 (0, 0))) (h2 : bs.length = pre.length) (h3 : wo.ownsRow W0.heap.size 32 4 ov pre.length (bs.flatMap BatT.c)) (h4 : PFr (· = bo) W0 (.slice none 0 0) wo ov)
    (h5 : ∀ b, b ∈ bs → MdC (· < W0.heap.size) ov wo fun w'' => BatT.In w''.heap.size w'' b) (h6 : ∀ (i k : Nat) (b : BatT), bs[i]? = some b → pre[i]? = some k → b.n = (chunkAt rows size k).length ∧ b.cs.length = ts.length ∧ ColsOf id ts (chunkAt rows size k) b.cs)
    (hb1 : Below wo.heap.size wo wx) (hmod : ∀ w'', Keeps wo.heap.size wx w'' → GRow VecT.c 7 w''.heap.size w'' CA ccap cs ∧ ∀ v, v ∈ cs → VecT.In w''.heap.size w'' v) (hcs : cs.length = ts.length) (hof : ColsOf id ts (chunkAt rows size k) cs)
    (hown4 : w4.ownsRow W0.heap.size 32 4 ov' (pre.length + 1) (bs.flatMap BatT.c ++ BatT.c ⟨(chunkAt rows size k).length, CA, ccap, cs⟩)) (hg4 : (wx.alloc o).grownBy w4 ov.ownBlock) (hm4 : Moved (wx.alloc o) ov ov') : EbI ts rows size bo W0 (pre ++ [k]) (w4.setCell ⟨bo, 0, none⟩ ov') := by
  have hol := h3.lt
  have z0 := h4.size
  have z1 := hb1.size
  have hsub : ∀ k, k = bo → k < W0.heap.size := fun k e => by rw [e]; exact hbo
  have pX : PFr (· = bo) wx ov (w4.setCell ⟨bo, 0, none⟩ ov') ov' := (PFr.below (bel1 wx o)).trans ((PFr.grown hg4 hm4).trans (PFr.set w4 _ _ bo 0 rfl))
  have pO : PFr (· = bo) wo ov wx ov := PFr.below hb1
  have hmX : Md (· < W0.heap.size) ov wx fun w'' => BatT.In w''.heap.size w'' ⟨(chunkAt rows size k).length, CA, ccap, cs⟩ := fun w'' hz hk =>
    hmod w'' ⟨fun q h1 h2 => hk q h2 (by omega) (fun e => by have := (hol q e.symm).2; omega), hz⟩
  have hcX : MdC (· < W0.heap.size) ov wx fun w'' => BatT.In w''.heap.size w'' ⟨(chunkAt rows size k).length, CA, ccap, cs⟩ := MdC.of hmX fun a b hl hs ha => by rw [← hs]; exact ha.le hl
  have hP4 : w4.heap[bo]? = some (.cells #[ov] 24 (0, 0)) := by
    rw [hg4.block bo (by simp; omega) (fun e => by have := (hol bo e.symm).1; omega), Below.heap_alloc _ _ _ (by omega), hb1.block bo (by omega)]
    exact h1
  refine ⟨ov', bs ++ [⟨(chunkAt rows size k).length, CA, ccap, cs⟩], ?_, by simp [h2], ?_, h4.trans (pO.trans pX), fun u hu => ?_, fun i j b hb hj => ?_⟩
  · rw [setCell_row _ _ _ _ _ _ _ hP4]; simp
  · rw [List.flatMap_append, List.flatMap_singleton, List.length_append]
    exact own_keep hown4 fun q h1 _ => Deep.blk_setCell_other _ _ _ _ (by simp; omega)
  · rcases List.mem_append.1 hu with hu | hu
    · exact ((h5 u hu).step (pO.more hsub)).step (pX.more hsub)
    · rw [List.mem_singleton] at hu
      subst hu
      exact hcX.step (pX.more hsub)
  · by_cases hk : i < bs.length
    · exact h6 i j b (by rw [List.getElem?_append_left hk] at hb; exact hb) (by rw [List.getElem?_append_left (by omega)] at hj; exact hj)
    · rw [List.getElem?_append_right (by omega)] at hb hj
      have hk0 : i - bs.length = 0 := by
        have := (List.getElem?_eq_some_iff.1 hb).1
        simp at this
        omega
      have hk1 : i - pre.length = 0 := by omega
      rw [hk0] at hb
      rw [hk1] at hj
      simp at hb hj
      subst hb hj
      exact ⟨rfl, hcs, hof⟩
/-- The parts of rows, one after the other. -/
theorem chunk_stops (F : Fence) (n : Nat) (h27 : F.fn 27) (hro : F.round = none) (hn : 1 ≤ n) (Bs Bn : Nat) (ad : Addr) (len cap size K : Nat) (hs : 1 ≤ size) (hs2 : size ≤ 1024) (hlen : len ≤ 1048576) (hlc : len ≤ cap) (hcm : cap ≤ 9223372036854775807)
    (hK1 : len ≤ K * size) (hK2 : K = 0 ∨ (K - 1) * size < len) (w : World) (hBs : w.cell? ⟨Bs, 0, none⟩ = some (.slice (some ad) len cap)) (hBn : w.cell? ⟨Bn, 0, none⟩ = some (.int .i64 size)) :
    SeqStopsK F n Tryz.prog 27 #[.pointer (some ⟨Bs, 0, none⟩), .pointer (some ⟨Bn, 0, none⟩)] (fun k : Nat => #[chunkV ad len size k]) (KpB Bs Bn) (fun ys => ys = List.range K) (fun pre => ∃ k, k ≤ K ∧ pre = List.range k) K w := fun l J Jx W hW hJ _ hY h0 =>
  chunk1_in F n h27 hro hn l Bs Bn ad len cap size K hs hs2 hlen hlc hcm hK1 hK2 J Jx hY (fun pre W hj => hJ pre W W.drew none hj ⟨rfl, rfl, rfl, Nat.le_refl _, fun _ _ _ => rfl⟩ (fun r e => by cases e)) W ((hW.cell (p := ⟨Bs, 0, none⟩) (cell_lt hBs)).trans hBs) ((hW.cell (p := ⟨Bn, 0, none⟩) (cell_lt hBn)).trans hBn) h0
/-- What an operation does everywhere it does in a round. -/
theorem oper_inRound {P : Program} {o : Oper} {a : Act} {w : World} {K : Act → World → Prop} {Q : Exit → Act → World → Prop} (l n : Nat) (hnd : ∀ c, o.op ≠ .defer c) (h : Oper.wp P o a w K Q) : Oper.wpIn (Fence.wide.inRound l) n P o a w K Q := by
  unfold Oper.wpIn
  refine ⟨fun _ _ => trivial, ?_⟩
  rw [Oper.semAt_plain _ _ _ hnd]
  unfold Oper.wp at h
  revert h
  generalize (execOp a.eval o).run P w = r
  intro h
  match r, h with
  | .ok (.value v) w', h => exact h
  | .ok .skip w', h => exact h
  | .ok (.defer d) w', h => exact h
  | .ok (.enter f args) w', h => exact ⟨fun hd => by simp [Fence.wide, Fence.inRound] at hd, CallsIn.inRound l (callsIn_wide.2 h)⟩
  | .ok (.row row args) w', h => exact ⟨fun hd => by simp [Fence.wide, Fence.inRound] at hd, fun c cs _ => by
      obtain ⟨v, w2, r, s⟩ := h c cs
      exact ⟨v, w2, r, stepsIn_wide.2 s⟩⟩
  | .halt (.panic v) w', h => exact h
theorem stepIn_wide {P : Program} {ops : Array Oper} {o : Oper} {a : Act} {w : World} {K : Act → World → Prop} {Q : Exit → Act → World → Prop} {E E' : Prop} (l n : Nat) (hnd : ∀ c, o.op ≠ .defer c) (hg : o.guard = none)
    (h : if Region.wanted o (yielded ops a.tmps) = true then Oper.wp P o a w K Q else E) : if Region.wanted o (yielded ops a.tmps) = true then Oper.wpIn (Fence.wide.inRound l) n P o a w K Q else E' := by
  have hw : Region.wanted o (yielded ops a.tmps) = true := by simp [Region.wanted, hg]
  rw [if_pos hw] at h ⊢
  exact oper_inRound l n hnd h
end Go.Proofs.YtkadahfknccjfaaGreatDoor
