/-
  Rows divided into batches, by package engine.
  Rows divided into batches, by package engine: whatever comes in.
-/
import Derived.Test.YtkadahfknccjfaaGreatDoorQCloneA
import Derived.Test.YtkadahfknccjfaaGreatDoorQBatS0
import Derived.Test.YtkadahfknccjfaaGreatDoorQBatC
import Derived.Test.YtkadahfknccjfaaGreatDoorQBatF
import Derived.Test.YtkadahfknccjfaaGreatDoorQBatG
import Derived.Test.YtkadahfknccjfaaGreatDoorQBatS1
namespace Go.Proofs.YtkadahfknccjfaaGreatDoor
open Go.RowKit Go.Shelf
attribute [local go_sem] Oper.semAt_some
theorem eb_fin {ts : List FT} {rows : List VT} {size K bo cap D : Nat} {w W5 W : World} {A : Option Addr} {bs : List BatT} (i2 : bs.length = K) (i3 : W.ownsRow W5.heap.size 32 4 (.slice A K cap) K (bs.flatMap BatT.c)) (i4 : PFr (· = bo) W5 (.slice none 0 0) W (.slice A K cap))
    (i5 : ∀ b, b ∈ bs → MdC (· < W5.heap.size) (.slice A K cap) W fun w'' => BatT.In w''.heap.size w'' b) (i6 : ∀ (i k : Nat) (b : BatT), bs[i]? = some b → (List.range K)[i]? = some k → b.n = (chunkAt rows size k).length ∧ b.cs.length = ts.length ∧ ColsOf id ts (chunkAt rows size k) b.cs)
    (hb : Below w.heap.size w W5) (hbo : w.heap.size ≤ bo) (hD : W5.heap.size ≤ D) (hK : W.heap[D]? = some (.deferred (some []))) (hca : K ≤ cap) (hcm : cap ≤ maxLen) :
    Below w.heap.size w (W.putObj D (.deferred none)) ∧ (∀ w'', Keeps w.heap.size (W.putObj D (.deferred none)) w'' → GRow BatT.c 4 w''.heap.size w'' A K bs ∧ ∀ b, b ∈ bs → BatT.In w''.heap.size w'' b) ∧ BsOf id ts rows size bs := by
  have z0 := hb.size
  have z1 := i4.size
  have hg := grownBy_putObj' W D (.deferred none)
  have zf : (W.putObj D (.deferred none)).heap.size = W.heap.size := by simp
  have hnD : ¬ isC W D := isCells_not hK rfl
  have hb5 := i4.toBelow (B := w.heap.size) z0 (fun k e => by omega)
  refine ⟨⟨hg.os.trans (hb5.os.trans hb.os), hg.tape.trans (hb5.tape.trans hb.tape), hg.output.trans (hb5.output.trans hb.output), by omega, fun k hk => (hg.block k (by omega) (fun e => by cases e; omega)).trans ((hb5.block k hk).trans (hb.block k hk))⟩, fun w'' hk => ⟨?_, fun b hbm => ?_⟩, fun i b hbi => ?_⟩
  · have o1 := own_grown i3 hg (fun q e e2 => by
      cases e2
      rcases i3.2 with ⟨he, _⟩ | ⟨g, cap, cur, he, _, hgh, _⟩
      · cases he; cases e
      · cases he
        cases e
        exact hnD ⟨_, _, _, hgh⟩)
    obtain ⟨A2, cap2, e, h, _⟩ := own_grow (own_keep o1 fun q a b => hk.1 q (by omega) b) i2 (fun _ _ => rfl)
    cases e
    exact ⟨by omega, Nat.le_trans hca hcm, h.2.2⟩
  · exact i5 b hbm w'' (by have := hk.2; omega) fun q h1 h2 _ hc => (hk.1 q (by omega) (by omega)).trans (hg.block q h1 (fun e => by cases e; exact hnD hc))
  · have hlt := (List.getElem?_eq_some_iff.1 hbi).1
    exact i6 i i b hbi (by rw [List.getElem?_range (by omega)])
set_option maxRecDepth 100000 in
set_option maxHeartbeats 8000000 in
theorem eBatches_go (TA RA : Option Addr) (tcap rcap flen len size K : Nat) (ts : List FT) (rows : List VT) (B : Nat) (w : World) (enc : Nat → Value) (htr : FT.TRow B w TA tcap ts) (hT : Tabs B w) (hr : VT.RRow B w RA rcap rows) (hB : B ≤ w.heap.size) (hflen : Hid (ts.length = flen)) (hlen : Hid (rows.length = len)) (_hmax : len ≤ 1048576)
    (ht0 : typesS ts = 0) (hr0 : rowsS ts rows = 0) (hs : size ≤ 1024) (hs1 : 1 ≤ size) (hK : K ≤ 1048576)
    (hstops : ∀ Bs Bn W, W.cell? ⟨Bs, 0, none⟩ = some (.slice RA len rcap) → W.cell? ⟨Bn, 0, none⟩ = some (.int .i64 size) → SeqStopsK Fence.wide 5 Tryz.prog 27 #[.pointer (some ⟨Bs, 0, none⟩), .pointer (some ⟨Bn, 0, none⟩)] (fun k : Nat => #[enc k]) (KpB Bs Bn) (fun ys => ys = List.range K) (fun pre => ∃ k, k ≤ K ∧ pre = List.range k) K W)
    (henc : ∀ k, 0 < K → ∃ a, enc k = .slice a (chunkAt rows size k).length (chunkAt rows size k).length ∧ VT.RRow B w a (chunkAt rows size k).length (chunkAt rows size k)) :
    Calls Tryz.prog 4 #[.slice TA flen tcap, .slice RA len rcap, .int .i64 size] w fun e w' => ∃ (A : Option Addr) (cap : Nat) (bs : List BatT), e = .returned (.tuple #[.slice A bs.length cap, .int .i64 0]) ∧ Below w.heap.size w w' ∧
      (∀ w'', Keeps w.heap.size w' w'' → GRow BatT.c 4 w''.heap.size w'' A cap bs ∧ ∀ b, b ∈ bs → BatT.In w''.heap.size w'' b) ∧ BsOf id ts rows size bs ∧ bs.length = K := by
  obtain ⟨ib, hib, ibz, ibs, ibb⟩ := info_parts infoBatch
  have h1 : 1 ≤ 6 := by decide
  obtain ⟨W0, hW0⟩ : ∃ W0, w.alloc (.cells #[.slice TA flen tcap] 22) = W0 := ⟨_, rfl⟩
  have hbw : Below w.heap.size w W0 := by rw [← hW0]; exact bel1 _ _
  have P0 : W0.heap[w.heap.size]? = some (.cells #[.slice TA flen tcap] 22 (0, 0)) := by rw [← hW0]; exact heap_alloc_new w _
  have hlt0 : w.heap.size < W0.heap.size := (Array.getElem?_eq_some_iff.1 P0).1
  have hS0 : ∀ W, Below W0.heap.size W0 W → Same B w W ∧ B ≤ W.heap.size := fun W h => by
    have hb := hbw.trans (h.mono hbw.size)
    exact ⟨Same.mono (Same.of_below hb) hB, Nat.le_trans hB hb.size⟩
  have p0 := cell_of_row W0 w.heap.size 0 _ _ _ P0
  simp at p0
  have hct := Lib.hid (echeckTypes_any TA tcap flen ts B W0 (htr.keep (hS0 W0 (Below.refl _ _)).1) (hS0 W0 (Below.refl _ _)).2 hflen)
  have hcr := Lib.hid (fun W (h : Below W0.heap.size W0 W) => echeckRows_any TA RA tcap rcap flen len ts rows B W (htr.keep (hS0 W h).1) (hr.keep (hS0 W h).1) (hT.keep (hS0 W h).1) (hS0 W h).2 hflen hlen)
  have n1 : ((size : Int) < 1) = False := by simp; omega
  have n2 : ((1024 : Int) < (size : Int)) = False := by simp; omega
  have HW0 := Lib.hid hW0
  have HS0 := Lib.hid hS0
  have Hbw := Lib.hid hbw
  have Hlt0 := Lib.hid hlt0
  have HP0 := Lib.hid P0
  have Htr := Lib.hid htr
  have Hr := Lib.hid hr
  have Ht0 := Lib.hid ht0
  have Hr0 := Lib.hid hr0
  have Hst := Lib.hid hstops
  have Henc := Lib.hid henc
  clear hW0 hS0 hbw hlt0 P0 htr hr hT ht0 hr0 hstops henc
  refine (callsIn_wide (n := 6)).1 ?_
  refine callsIn_of_wp_marks Tryz.func4 rfl trivial ?_ rfl
  simp only [Tryz.ntmps4, List.size_toArray, List.length_cons, List.length_nil, Nat.reduceAdd, Nat.reduceSub, Array.replicate_succ, Array.replicate_zero, List.push_toArray, List.append_toArray, List.nil_append, List.cons_append]
  gi_wp2_with (first
    | (refine ⟨trivial, ?_⟩; gi_at_call 9; rw [HW0.out]; refine (callsIn_wide.2 hct.out).mono ?_; rintro e w1 ⟨rfl, hb1⟩; rw [Ht0.out]; have p1 := (hb1.cell (p := ⟨w.heap.size, 0, none⟩) Hlt0.out).trans p0)
    | (refine ⟨trivial, ?_⟩; gi_at_call 10; refine (callsIn_wide.2 (hcr.out _ hb1)).mono ?_; rintro e w2 ⟨rfl, hb2⟩; rw [Hr0.out])
    | (refine ⟨trivial, ?_⟩; gi_at_call 11; refine (chunk_in Fence.wide _ trivial rfl RA len rcap size hs1 hs _).mono ?_; rintro e w4 ⟨rfl, rfl⟩))
  have hb02 : Below W0.heap.size W0 w2 := hb1.trans (hb2.mono hb1.size)
  obtain ⟨W5, hW5⟩ : ∃ W5, ((w2.alloc (.cells #[.slice none 0 0] 24)).alloc (.cells #[.slice RA len rcap] 23)).alloc (.cells #[.int .i64 size] 3) = W5 := ⟨_, rfl⟩
  have hz5 : W5.heap.size = w2.heap.size + 3 := by rw [← hW5]; simp
  have hb25 : Below w2.heap.size w2 W5 := by rw [← hW5]; exact bel3 _ _ _ _
  have Q0 : W5.heap[w2.heap.size]? = some (.cells #[.slice none 0 0] 24 (0, 0)) := by rw [← hW5, Below.heap_alloc _ _ _ (by simp; omega), Below.heap_alloc _ _ _ (by simp)]; exact heap_alloc_new w2 _
  have Q1 : W5.heap[w2.heap.size + 1]? = some (.cells #[.slice RA len rcap] 23 (0, 0)) := by rw [← hW5, Below.heap_alloc _ _ _ (by simp)]; exact blk_new _ _ _ (by simp)
  have Q2 : W5.heap[w2.heap.size + 1 + 1]? = some (.cells #[.int .i64 size] 3 (0, 0)) := by rw [← hW5]; exact blk_new _ _ _ (by simp)
  have hb05 : Below W0.heap.size W0 W5 := hb02.trans (hb25.mono hb02.size)
  have hbo : w2.heap.size < W5.heap.size := by omega
  have QT := (hb05.block w.heap.size Hlt0.out).trans HP0.out
  have hwlt : w.heap.size < w2.heap.size := Nat.lt_of_lt_of_le Hlt0.out hb02.size
  have Hz5 := Lib.hid hz5
  have Hz02 := Lib.hid hb02.size
  have Hb05 := Lib.hid hb05
  have Hbo := Lib.hid hbo
  have HQT := Lib.hid QT
  have HQ0 := Lib.hid Q0
  have Hwlt := Lib.hid hwlt
  have hseq := Hst.out (w2.heap.size + 1) (w2.heap.size + 1 + 1) W5 (by rw [cell_of_row _ _ _ _ _ _ Q1]; rfl) (by rw [cell_of_row _ _ _ _ _ _ Q2]; rfl)
  rw [hW5]
  clear hW5 hz5 hb25 Q0 Q1 Q2 hb05 hbo QT hwlt hct hcr p0 p1 hb1 hb2 hb02
  refine wpIn_rangeFunc_ownF rfl h1 (gf := 27) (lb := #[.pointer (some ⟨w2.heap.size + 1, 0, none⟩), .pointer (some ⟨w2.heap.size + 1 + 1, 0, none⟩)]) rfl trivial (enters_of Tryz.func27 (by kernel_rfl) rfl)
    hseq (fun h k => ⟨k.1.trans h.1, k.2.trans h.2⟩) (fun W l o o' hl _ _ _ => ⟨World.putObj_heap_other (by have := Hz5.out; omega), World.putObj_heap_other (by have := Hz5.out; omega)⟩) (Below.refl _ _) (fun _ => rfl)
    (EbI ts rows size w2.heap.size W5) (fun _ _ _ => False)
    (fun s A B row h hg hr => EbI.turn Hbo.out s A B row h hg (fun r e => ⟨(hr r e).1, by obtain ⟨_, o, ho, hc⟩ := hr r e; exact isCells_not ho hc⟩))
    (fun _ _ _ _ _ hs _ _ => hs)
    ⟨.slice none 0 0, [], HQ0.out, rfl, World.ownsRow_nil _ _ _ _, PFr.refl _ _ _, fun b hb => (by cases hb), fun i k b hb => by simp at hb⟩
    (fun x => { tmps := #[.slice TA flen tcap, .slice RA len rcap, .int .i64 size, .pointer (some ⟨w.heap.size, 0, none⟩), undef, undef, .slice none 0 0, .int .i64 0, .int .i64 0, .int .i64 0, .pointer (some ⟨w2.heap.size, 0, none⟩), enc x, .slice TA flen tcap, .int .i64 0, .int .i64 0, .bool false, undef, .slice TA flen tcap, .slice RA len rcap, .int .i64 0, .int .i64 0, .bool false, undef, .int .i64 size, .bool false, .bool false, .int .i64 size, .bool false, .bool false, .slice RA len rcap, .int .i64 size, .func (.func 27) #[] #[.pointer (some ⟨w2.heap.size + 1, 0, none⟩), .pointer (some ⟨w2.heap.size + 1 + 1, 0, none⟩)], enc x, undef, undef, undef, undef, undef, undef, undef, undef, undef], defers := [] }) ?assign ?body ?done ?stop
  case assign =>
    intro l x W K hK
    gi_wp2
    exact hK
  case body =>
    rintro l pre k W ⟨ov, bs, i1, i2, i3, i4, i5, i6⟩ hlt
    have hmx : (Tryz.prog).follows .mixedOrders = true := by kernel_rfl
    obtain ⟨ca, hce, hcr⟩ := Henc.out k (by omega)
    obtain ⟨m, hm⟩ : ∃ m, (chunkAt rows size k).length = m := ⟨_, rfl⟩
    have hm2 : m ≤ 1024 := by rw [← hm, chunkAt_len]; omega
    rw [hm] at hce hcr
    simp only [hce]
    have z4 := i4.size
    have hb5W : Below w2.heap.size W5 W := i4.toBelow (by have := Hz5.out; omega) (fun k e => by omega)
    have hb0W : Below W0.heap.size W0 W := Hb05.out.trans (hb5W.mono Hz02.out)
    have hST : W.heap[w.heap.size]? = some (.cells #[.slice TA flen tcap] 22 (0, 0)) := (hb0W.block w.heap.size Hlt0.out).trans HP0.out
    have hbW : w2.heap.size < W.heap.size := by have := Hbo.out; omega
    have hSW : ∀ W', Below W.heap.size W W' → Same B w W' ∧ B ≤ W'.heap.size := fun W' h => HS0.out W' (hb0W.trans (h.mono hb0W.size))
    have hOk := rowsS_ok Hr0.out
    have hOc : RowsOk ts (chunkAt rows size k) := fun r hr => hOk r (chunkAt_mem hr)
    have hcells : ∀ W', Below W.heap.size W W' → W'.cell? ⟨w2.heap.size, 0, none⟩ = some ov := fun W' h => by rw [cell_of_row _ _ 0 _ _ _ ((h.block w2.heap.size hbW).trans i1)]; rfl
    have hnb : Hid (∀ W', Below W.heap.size W W' → Calls Tryz.prog 13 #[.slice TA flen tcap, .slice ca m m] W' fun e w3 => ∃ (CA : Option Addr) (cap : Nat), e = .returned (.agg #[.int .i64 m, .slice CA flen cap, .bool true, .slice none 0 0]) ∧ Below W.heap.size W w3 ∧ w3.cell? ⟨w2.heap.size, 0, none⟩ = some ov ∧
        Calls Tryz.prog 12 #[.agg #[.int .i64 m, .slice CA flen cap, .bool true, .slice none 0 0]] w3 fun e w4 => ∃ (CA' : Option Addr) (cap' : Nat) (cs' : List VecT), e = .returned (.agg #[.int .i64 m, .slice CA' flen cap', .bool true, .slice none 0 0]) ∧ Below W.heap.size W w4 ∧ w4.cell? ⟨w2.heap.size, 0, none⟩ = some ov ∧ (∀ o, (w4.alloc o).cell? ⟨w2.heap.size, 0, none⟩ = some ov) ∧
          cs'.length = ts.length ∧ (∀ w'', Keeps W.heap.size w4 w'' → GRow VecT.c 7 w''.heap.size w'' CA' cap' cs' ∧ ∀ v, v ∈ cs' → VecT.In w''.heap.size w'' v) ∧ ColsOf id ts (chunkAt rows size k) cs') := fun W' h => by
      obtain ⟨s1, s2⟩ := hSW W' h
      refine (enewBatch_any TA ca tcap m flen m ts (chunkAt rows size k) B W' (Htr.out.keep s1) (hcr.keep s1) s2 hflen hm (by have := typesS_ok Ht0.out; have := hflen.out; omega) hm2 (fun r hr => (hOc r hr).1.trans hflen.out) (fun r hr => rowsS_sml Hr0.out r (chunkAt_mem hr))).mono ?_
      rintro e w3 ⟨CA, cap, cs, hcs, rfl, hb3, hmod, hof, _⟩
      have hb3' : Below W.heap.size W w3 := h.trans (hb3.mono h.size)
      obtain ⟨m1, m2⟩ := hmod w3 (Keeps.refl _ _) (Same.mono (Same.of_below hb3) s2)
      refine ⟨CA, cap, by rw [hm, hcs, hflen.out], hb3', hcells w3 hb3', ?_⟩
      have hcl : Hid (cs.length = flen) := hcs.trans hflen.out
      refine (ecopyBatch_any CA cap m flen cs w3.heap.size w3 m1 m2 (Nat.le_refl _) hcl (by have := typesS_ok Ht0.out; have := hflen.out; omega) (cols_sml hOc Ht0.out (by omega) hof)).mono ?_
      rintro e w4 ⟨CA', cap', cs', hcs', rfl, hb4, hmod4, hsm⟩
      have hb4' : Below W.heap.size W w4 := hb3'.trans (hb4.mono hb3'.size)
      exact ⟨CA', cap', cs', by rw [hcs', hcl.out], hb4', hcells w4 hb4', fun o => hcells _ (hb4'.alloc hb4'.size o), hcs'.trans hcs, fun w'' hk => hmod4 w'' (hk.mono hb3'.size), hof.copy hcs' hsm⟩
    have c0 := hcells W (Below.refl _ _)
    have cT : W.cell? ⟨w.heap.size, 0, none⟩ = some (.slice TA flen tcap) := by rw [cell_of_row _ _ 0 _ _ _ hST]; rfl
    have hfin : Hid (∀ (CA' : Option Addr) (cap' : Nat) (cs' : List VecT) (w4 : World) (gg cap4 : Nat) (w5 : World), Below W.heap.size W w4 → cs'.length = ts.length → (∀ w'', Keeps W.heap.size w4 w'' → GRow VecT.c 7 w''.heap.size w'' CA' cap' cs' ∧ ∀ v, v ∈ cs' → VecT.In w''.heap.size w'' v) → ColsOf id ts (chunkAt rows size k) cs' →
        w5.ownsRow W5.heap.size 32 4 (.slice (some ⟨gg, 0, none⟩) (pre.length + 1) cap4) (pre.length + 1) (bs.flatMap BatT.c ++ BatT.c ⟨m, CA', cap', cs'⟩) → (w4.alloc (.cells #[.int .i64 m, .slice CA' flen cap', .bool true, .slice none 0 0] 32)).grownBy w5 ov.ownBlock → Moved (w4.alloc (.cells #[.int .i64 m, .slice CA' flen cap', .bool true, .slice none 0 0] 32)) ov (.slice (some ⟨gg, 0, none⟩) (pre.length + 1) cap4) →
        w5.cell? ⟨w2.heap.size, 0, none⟩ = some ov ∧ w5.frozen? ⟨w2.heap.size, 0, none⟩ = false ∧ KeepsOthers W (w5.setCell ⟨w2.heap.size, 0, none⟩ (.slice (some ⟨gg, 0, none⟩) (pre.length + 1) cap4)) ∧ KpB (w2.heap.size + 1) (w2.heap.size + 1 + 1) W (w5.setCell ⟨w2.heap.size, 0, none⟩ (.slice (some ⟨gg, 0, none⟩) (pre.length + 1) cap4)) ∧ EbI ts rows size w2.heap.size W5 (pre ++ [k]) (w5.setCell ⟨w2.heap.size, 0, none⟩ (.slice (some ⟨gg, 0, none⟩) (pre.length + 1) cap4))) := fun CA' cap' cs' w4 gg cap4 w5 hb4 hcs hmod hof hown hg hmv => by
      have hol := i3.lt
      have zz := hb4.size
      have hko : ∀ q, q < W.heap.size → some q ≠ ov.ownBlock → w5.heap[q]? = W.heap[q]? := fun q hq hv => (hg.block q (by simp; omega) hv).trans ((Below.heap_alloc _ _ _ (by omega)).trans (hb4.block q hq))
      have hlo : ∀ q, q < W5.heap.size → w5.heap[q]? = W.heap[q]? := fun q hq => hko q (by omega) (fun e => by have := (hol q e.symm).1; omega)
      have e1 := (hlo w2.heap.size Hbo.out).trans i1
      refine ⟨by rw [cell_of_row _ _ 0 _ _ _ e1]; rfl, by simp [World.frozen?, e1], ?_, ⟨?_, ?_⟩, ?_⟩
      · have hsz := hg.size
        refine ⟨by simp [World.setCell] at hsz ⊢; omega, fun q o ho hc => ?_⟩
        have hn := isCells_not ho hc
        have hlt := (Array.getElem?_eq_some_iff.1 ho).1
        rw [Deep.blk_setCell_other _ _ _ _ (fun e => hn (by rw [show q = w2.heap.size from e]; exact ⟨_, _, _, i1⟩))]
        refine (hko q hlt (fun e => ?_)).trans ho
        rcases i3.2 with ⟨he, _⟩ | ⟨g, cap, cur, he, _, hgh, _⟩
        · rw [he] at e; cases e
        · rw [he] at e; cases e; exact hn ⟨_, _, _, hgh⟩
      · rw [Deep.blk_setCell_other _ _ _ _ (by simp)]
        exact hlo _ (by have := Hz5.out; omega)
      · rw [Deep.blk_setCell_other _ _ _ _ (by simp; omega)]
        exact hlo _ (by have := Hz5.out; omega)
      · exact EbI.step _ Hbo.out i1 i2 i3 i4 i5 i6 hb4 hmod hcs hof (by rw [hm]; exact hown) hg hmv
    have hownX : Hid (∀ W', Below W.heap.size W W' → W'.ownsRow W5.heap.size 32 4 ov pre.length (bs.flatMap BatT.c)) := fun W' h => own_below i3 h
    have h3 : Hid (pre.length + 1 ≤ maxLen) := by show _ ≤ _; unfold maxLen; omega
    have h4 : Hid ((pre.length + 1) * 64 ≤ 140737488355328) := by show _ ≤ _; omega
    have h5 : Hid (∀ W' o, Below W.heap.size W W' → W5.heap.size ≤ (W'.alloc o).heap.size) := fun W' o h => by have := h.size; simp; omega
    have hbc : Hid (∀ (CA' : Option Addr) (cap' : Nat) (cs' : List VecT), cs'.length = ts.length → BatT.c ⟨m, CA', cap', cs'⟩ = [.int .i64 m, .slice CA' flen cap', .bool true, .slice none 0 0]) := fun CA' cap' cs' h => by unfold BatT.c; rw [h, hflen.out]
    clear i1 i2 i3 i4 i5 i6 hST hcr hOk hOc hcells hSW hb0W hb5W hce
    gi_wp2
    refine wpIn_region_any hmx ?_
    change wpAnyIn _ _ _ _ _ _ _ _ _ (World.drew _)
    refine wpAnyIn_ready (rs := [0, 1, 2]) (by kernel_rfl) (by simp) ?_
    refine AllReadyIn.cons rfl (fun K hK => ?_) ?_
    · go_simp
      refine hK _ _ ?_
      clear hK K
      refine wpAnyIn_ready (rs := [1, 2]) (by kernel_rfl) (by simp) ?_
      refine AllReadyIn.cons rfl (fun K hK => ?_) ?_
      · go_simp
        refine hK _ _ ?_
        clear hK K
        refine wpAnyIn_ready (rs := [2]) (by kernel_rfl) (by simp) ?_
        refine AllReadyIn.cons rfl (fun K hK => ?_) ?_
        · go_simp
          refine hK _ _ ?_
          clear hK K
          refine wpAnyIn_ready (rs := [3]) (by kernel_rfl) (by simp) ?_
          refine AllReadyIn.cons rfl (fun K hK => ?_) ?_
          · go_simp
            gi_wp2_with (refine ⟨trivial, ?_⟩; gi_at_call 13; refine (CallsIn.inRound l (callsIn_wide.2 (hnb.out _ (by first | exact Below.drew (Below.refl _ _) | exact Below.refl _ _)))).mono ?_; rintro e w3 ⟨CA, cap, rfl, hbw3, cw3, hcp⟩)
            refine wpAnyIn_ready (rs := [4]) (by kernel_rfl) (by simp) ?_
            refine AllReadyIn.cons rfl (fun K hK => ?_) ?_
            · go_simp
              gi_wp2_with (refine ⟨trivial, ?_⟩; gi_at_call 12; refine (CallsIn.inRound l (callsIn_wide.2 hcp)).mono ?_; rintro e w4 ⟨CA', cap', cs', rfl, hbw4, cw4, cy4, hcs4, hmod4, hof4⟩)
              refine wpAnyIn_ready (rs := [5]) (by kernel_rfl) (by simp) ?_
              refine AllReadyIn.cons rfl (fun K hK => ?_) ?_
              · go_simp
                refine hK _ _ ?_
                clear hK K
                refine wpAnyIn_ready (rs := [6]) (by kernel_rfl) (by simp) ?_
                refine AllReadyIn.cons rfl (fun K hK => ?_) ?_
                · refine stepIn_wide _ _ (by intro c h; cases h) rfl (E := False) (step_append_own (by rfl) _ _ _ (by rfl) W5.heap.size 32 ib _ 4 64 Tryz.underlying24 hib ibz ibs ibb rfl (by decide) ov pre.length (bs.flatMap BatT.c) (by rfl) ((hownX.out _ hbw4).alloc _) ⟨w4.heap.size, 0, none⟩ 1 1 (BatT.c ⟨m, CA', cap', cs'⟩) (by rfl) (by decide) (by rfl) (by rw [hbc.out _ _ _ hcs4]; exact fun q u' h => new_cells _ _ _ q u' h) (BatT.c_one _) h3.out h4.out (h5.out _ _ hbw4) ?_)
                  intro gg cap4 w5 hown5 hg5 hm5
                  obtain ⟨cg5, fg5, F1, F2, F3⟩ := hfin.out _ _ _ _ _ _ _ hbw4 hcs4 hmod4 hof4 hown5 hg5 hm5
                  refine hK _ _ ?_
                  clear hK K
                  refine wpAnyIn_ready (rs := [7]) (by kernel_rfl) (by simp) ?_
                  refine AllReadyIn.cons rfl (fun K hK => ?_) ?_
                  · go_simp
                    refine hK _ _ ?_
                    clear hK K
                    refine wpAnyIn_done (by kernel_rfl) ?_ _
                    gi_wp2
                    exact ⟨F1, F2, F3⟩
                  exact AllReadyIn.nil
                exact AllReadyIn.nil
              exact AllReadyIn.nil
            exact AllReadyIn.nil
          exact AllReadyIn.nil
        exact AllReadyIn.nil
      refine AllReadyIn.cons rfl (fun K hK => ?_) ?_
      · go_simp
        refine hK _ _ ?_
        clear hK K
        refine wpAnyIn_ready (rs := [1]) (by kernel_rfl) (by simp) ?_
        refine AllReadyIn.cons rfl (fun K hK => ?_) ?_
        · go_simp
          refine hK _ _ ?_
          clear hK K
          refine wpAnyIn_ready (rs := [3]) (by kernel_rfl) (by simp) ?_
          refine AllReadyIn.cons rfl (fun K hK => ?_) ?_
          · go_simp
            gi_wp2_with (refine ⟨trivial, ?_⟩; gi_at_call 13; refine (CallsIn.inRound l (callsIn_wide.2 (hnb.out _ (by first | exact Below.drew (Below.refl _ _) | exact Below.refl _ _)))).mono ?_; rintro e w3 ⟨CA, cap, rfl, hbw3, cw3, hcp⟩)
            refine wpAnyIn_ready (rs := [4]) (by kernel_rfl) (by simp) ?_
            refine AllReadyIn.cons rfl (fun K hK => ?_) ?_
            · go_simp
              gi_wp2_with (refine ⟨trivial, ?_⟩; gi_at_call 12; refine (CallsIn.inRound l (callsIn_wide.2 hcp)).mono ?_; rintro e w4 ⟨CA', cap', cs', rfl, hbw4, cw4, cy4, hcs4, hmod4, hof4⟩)
              refine wpAnyIn_ready (rs := [5]) (by kernel_rfl) (by simp) ?_
              refine AllReadyIn.cons rfl (fun K hK => ?_) ?_
              · go_simp
                refine hK _ _ ?_
                clear hK K
                refine wpAnyIn_ready (rs := [6]) (by kernel_rfl) (by simp) ?_
                refine AllReadyIn.cons rfl (fun K hK => ?_) ?_
                · refine stepIn_wide _ _ (by intro c h; cases h) rfl (E := False) (step_append_own (by rfl) _ _ _ (by rfl) W5.heap.size 32 ib _ 4 64 Tryz.underlying24 hib ibz ibs ibb rfl (by decide) ov pre.length (bs.flatMap BatT.c) (by rfl) ((hownX.out _ hbw4).alloc _) ⟨w4.heap.size, 0, none⟩ 1 1 (BatT.c ⟨m, CA', cap', cs'⟩) (by rfl) (by decide) (by rfl) (by rw [hbc.out _ _ _ hcs4]; exact fun q u' h => new_cells _ _ _ q u' h) (BatT.c_one _) h3.out h4.out (h5.out _ _ hbw4) ?_)
                  intro gg cap4 w5 hown5 hg5 hm5
                  obtain ⟨cg5, fg5, F1, F2, F3⟩ := hfin.out _ _ _ _ _ _ _ hbw4 hcs4 hmod4 hof4 hown5 hg5 hm5
                  refine hK _ _ ?_
                  clear hK K
                  refine wpAnyIn_ready (rs := [7]) (by kernel_rfl) (by simp) ?_
                  refine AllReadyIn.cons rfl (fun K hK => ?_) ?_
                  · go_simp
                    refine hK _ _ ?_
                    clear hK K
                    refine wpAnyIn_done (by kernel_rfl) ?_ _
                    gi_wp2
                    exact ⟨F1, F2, F3⟩
                  exact AllReadyIn.nil
                exact AllReadyIn.nil
              exact AllReadyIn.nil
            exact AllReadyIn.nil
          exact AllReadyIn.nil
        exact AllReadyIn.nil
      exact AllReadyIn.nil
    refine AllReadyIn.cons rfl (fun K hK => ?_) ?_
    · go_simp
      refine hK _ _ ?_
      clear hK K
      refine wpAnyIn_ready (rs := [0, 2]) (by kernel_rfl) (by simp) ?_
      refine AllReadyIn.cons rfl (fun K hK => ?_) ?_
      · go_simp
        refine hK _ _ ?_
        clear hK K
        refine wpAnyIn_ready (rs := [2]) (by kernel_rfl) (by simp) ?_
        refine AllReadyIn.cons rfl (fun K hK => ?_) ?_
        · go_simp
          refine hK _ _ ?_
          clear hK K
          refine wpAnyIn_ready (rs := [3]) (by kernel_rfl) (by simp) ?_
          refine AllReadyIn.cons rfl (fun K hK => ?_) ?_
          · go_simp
            gi_wp2_with (refine ⟨trivial, ?_⟩; gi_at_call 13; refine (CallsIn.inRound l (callsIn_wide.2 (hnb.out _ (by first | exact Below.drew (Below.refl _ _) | exact Below.refl _ _)))).mono ?_; rintro e w3 ⟨CA, cap, rfl, hbw3, cw3, hcp⟩)
            refine wpAnyIn_ready (rs := [4]) (by kernel_rfl) (by simp) ?_
            refine AllReadyIn.cons rfl (fun K hK => ?_) ?_
            · go_simp
              gi_wp2_with (refine ⟨trivial, ?_⟩; gi_at_call 12; refine (CallsIn.inRound l (callsIn_wide.2 hcp)).mono ?_; rintro e w4 ⟨CA', cap', cs', rfl, hbw4, cw4, cy4, hcs4, hmod4, hof4⟩)
              refine wpAnyIn_ready (rs := [5]) (by kernel_rfl) (by simp) ?_
              refine AllReadyIn.cons rfl (fun K hK => ?_) ?_
              · go_simp
                refine hK _ _ ?_
                clear hK K
                refine wpAnyIn_ready (rs := [6]) (by kernel_rfl) (by simp) ?_
                refine AllReadyIn.cons rfl (fun K hK => ?_) ?_
                · refine stepIn_wide _ _ (by intro c h; cases h) rfl (E := False) (step_append_own (by rfl) _ _ _ (by rfl) W5.heap.size 32 ib _ 4 64 Tryz.underlying24 hib ibz ibs ibb rfl (by decide) ov pre.length (bs.flatMap BatT.c) (by rfl) ((hownX.out _ hbw4).alloc _) ⟨w4.heap.size, 0, none⟩ 1 1 (BatT.c ⟨m, CA', cap', cs'⟩) (by rfl) (by decide) (by rfl) (by rw [hbc.out _ _ _ hcs4]; exact fun q u' h => new_cells _ _ _ q u' h) (BatT.c_one _) h3.out h4.out (h5.out _ _ hbw4) ?_)
                  intro gg cap4 w5 hown5 hg5 hm5
                  obtain ⟨cg5, fg5, F1, F2, F3⟩ := hfin.out _ _ _ _ _ _ _ hbw4 hcs4 hmod4 hof4 hown5 hg5 hm5
                  refine hK _ _ ?_
                  clear hK K
                  refine wpAnyIn_ready (rs := [7]) (by kernel_rfl) (by simp) ?_
                  refine AllReadyIn.cons rfl (fun K hK => ?_) ?_
                  · go_simp
                    refine hK _ _ ?_
                    clear hK K
                    refine wpAnyIn_done (by kernel_rfl) ?_ _
                    gi_wp2
                    exact ⟨F1, F2, F3⟩
                  exact AllReadyIn.nil
                exact AllReadyIn.nil
              exact AllReadyIn.nil
            exact AllReadyIn.nil
          exact AllReadyIn.nil
        exact AllReadyIn.nil
      refine AllReadyIn.cons rfl (fun K hK => ?_) ?_
      · go_simp
        refine hK _ _ ?_
        clear hK K
        refine wpAnyIn_ready (rs := [0, 3]) (by kernel_rfl) (by simp) ?_
        refine AllReadyIn.cons rfl (fun K hK => ?_) ?_
        · go_simp
          refine hK _ _ ?_
          clear hK K
          refine wpAnyIn_ready (rs := [3]) (by kernel_rfl) (by simp) ?_
          refine AllReadyIn.cons rfl (fun K hK => ?_) ?_
          · go_simp
            gi_wp2_with (refine ⟨trivial, ?_⟩; gi_at_call 13; refine (CallsIn.inRound l (callsIn_wide.2 (hnb.out _ (by first | exact Below.drew (Below.refl _ _) | exact Below.refl _ _)))).mono ?_; rintro e w3 ⟨CA, cap, rfl, hbw3, cw3, hcp⟩)
            refine wpAnyIn_ready (rs := [4]) (by kernel_rfl) (by simp) ?_
            refine AllReadyIn.cons rfl (fun K hK => ?_) ?_
            · go_simp
              gi_wp2_with (refine ⟨trivial, ?_⟩; gi_at_call 12; refine (CallsIn.inRound l (callsIn_wide.2 hcp)).mono ?_; rintro e w4 ⟨CA', cap', cs', rfl, hbw4, cw4, cy4, hcs4, hmod4, hof4⟩)
              refine wpAnyIn_ready (rs := [5]) (by kernel_rfl) (by simp) ?_
              refine AllReadyIn.cons rfl (fun K hK => ?_) ?_
              · go_simp
                refine hK _ _ ?_
                clear hK K
                refine wpAnyIn_ready (rs := [6]) (by kernel_rfl) (by simp) ?_
                refine AllReadyIn.cons rfl (fun K hK => ?_) ?_
                · refine stepIn_wide _ _ (by intro c h; cases h) rfl (E := False) (step_append_own (by rfl) _ _ _ (by rfl) W5.heap.size 32 ib _ 4 64 Tryz.underlying24 hib ibz ibs ibb rfl (by decide) ov pre.length (bs.flatMap BatT.c) (by rfl) ((hownX.out _ hbw4).alloc _) ⟨w4.heap.size, 0, none⟩ 1 1 (BatT.c ⟨m, CA', cap', cs'⟩) (by rfl) (by decide) (by rfl) (by rw [hbc.out _ _ _ hcs4]; exact fun q u' h => new_cells _ _ _ q u' h) (BatT.c_one _) h3.out h4.out (h5.out _ _ hbw4) ?_)
                  intro gg cap4 w5 hown5 hg5 hm5
                  obtain ⟨cg5, fg5, F1, F2, F3⟩ := hfin.out _ _ _ _ _ _ _ hbw4 hcs4 hmod4 hof4 hown5 hg5 hm5
                  refine hK _ _ ?_
                  clear hK K
                  refine wpAnyIn_ready (rs := [7]) (by kernel_rfl) (by simp) ?_
                  refine AllReadyIn.cons rfl (fun K hK => ?_) ?_
                  · go_simp
                    refine hK _ _ ?_
                    clear hK K
                    refine wpAnyIn_done (by kernel_rfl) ?_ _
                    gi_wp2
                    exact ⟨F1, F2, F3⟩
                  exact AllReadyIn.nil
                exact AllReadyIn.nil
              exact AllReadyIn.nil
            exact AllReadyIn.nil
          exact AllReadyIn.nil
        refine AllReadyIn.cons rfl (fun K hK => ?_) ?_
        · go_simp
          gi_wp2_with (refine ⟨trivial, ?_⟩; gi_at_call 13; refine (CallsIn.inRound l (callsIn_wide.2 (hnb.out _ (by first | exact Below.drew (Below.refl _ _) | exact Below.refl _ _)))).mono ?_; rintro e w3 ⟨CA, cap, rfl, hbw3, cw3, hcp⟩)
          refine wpAnyIn_ready (rs := [0, 4]) (by kernel_rfl) (by simp) ?_
          refine AllReadyIn.cons rfl (fun K hK => ?_) ?_
          · go_simp
            refine hK _ _ ?_
            clear hK K
            refine wpAnyIn_ready (rs := [4]) (by kernel_rfl) (by simp) ?_
            refine AllReadyIn.cons rfl (fun K hK => ?_) ?_
            · go_simp
              gi_wp2_with (refine ⟨trivial, ?_⟩; gi_at_call 12; refine (CallsIn.inRound l (callsIn_wide.2 hcp)).mono ?_; rintro e w4 ⟨CA', cap', cs', rfl, hbw4, cw4, cy4, hcs4, hmod4, hof4⟩)
              refine wpAnyIn_ready (rs := [5]) (by kernel_rfl) (by simp) ?_
              refine AllReadyIn.cons rfl (fun K hK => ?_) ?_
              · go_simp
                refine hK _ _ ?_
                clear hK K
                refine wpAnyIn_ready (rs := [6]) (by kernel_rfl) (by simp) ?_
                refine AllReadyIn.cons rfl (fun K hK => ?_) ?_
                · refine stepIn_wide _ _ (by intro c h; cases h) rfl (E := False) (step_append_own (by rfl) _ _ _ (by rfl) W5.heap.size 32 ib _ 4 64 Tryz.underlying24 hib ibz ibs ibb rfl (by decide) ov pre.length (bs.flatMap BatT.c) (by rfl) ((hownX.out _ hbw4).alloc _) ⟨w4.heap.size, 0, none⟩ 1 1 (BatT.c ⟨m, CA', cap', cs'⟩) (by rfl) (by decide) (by rfl) (by rw [hbc.out _ _ _ hcs4]; exact fun q u' h => new_cells _ _ _ q u' h) (BatT.c_one _) h3.out h4.out (h5.out _ _ hbw4) ?_)
                  intro gg cap4 w5 hown5 hg5 hm5
                  obtain ⟨cg5, fg5, F1, F2, F3⟩ := hfin.out _ _ _ _ _ _ _ hbw4 hcs4 hmod4 hof4 hown5 hg5 hm5
                  refine hK _ _ ?_
                  clear hK K
                  refine wpAnyIn_ready (rs := [7]) (by kernel_rfl) (by simp) ?_
                  refine AllReadyIn.cons rfl (fun K hK => ?_) ?_
                  · go_simp
                    refine hK _ _ ?_
                    clear hK K
                    refine wpAnyIn_done (by kernel_rfl) ?_ _
                    gi_wp2
                    exact ⟨F1, F2, F3⟩
                  exact AllReadyIn.nil
                exact AllReadyIn.nil
              exact AllReadyIn.nil
            exact AllReadyIn.nil
          refine AllReadyIn.cons rfl (fun K hK => ?_) ?_
          · go_simp
            gi_wp2_with (refine ⟨trivial, ?_⟩; gi_at_call 12; refine (CallsIn.inRound l (callsIn_wide.2 hcp)).mono ?_; rintro e w4 ⟨CA', cap', cs', rfl, hbw4, cw4, cy4, hcs4, hmod4, hof4⟩)
            refine wpAnyIn_ready (rs := [0, 5]) (by kernel_rfl) (by simp) ?_
            refine AllReadyIn.cons rfl (fun K hK => ?_) ?_
            · go_simp
              refine hK _ _ ?_
              clear hK K
              refine wpAnyIn_ready (rs := [5]) (by kernel_rfl) (by simp) ?_
              refine AllReadyIn.cons rfl (fun K hK => ?_) ?_
              · go_simp
                refine hK _ _ ?_
                clear hK K
                refine wpAnyIn_ready (rs := [6]) (by kernel_rfl) (by simp) ?_
                refine AllReadyIn.cons rfl (fun K hK => ?_) ?_
                · refine stepIn_wide _ _ (by intro c h; cases h) rfl (E := False) (step_append_own (by rfl) _ _ _ (by rfl) W5.heap.size 32 ib _ 4 64 Tryz.underlying24 hib ibz ibs ibb rfl (by decide) ov pre.length (bs.flatMap BatT.c) (by rfl) ((hownX.out _ hbw4).alloc _) ⟨w4.heap.size, 0, none⟩ 1 1 (BatT.c ⟨m, CA', cap', cs'⟩) (by rfl) (by decide) (by rfl) (by rw [hbc.out _ _ _ hcs4]; exact fun q u' h => new_cells _ _ _ q u' h) (BatT.c_one _) h3.out h4.out (h5.out _ _ hbw4) ?_)
                  intro gg cap4 w5 hown5 hg5 hm5
                  obtain ⟨cg5, fg5, F1, F2, F3⟩ := hfin.out _ _ _ _ _ _ _ hbw4 hcs4 hmod4 hof4 hown5 hg5 hm5
                  refine hK _ _ ?_
                  clear hK K
                  refine wpAnyIn_ready (rs := [7]) (by kernel_rfl) (by simp) ?_
                  refine AllReadyIn.cons rfl (fun K hK => ?_) ?_
                  · go_simp
                    refine hK _ _ ?_
                    clear hK K
                    refine wpAnyIn_done (by kernel_rfl) ?_ _
                    gi_wp2
                    exact ⟨F1, F2, F3⟩
                  exact AllReadyIn.nil
                exact AllReadyIn.nil
              exact AllReadyIn.nil
            refine AllReadyIn.cons rfl (fun K hK => ?_) ?_
            · go_simp
              refine hK _ _ ?_
              clear hK K
              refine wpAnyIn_ready (rs := [0]) (by kernel_rfl) (by simp) ?_
              refine AllReadyIn.cons rfl (fun K hK => ?_) ?_
              · go_simp
                refine hK _ _ ?_
                clear hK K
                refine wpAnyIn_ready (rs := [6]) (by kernel_rfl) (by simp) ?_
                refine AllReadyIn.cons rfl (fun K hK => ?_) ?_
                · refine stepIn_wide _ _ (by intro c h; cases h) rfl (E := False) (step_append_own (by rfl) _ _ _ (by rfl) W5.heap.size 32 ib _ 4 64 Tryz.underlying24 hib ibz ibs ibb rfl (by decide) ov pre.length (bs.flatMap BatT.c) (by rfl) ((hownX.out _ hbw4).alloc _) ⟨w4.heap.size, 0, none⟩ 1 1 (BatT.c ⟨m, CA', cap', cs'⟩) (by rfl) (by decide) (by rfl) (by rw [hbc.out _ _ _ hcs4]; exact fun q u' h => new_cells _ _ _ q u' h) (BatT.c_one _) h3.out h4.out (h5.out _ _ hbw4) ?_)
                  intro gg cap4 w5 hown5 hg5 hm5
                  obtain ⟨cg5, fg5, F1, F2, F3⟩ := hfin.out _ _ _ _ _ _ _ hbw4 hcs4 hmod4 hof4 hown5 hg5 hm5
                  refine hK _ _ ?_
                  clear hK K
                  refine wpAnyIn_ready (rs := [7]) (by kernel_rfl) (by simp) ?_
                  refine AllReadyIn.cons rfl (fun K hK => ?_) ?_
                  · go_simp
                    refine hK _ _ ?_
                    clear hK K
                    refine wpAnyIn_done (by kernel_rfl) ?_ _
                    gi_wp2
                    exact ⟨F1, F2, F3⟩
                  exact AllReadyIn.nil
                exact AllReadyIn.nil
              exact AllReadyIn.nil
            exact AllReadyIn.nil
          exact AllReadyIn.nil
        exact AllReadyIn.nil
      exact AllReadyIn.nil
    refine AllReadyIn.cons rfl (fun K hK => ?_) ?_
    · go_simp
      refine hK _ _ ?_
      clear hK K
      refine wpAnyIn_ready (rs := [0, 1]) (by kernel_rfl) (by simp) ?_
      refine AllReadyIn.cons rfl (fun K hK => ?_) ?_
      · go_simp
        refine hK _ _ ?_
        clear hK K
        refine wpAnyIn_ready (rs := [1]) (by kernel_rfl) (by simp) ?_
        refine AllReadyIn.cons rfl (fun K hK => ?_) ?_
        · go_simp
          refine hK _ _ ?_
          clear hK K
          refine wpAnyIn_ready (rs := [3]) (by kernel_rfl) (by simp) ?_
          refine AllReadyIn.cons rfl (fun K hK => ?_) ?_
          · go_simp
            gi_wp2_with (refine ⟨trivial, ?_⟩; gi_at_call 13; refine (CallsIn.inRound l (callsIn_wide.2 (hnb.out _ (by first | exact Below.drew (Below.refl _ _) | exact Below.refl _ _)))).mono ?_; rintro e w3 ⟨CA, cap, rfl, hbw3, cw3, hcp⟩)
            refine wpAnyIn_ready (rs := [4]) (by kernel_rfl) (by simp) ?_
            refine AllReadyIn.cons rfl (fun K hK => ?_) ?_
            · go_simp
              gi_wp2_with (refine ⟨trivial, ?_⟩; gi_at_call 12; refine (CallsIn.inRound l (callsIn_wide.2 hcp)).mono ?_; rintro e w4 ⟨CA', cap', cs', rfl, hbw4, cw4, cy4, hcs4, hmod4, hof4⟩)
              refine wpAnyIn_ready (rs := [5]) (by kernel_rfl) (by simp) ?_
              refine AllReadyIn.cons rfl (fun K hK => ?_) ?_
              · go_simp
                refine hK _ _ ?_
                clear hK K
                refine wpAnyIn_ready (rs := [6]) (by kernel_rfl) (by simp) ?_
                refine AllReadyIn.cons rfl (fun K hK => ?_) ?_
                · refine stepIn_wide _ _ (by intro c h; cases h) rfl (E := False) (step_append_own (by rfl) _ _ _ (by rfl) W5.heap.size 32 ib _ 4 64 Tryz.underlying24 hib ibz ibs ibb rfl (by decide) ov pre.length (bs.flatMap BatT.c) (by rfl) ((hownX.out _ hbw4).alloc _) ⟨w4.heap.size, 0, none⟩ 1 1 (BatT.c ⟨m, CA', cap', cs'⟩) (by rfl) (by decide) (by rfl) (by rw [hbc.out _ _ _ hcs4]; exact fun q u' h => new_cells _ _ _ q u' h) (BatT.c_one _) h3.out h4.out (h5.out _ _ hbw4) ?_)
                  intro gg cap4 w5 hown5 hg5 hm5
                  obtain ⟨cg5, fg5, F1, F2, F3⟩ := hfin.out _ _ _ _ _ _ _ hbw4 hcs4 hmod4 hof4 hown5 hg5 hm5
                  refine hK _ _ ?_
                  clear hK K
                  refine wpAnyIn_ready (rs := [7]) (by kernel_rfl) (by simp) ?_
                  refine AllReadyIn.cons rfl (fun K hK => ?_) ?_
                  · go_simp
                    refine hK _ _ ?_
                    clear hK K
                    refine wpAnyIn_done (by kernel_rfl) ?_ _
                    gi_wp2
                    exact ⟨F1, F2, F3⟩
                  exact AllReadyIn.nil
                exact AllReadyIn.nil
              exact AllReadyIn.nil
            exact AllReadyIn.nil
          exact AllReadyIn.nil
        exact AllReadyIn.nil
      refine AllReadyIn.cons rfl (fun K hK => ?_) ?_
      · go_simp
        refine hK _ _ ?_
        clear hK K
        refine wpAnyIn_ready (rs := [0, 3]) (by kernel_rfl) (by simp) ?_
        refine AllReadyIn.cons rfl (fun K hK => ?_) ?_
        · go_simp
          refine hK _ _ ?_
          clear hK K
          refine wpAnyIn_ready (rs := [3]) (by kernel_rfl) (by simp) ?_
          refine AllReadyIn.cons rfl (fun K hK => ?_) ?_
          · go_simp
            gi_wp2_with (refine ⟨trivial, ?_⟩; gi_at_call 13; refine (CallsIn.inRound l (callsIn_wide.2 (hnb.out _ (by first | exact Below.drew (Below.refl _ _) | exact Below.refl _ _)))).mono ?_; rintro e w3 ⟨CA, cap, rfl, hbw3, cw3, hcp⟩)
            refine wpAnyIn_ready (rs := [4]) (by kernel_rfl) (by simp) ?_
            refine AllReadyIn.cons rfl (fun K hK => ?_) ?_
            · go_simp
              gi_wp2_with (refine ⟨trivial, ?_⟩; gi_at_call 12; refine (CallsIn.inRound l (callsIn_wide.2 hcp)).mono ?_; rintro e w4 ⟨CA', cap', cs', rfl, hbw4, cw4, cy4, hcs4, hmod4, hof4⟩)
              refine wpAnyIn_ready (rs := [5]) (by kernel_rfl) (by simp) ?_
              refine AllReadyIn.cons rfl (fun K hK => ?_) ?_
              · go_simp
                refine hK _ _ ?_
                clear hK K
                refine wpAnyIn_ready (rs := [6]) (by kernel_rfl) (by simp) ?_
                refine AllReadyIn.cons rfl (fun K hK => ?_) ?_
                · refine stepIn_wide _ _ (by intro c h; cases h) rfl (E := False) (step_append_own (by rfl) _ _ _ (by rfl) W5.heap.size 32 ib _ 4 64 Tryz.underlying24 hib ibz ibs ibb rfl (by decide) ov pre.length (bs.flatMap BatT.c) (by rfl) ((hownX.out _ hbw4).alloc _) ⟨w4.heap.size, 0, none⟩ 1 1 (BatT.c ⟨m, CA', cap', cs'⟩) (by rfl) (by decide) (by rfl) (by rw [hbc.out _ _ _ hcs4]; exact fun q u' h => new_cells _ _ _ q u' h) (BatT.c_one _) h3.out h4.out (h5.out _ _ hbw4) ?_)
                  intro gg cap4 w5 hown5 hg5 hm5
                  obtain ⟨cg5, fg5, F1, F2, F3⟩ := hfin.out _ _ _ _ _ _ _ hbw4 hcs4 hmod4 hof4 hown5 hg5 hm5
                  refine hK _ _ ?_
                  clear hK K
                  refine wpAnyIn_ready (rs := [7]) (by kernel_rfl) (by simp) ?_
                  refine AllReadyIn.cons rfl (fun K hK => ?_) ?_
                  · go_simp
                    refine hK _ _ ?_
                    clear hK K
                    refine wpAnyIn_done (by kernel_rfl) ?_ _
                    gi_wp2
                    exact ⟨F1, F2, F3⟩
                  exact AllReadyIn.nil
                exact AllReadyIn.nil
              exact AllReadyIn.nil
            exact AllReadyIn.nil
          exact AllReadyIn.nil
        refine AllReadyIn.cons rfl (fun K hK => ?_) ?_
        · go_simp
          gi_wp2_with (refine ⟨trivial, ?_⟩; gi_at_call 13; refine (CallsIn.inRound l (callsIn_wide.2 (hnb.out _ (by first | exact Below.drew (Below.refl _ _) | exact Below.refl _ _)))).mono ?_; rintro e w3 ⟨CA, cap, rfl, hbw3, cw3, hcp⟩)
          refine wpAnyIn_ready (rs := [0, 4]) (by kernel_rfl) (by simp) ?_
          refine AllReadyIn.cons rfl (fun K hK => ?_) ?_
          · go_simp
            refine hK _ _ ?_
            clear hK K
            refine wpAnyIn_ready (rs := [4]) (by kernel_rfl) (by simp) ?_
            refine AllReadyIn.cons rfl (fun K hK => ?_) ?_
            · go_simp
              gi_wp2_with (refine ⟨trivial, ?_⟩; gi_at_call 12; refine (CallsIn.inRound l (callsIn_wide.2 hcp)).mono ?_; rintro e w4 ⟨CA', cap', cs', rfl, hbw4, cw4, cy4, hcs4, hmod4, hof4⟩)
              refine wpAnyIn_ready (rs := [5]) (by kernel_rfl) (by simp) ?_
              refine AllReadyIn.cons rfl (fun K hK => ?_) ?_
              · go_simp
                refine hK _ _ ?_
                clear hK K
                refine wpAnyIn_ready (rs := [6]) (by kernel_rfl) (by simp) ?_
                refine AllReadyIn.cons rfl (fun K hK => ?_) ?_
                · refine stepIn_wide _ _ (by intro c h; cases h) rfl (E := False) (step_append_own (by rfl) _ _ _ (by rfl) W5.heap.size 32 ib _ 4 64 Tryz.underlying24 hib ibz ibs ibb rfl (by decide) ov pre.length (bs.flatMap BatT.c) (by rfl) ((hownX.out _ hbw4).alloc _) ⟨w4.heap.size, 0, none⟩ 1 1 (BatT.c ⟨m, CA', cap', cs'⟩) (by rfl) (by decide) (by rfl) (by rw [hbc.out _ _ _ hcs4]; exact fun q u' h => new_cells _ _ _ q u' h) (BatT.c_one _) h3.out h4.out (h5.out _ _ hbw4) ?_)
                  intro gg cap4 w5 hown5 hg5 hm5
                  obtain ⟨cg5, fg5, F1, F2, F3⟩ := hfin.out _ _ _ _ _ _ _ hbw4 hcs4 hmod4 hof4 hown5 hg5 hm5
                  refine hK _ _ ?_
                  clear hK K
                  refine wpAnyIn_ready (rs := [7]) (by kernel_rfl) (by simp) ?_
                  refine AllReadyIn.cons rfl (fun K hK => ?_) ?_
                  · go_simp
                    refine hK _ _ ?_
                    clear hK K
                    refine wpAnyIn_done (by kernel_rfl) ?_ _
                    gi_wp2
                    exact ⟨F1, F2, F3⟩
                  exact AllReadyIn.nil
                exact AllReadyIn.nil
              exact AllReadyIn.nil
            exact AllReadyIn.nil
          refine AllReadyIn.cons rfl (fun K hK => ?_) ?_
          · go_simp
            gi_wp2_with (refine ⟨trivial, ?_⟩; gi_at_call 12; refine (CallsIn.inRound l (callsIn_wide.2 hcp)).mono ?_; rintro e w4 ⟨CA', cap', cs', rfl, hbw4, cw4, cy4, hcs4, hmod4, hof4⟩)
            refine wpAnyIn_ready (rs := [0, 5]) (by kernel_rfl) (by simp) ?_
            refine AllReadyIn.cons rfl (fun K hK => ?_) ?_
            · go_simp
              refine hK _ _ ?_
              clear hK K
              refine wpAnyIn_ready (rs := [5]) (by kernel_rfl) (by simp) ?_
              refine AllReadyIn.cons rfl (fun K hK => ?_) ?_
              · go_simp
                refine hK _ _ ?_
                clear hK K
                refine wpAnyIn_ready (rs := [6]) (by kernel_rfl) (by simp) ?_
                refine AllReadyIn.cons rfl (fun K hK => ?_) ?_
                · refine stepIn_wide _ _ (by intro c h; cases h) rfl (E := False) (step_append_own (by rfl) _ _ _ (by rfl) W5.heap.size 32 ib _ 4 64 Tryz.underlying24 hib ibz ibs ibb rfl (by decide) ov pre.length (bs.flatMap BatT.c) (by rfl) ((hownX.out _ hbw4).alloc _) ⟨w4.heap.size, 0, none⟩ 1 1 (BatT.c ⟨m, CA', cap', cs'⟩) (by rfl) (by decide) (by rfl) (by rw [hbc.out _ _ _ hcs4]; exact fun q u' h => new_cells _ _ _ q u' h) (BatT.c_one _) h3.out h4.out (h5.out _ _ hbw4) ?_)
                  intro gg cap4 w5 hown5 hg5 hm5
                  obtain ⟨cg5, fg5, F1, F2, F3⟩ := hfin.out _ _ _ _ _ _ _ hbw4 hcs4 hmod4 hof4 hown5 hg5 hm5
                  refine hK _ _ ?_
                  clear hK K
                  refine wpAnyIn_ready (rs := [7]) (by kernel_rfl) (by simp) ?_
                  refine AllReadyIn.cons rfl (fun K hK => ?_) ?_
                  · go_simp
                    refine hK _ _ ?_
                    clear hK K
                    refine wpAnyIn_done (by kernel_rfl) ?_ _
                    gi_wp2
                    exact ⟨F1, F2, F3⟩
                  exact AllReadyIn.nil
                exact AllReadyIn.nil
              exact AllReadyIn.nil
            refine AllReadyIn.cons rfl (fun K hK => ?_) ?_
            · go_simp
              refine hK _ _ ?_
              clear hK K
              refine wpAnyIn_ready (rs := [0]) (by kernel_rfl) (by simp) ?_
              refine AllReadyIn.cons rfl (fun K hK => ?_) ?_
              · go_simp
                refine hK _ _ ?_
                clear hK K
                refine wpAnyIn_ready (rs := [6]) (by kernel_rfl) (by simp) ?_
                refine AllReadyIn.cons rfl (fun K hK => ?_) ?_
                · refine stepIn_wide _ _ (by intro c h; cases h) rfl (E := False) (step_append_own (by rfl) _ _ _ (by rfl) W5.heap.size 32 ib _ 4 64 Tryz.underlying24 hib ibz ibs ibb rfl (by decide) ov pre.length (bs.flatMap BatT.c) (by rfl) ((hownX.out _ hbw4).alloc _) ⟨w4.heap.size, 0, none⟩ 1 1 (BatT.c ⟨m, CA', cap', cs'⟩) (by rfl) (by decide) (by rfl) (by rw [hbc.out _ _ _ hcs4]; exact fun q u' h => new_cells _ _ _ q u' h) (BatT.c_one _) h3.out h4.out (h5.out _ _ hbw4) ?_)
                  intro gg cap4 w5 hown5 hg5 hm5
                  obtain ⟨cg5, fg5, F1, F2, F3⟩ := hfin.out _ _ _ _ _ _ _ hbw4 hcs4 hmod4 hof4 hown5 hg5 hm5
                  refine hK _ _ ?_
                  clear hK K
                  refine wpAnyIn_ready (rs := [7]) (by kernel_rfl) (by simp) ?_
                  refine AllReadyIn.cons rfl (fun K hK => ?_) ?_
                  · go_simp
                    refine hK _ _ ?_
                    clear hK K
                    refine wpAnyIn_done (by kernel_rfl) ?_ _
                    gi_wp2
                    exact ⟨F1, F2, F3⟩
                  exact AllReadyIn.nil
                exact AllReadyIn.nil
              exact AllReadyIn.nil
            exact AllReadyIn.nil
          exact AllReadyIn.nil
        exact AllReadyIn.nil
      exact AllReadyIn.nil
    exact AllReadyIn.nil
  case done =>
    rintro D ys W hD rfl ⟨ov, bs, i1, i2, i3, i4, i5, i6⟩ hK
    rw [List.length_range] at i2 i3
    obtain ⟨A, cap, rfl, hgr, hnil⟩ := own_grow i3 i2 (fun _ _ => rfl)
    have hca : K ≤ cap := by have := hgr.1; omega
    have hcm := hgr.2.1
    have c0 : W.cell? ⟨w2.heap.size, 0, none⟩ = some (.slice A K cap) := by rw [cell_of_row _ _ 0 _ _ _ i1]; rfl
    have hclip := Lib.hid (fun W => clipBat_any A K cap W hca hcm hnil)
    have Hi := Lib.hid i1
    have Hi2 := Lib.hid i2
    have Hi3 := Lib.hid i3
    have Hi4 := Lib.hid i4
    have Hi5 := Lib.hid i5
    have Hi6 := Lib.hid i6
    have Hca := Lib.hid hca
    have Hcm := Lib.hid hcm
    have Hnil := Lib.hid hnil
    clear i1 i2 i3 i4 i5 i6 hgr hca hcm hnil
    gi_wp2_with (first
      | (refine ⟨trivial, ?_⟩; gi_at_call 14; refine (callsIn_wide.2 (hclip.out _)).mono ?_; rintro e w' ⟨rfl, rfl⟩))
    refine ⟨by simp, .inl ⟨_, _, rfl, run_takeDeferred hK, ?_⟩⟩
    refine ⟨.tuple #[.slice A K K, .int .i64 0], by simp [results, Tryz.results4, go_sem], ?_⟩
    obtain ⟨f1, f2, f3⟩ := eb_fin Hi2.out Hi3.out Hi4.out Hi5.out Hi6.out (Hbw.out.trans (Hb05.out.mono Hbw.out.size)) (Nat.le_of_lt Hwlt.out) hD hK Hca.out Hcm.out
    exact ⟨A, K, bs, by rw [Hi2.out], f1, f2, f3, Hi2.out⟩
  case stop =>
    rintro D c pre W _ _ h _
    exact h.elim
end Go.Proofs.YtkadahfknccjfaaGreatDoor
namespace Go.Proofs.YtkadahfknccjfaaGreatDoor
open Go.RowKit Go.Shelf
attribute [local go_sem] Oper.semAt_some
theorem parts_num (len size : Nat) (hs : 1 ≤ size) : ∃ K, len ≤ K * size ∧ (K = 0 ∨ (K - 1) * size < len) ∧ K ≤ len := by
  have h1 := Nat.div_add_mod (len + size - 1) size
  have h2 := Nat.mod_lt (len + size - 1) (show 0 < size by omega)
  rw [Nat.mul_comm] at h1
  generalize (len + size - 1) / size = q at h1
  generalize (len + size - 1) % size = r at h1 h2
  cases q with
  | zero => exact ⟨0, by rw [Nat.zero_mul] at h1 ⊢; omega, .inl rfl, Nat.zero_le _⟩
  | succ q =>
    have e : (q + 1) * size = q * size + size := Nat.succ_mul q size
    have h4 : q * 1 ≤ q * size := Nat.mul_le_mul_left _ hs
    exact ⟨q + 1, by omega, .inr (by rw [Nat.add_sub_cancel]; omega), by omega⟩
set_option maxRecDepth 100000 in
set_option maxHeartbeats 1000000 in
theorem chunk0_in (F : Fence) (n : Nat) (h27 : F.fn 27) (hro : F.round = none) (l Bs Bn : Nat) (a : Option Addr) (cap size : Nat) (J : List Nat → World → Prop)
    (W : World) (hBs : W.cell? ⟨Bs, 0, none⟩ = some (.slice a 0 cap)) (hBn : W.cell? ⟨Bn, 0, none⟩ = some (.int .i64 size)) (h0 : J [] W) :
    CallsIn F n Tryz.prog 27 #[.func (.yield l) #[] #[], .pointer (some ⟨Bs, 0, none⟩), .pointer (some ⟨Bn, 0, none⟩)] W fun e W' => (∃ v, e = .returned v) ∧ J [] W' := by
  refine callsIn_of_wp Tryz.func27 rfl h27 ?_ hro
  simp only [Tryz.ntmps27, List.size_toArray, List.length_cons, List.length_nil, Nat.reduceAdd, Nat.reduceSub, Array.replicate_succ, Array.replicate_zero, List.push_toArray, List.append_toArray, List.nil_append, List.cons_append]
  gi_wp2
  gi_loopw [4] (fun i wr => i = .int .i64 0 ∧ J [] wr ∧ wr = W) (fun _ _ => 0)
  case atStart => exact ⟨rfl, h0, rfl⟩
  case round =>
    obtain ⟨rfl, hJs, rfl⟩ := hrel
    gi_wp2
    go_end0
    exact ⟨⟨_, rfl⟩, hJs⟩
set_option maxRecDepth 100000 in
set_option maxHeartbeats 8000000 in
theorem eBatches_any (TA RA : Option Addr) (tcap rcap flen len : Nat) (n : Int) (ts : List FT) (rows : List VT) (B : Nat) (w : World) (htr : FT.TRow B w TA tcap ts) (hr : VT.RRow B w RA rcap rows) (hT : Tabs B w) (hB : B ≤ w.heap.size) (hflen : Hid (ts.length = flen)) (hlen : Hid (rows.length = len)) (hmax : len ≤ 1048576) :
    Calls Tryz.prog 4 #[.slice TA flen tcap, .slice RA len rcap, .int .i64 n] w (BsPost id ts rows n B w) := by
  obtain ⟨R, hR⟩ : ∃ R, batchS ts rows n = R := ⟨_, rfl⟩
  have hR0 := hR
  unfold batchS at hR
  obtain ⟨W0, hW0⟩ : ∃ W0, w.alloc (.cells #[.slice TA flen tcap] 22) = W0 := ⟨_, rfl⟩
  have hbw : Below w.heap.size w W0 := by rw [← hW0]; exact bel1 _ _
  have P0 : W0.heap[w.heap.size]? = some (.cells #[.slice TA flen tcap] 22 (0, 0)) := by rw [← hW0]; exact heap_alloc_new w _
  have hlt0 : w.heap.size < W0.heap.size := (Array.getElem?_eq_some_iff.1 P0).1
  have hS0 : ∀ W, Below W0.heap.size W0 W → Same B w W ∧ B ≤ W.heap.size := fun W h => by
    have hb := hbw.trans (h.mono hbw.size)
    exact ⟨Same.mono (Same.of_below hb) hB, Nat.le_trans hB hb.size⟩
  have p0 := cell_of_row W0 w.heap.size 0 _ _ _ P0
  simp at p0
  have hct := Lib.hid (echeckTypes_any TA tcap flen ts B W0 (htr.keep (hS0 W0 (Below.refl _ _)).1) (hS0 W0 (Below.refl _ _)).2 hflen)
  have hcr := Lib.hid (fun W (h : Below W0.heap.size W0 W) => echeckRows_any TA RA tcap rcap flen len ts rows B W (htr.keep (hS0 W h).1) (hr.keep (hS0 W h).1) (hT.keep (hS0 W h).1) (hS0 W h).2 hflen hlen)
  by_cases hok : batchS ts rows n = 0
  · have ht0 : typesS ts = 0 := by
      unfold batchS at hok
      by_cases h : typesS ts ≠ 0
      · rw [if_pos h] at hok; exact absurd hok h
      · exact Classical.not_not.1 h
    have hr0 : rowsS ts rows = 0 := by
      unfold batchS at hok
      rw [if_neg (by simp [ht0])] at hok
      by_cases h : rowsS ts rows ≠ 0
      · rw [if_pos h] at hok; exact absurd hok h
      · exact Classical.not_not.1 h
    have hn0 : ¬ (n < 1 ∨ 1024 < n) := fun h => by
      unfold batchS at hok
      rw [if_neg (by simp [ht0]), if_neg (by simp [hr0]), if_pos h] at hok
      omega
    obtain ⟨size, rfl⟩ : ∃ m : Nat, n = (m : Int) := ⟨n.toNat, by omega⟩
    obtain ⟨K, k1, k2, k3⟩ := parts_num len size (by omega)
    have hfin : ∀ (enc : Nat → Value), (∀ Bs Bn W, W.cell? ⟨Bs, 0, none⟩ = some (.slice RA len rcap) → W.cell? ⟨Bn, 0, none⟩ = some (.int .i64 size) → SeqStopsK Fence.wide 5 Tryz.prog 27 #[.pointer (some ⟨Bs, 0, none⟩), .pointer (some ⟨Bn, 0, none⟩)] (fun k : Nat => #[enc k]) (KpB Bs Bn) (fun ys => ys = List.range K) (fun pre => ∃ k, k ≤ K ∧ pre = List.range k) K W) →
        (∀ k, 0 < K → ∃ a, enc k = .slice a (chunkAt rows size k).length (chunkAt rows size k).length ∧ VT.RRow B w a (chunkAt rows size k).length (chunkAt rows size k)) →
        Calls Tryz.prog 4 #[.slice TA flen tcap, .slice RA len rcap, .int .i64 (size : Int)] w (BsPost id ts rows size B w) := fun enc hst henc => by
      refine (eBatches_go TA RA tcap rcap flen len size K ts rows B w enc htr hT hr hB hflen hlen hmax ht0 hr0 (by omega) (by omega) (by omega) hst henc).mono ?_
      rintro e w' ⟨A, cap, bs, rfl, hb, hmod, hof, hbl⟩
      exact ⟨A, cap, bs, by rw [hok], hb, fun w'' hk _ => hmod w'' hk, fun _ => ⟨by simpa using hof, by simp only [Int.toNat_natCast]; rw [hbl]; exact ⟨by rw [hlen.out]; exact k1, by rw [hlen.out]; exact k2⟩⟩, fun h => absurd hok h⟩
    by_cases hK : K = 0
    · have hl0 : len = 0 := by rw [hK] at k1; omega
      subst hK
      refine hfin (fun _ => .slice none 0 0) (fun Bs Bn W h1 h2 l J Jx W' hW _ _ _ h0 => ?_) (fun k h => absurd h (by omega))
      rw [hl0] at h1
      exact (chunk0_in Fence.wide 5 trivial rfl l Bs Bn RA rcap size J W' ((hW.cell (p := ⟨Bs, 0, none⟩) (cell_lt h1)).trans h1) ((hW.cell (p := ⟨Bn, 0, none⟩) (cell_lt h2)).trans h2) h0).mono fun e W' ⟨he, hj⟩ => ⟨he, .inl ⟨[], rfl, hj⟩⟩
    · have hl0 : 0 < rows.length := by
        rcases k2 with h | h
        · omega
        · rw [hlen.out]; omega
      obtain ⟨x0, ad, _, hRA, _, _⟩ := hr.get hl0
      subst hRA
      have hlc : len ≤ rcap := by rw [← hlen.out]; exact hr.1
      have hcm : rcap ≤ 9223372036854775807 := hr.2.1
      refine hfin (fun k => chunkV ad len size k) (fun Bs Bn W h1 h2 => chunk_stops Fence.wide 5 trivial rfl (by decide) Bs Bn ad len rcap size K (by omega) (by omega) hmax hlc hcm k1 k2 W h1 h2) (fun k _ => ⟨some (ad.add (k * size)), ?_, ?_⟩)
      · rw [chunkAt_len, hlen.out]
        rfl
      · have h := RRow_part hr (k * size) size (chunkAt rows size k).length
        have h2 := RRow_take (RRow_part hr (k * size) (chunkAt rows size k).length (chunkAt rows size k).length (Nat.le_refl _) (by rw [chunkAt_len]; unfold maxLen; omega)) size
        have e : ((rows.drop (k * size)).take (chunkAt rows size k).length).take size = chunkAt rows size k := by
          rw [List.take_take]
          show (rows.drop (k * size)).take _ = (rows.drop (k * size)).take size
          rw [chunkAt_len]
          by_cases hh : size ≤ rows.length - k * size
          · rw [show min size (min size (rows.length - k * size)) = size by omega]
          · rw [List.take_of_length_le (by simp; omega), List.take_of_length_le (by simp; omega)]
        rw [e] at h2
        exact h2
  have HW0 := Lib.hid hW0
  have Hbw := Lib.hid hbw
  have Hlt0 := Lib.hid hlt0
  have HR0 := Lib.hid hR0
  have Hok : Hid (R ≠ 0) := by show R ≠ 0; rw [← hR0]; exact hok
  clear hW0 hS0 hbw hlt0 P0 htr hr hT hR0 hok
  by_cases ht0 : typesS ts = 0
  rotate_left
  · rw [if_pos ht0] at hR
    have n0 : (typesS ts != 0) = true := by simpa using ht0
    have HR := Lib.hid hR
    clear ht0 hR
    go_enter Tryz.func4, Tryz.ntmps4
    go_wp2_with fail
    rw [HW0.out]
    refine hct.out.mono ?_
    rintro e w1 ⟨rfl, hb1⟩
    go_wp2
    go_ret2
    exact bs_none (HR0.out.trans HR.out.symm) (by rw [HR.out]; exact Hok.out) (Hbw.out.trans (hb1.mono Hbw.out.size))
  rw [ht0, if_neg (by simp)] at hR
  have Ht := Lib.hid ht0
  clear ht0
  by_cases hr0 : rowsS ts rows = 0
  rotate_left
  · rw [if_pos hr0] at hR
    have n0 : (rowsS ts rows != 0) = true := by simpa using hr0
    have HR := Lib.hid hR
    clear hr0 hR
    go_enter Tryz.func4, Tryz.ntmps4
    go_wp2_with fail
    rw [HW0.out]
    refine hct.out.mono ?_
    rintro e w1 ⟨rfl, hb1⟩
    rw [Ht.out]
    have p1 := (hb1.cell (p := ⟨w.heap.size, 0, none⟩) Hlt0.out).trans p0
    go_wp2_with fail
    refine (hcr.out _ hb1).mono ?_
    rintro e w2 ⟨rfl, hb2⟩
    have hbF : Below w.heap.size w w2 := Hbw.out.trans ((hb1.trans (hb2.mono hb1.size)).mono Hbw.out.size)
    go_wp2
    go_ret2
    exact bs_none (HR0.out.trans HR.out.symm) (by rw [HR.out]; exact Hok.out) hbF
  rw [hr0, if_neg (by simp)] at hR
  have Hr0 := Lib.hid hr0
  clear hr0
  by_cases hn0 : n < 1
  · have HR := Lib.hid (show R = 3 by rw [← hR, if_pos (.inl hn0)])
    clear hR
    go_enter Tryz.func4, Tryz.ntmps4
    go_wp2_with fail
    rw [HW0.out]
    refine hct.out.mono ?_
    rintro e w1 ⟨rfl, hb1⟩
    rw [Ht.out]
    have p1 := (hb1.cell (p := ⟨w.heap.size, 0, none⟩) Hlt0.out).trans p0
    go_wp2_with fail
    refine (hcr.out _ hb1).mono ?_
    rintro e w2 ⟨rfl, hb2⟩
    have hbF : Below w.heap.size w w2 := Hbw.out.trans ((hb1.trans (hb2.mono hb1.size)).mono Hbw.out.size)
    rw [Hr0.out]
    go_wp2
    go_ret2
    exact bs_none (HR0.out.trans HR.out) (by decide) hbF
  by_cases hn1 : 1024 < n
  · have HR := Lib.hid (show R = 3 by rw [← hR, if_pos (.inr hn1)])
    clear hR
    go_enter Tryz.func4, Tryz.ntmps4
    go_wp2_with fail
    rw [HW0.out]
    refine hct.out.mono ?_
    rintro e w1 ⟨rfl, hb1⟩
    rw [Ht.out]
    have p1 := (hb1.cell (p := ⟨w.heap.size, 0, none⟩) Hlt0.out).trans p0
    go_wp2_with fail
    refine (hcr.out _ hb1).mono ?_
    rintro e w2 ⟨rfl, hb2⟩
    have hbF : Below w.heap.size w w2 := Hbw.out.trans ((hb1.trans (hb2.mono hb1.size)).mono Hbw.out.size)
    rw [Hr0.out]
    go_wp2
    go_ret2
    exact bs_none (HR0.out.trans HR.out) (by decide) hbF
  rw [if_neg (by omega)] at hR
  exact absurd hR.symm Hok.out
end Go.Proofs.YtkadahfknccjfaaGreatDoor
