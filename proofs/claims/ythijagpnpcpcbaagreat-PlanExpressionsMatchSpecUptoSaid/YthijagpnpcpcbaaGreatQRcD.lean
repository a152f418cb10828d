/-
  The law's exprs.
  What shifts and substitutions come to on both sides, plain. slices.Equal of the same numbers.
  The law's regions that make memory: steps.
-/
import Derived.Test.YthijagpnpcpcbaaGreatQGtJ
import Derived.Test.YthijagpnpcpcbaaGreatQRcA
import Derived.Test.YthijagpnpcpcbaaGreatQRmK
import Derived.Test.YthijagpnpcpcbaaGreatQNrH
import Derived.Test.YthijagpnpcpcbaaGreatQRmL
namespace Go.Proofs.YthijagpnpcpcbaaGreat
open Go.RowKit Go.Sort
set_option maxRecDepth 100000 in
set_option maxHeartbeats 4000000 in
theorem lexprs_any (l m : List DT) (A A2 : Option Addr) (cap cap2 : Nat) (w : World) (hlm : USL .expr l m) (rl : DRow (Lv w) w 14 A cap l) (il : ∀ x, x ∈ l → UIn (Lv w) w .expr x) (rm : DRow (Lv w) w 14 A2 cap2 m) (im : ∀ x, x ∈ m → UIn (Lv w) w .expr x)
    (hcal : ∀ x, x ∈ l → SmC 7 .expr x) : Calls Tryz.prog 5 #[.slice A l.length cap, .slice A2 m.length cap2] w (Tru w) := by
  obtain ⟨len, hlen⟩ : ∃ q, l.length = q := ⟨_, rfl⟩
  have hlen2 : m.length = len := by rw [← hlm.1]; exact hlen
  have hll := rl.len_le
  rw [hlen] at hll ⊢
  rw [hlen2]
  have Rl := Lib.hid rl
  have Rm := Lib.hid rm
  have Il := Lib.hid il
  have Im := Lib.hid im
  have Hlm := Lib.hid hlm
  have Hlen := Lib.hid hlen
  have Hlen2 := Lib.hid hlen2
  have Hcal := Lib.hid hcal
  clear rl rm il im hlm hlen hlen2 hcal
  go_enter Tryz.func5, Tryz.ntmps5
  go_wp2
  go_loopw [13] (fun i wr => ∃ j : Nat, j ≤ len ∧ i = .int .i64 j ∧ Below w.heap.size w wr) (fun i _ => len - (intOf i).toNat)
  case atStart => exact ⟨0, Nat.zero_le _, rfl, Below.refl _ _⟩
  case round =>
    obtain ⟨j, hj, rfl, hzr⟩ := hrel
    by_cases hlt : j < len
    · obtain ⟨x, ad, hx, rfl, hb, hat⟩ := (Rl.out.below hzr).get (show j < l.length by rw [Hlen.out]; exact hlt)
      obtain ⟨y, ad2, hy, rfl, hb2, hat2⟩ := (Rm.out.below hzr).get (show j < m.length by rw [Hlen2.out]; exact hlt)
      have hxi := (Il.out x (mem_of_get? hx)).blw hzr
      have hyi := (Im.out y (mem_of_get? hy)).blw hzr
      have hsz1 : Hid ((Tryz.prog.info? 31).map (·.size) = some x.c.length) := by show _ = _; rw [hxi.len]; exact uSizeExpr
      have hsz2 : Hid ((Tryz.prog.info? 31).map (·.size) = some y.c.length) := by show _ = _; rw [hyi.len]; exact uSizeExpr
      have hcm : Hid (∀ d os, Calls Tryz.prog 7 #[.agg x.c.toArray, .agg y.c.toArray] (grow (redrawn wr d) os) fun e w'' => e = .returned (.bool true) ∧ ∃ p : Regrown, w'' = grow (redrawn wr p.d) p.os) := fun d os =>
        Calls.regrown_of (Hcal.out x (mem_of_get? hx) y _ (Hlm.out.2 j x y hx hy) (hxi.blw (below_regrown wr d os)) (hyi.blw (below_regrown wr d os)))
      have l1 : Hid (∀ W, (∃ p : Regrown, W = grow (redrawn wr p.d) p.os) → ∀ i u, x.c[i]? = some u → W.cell? ((ad.add (j * 14)).add i) = some u) := fun W ⟨p, e⟩ i u hu => by rw [e]; exact cell_regrown (at_add hat i u hu) _ _
      have l2 : Hid (∀ W, (∃ p : Regrown, W = grow (redrawn wr p.d) p.os) → ∀ i u, y.c[i]? = some u → W.cell? ((ad2.add (j * 14)).add i) = some u) := fun W ⟨p, e⟩ i u hu => by rw [e]; exact cell_regrown (at_add hat2 i u hu) _ _
      clear hx hy hat hat2 hxi hyi
      go_upto_region 6 with (fail)
      refine wp_region_quiet_below (by kernel_rfl) (by kernel_rfl) ?_
      repeat (first
        | (refine wpQuiet_load_st rfl 31 _ rfl _ Tryz.underlying31 rfl (ad.add (j * 14)) x.c hsz1.out rfl l1.out ?_)
        | (refine wpQuiet_load_st rfl 31 _ rfl _ Tryz.underlying31 rfl (ad2.add (j * 14)) y.c hsz2.out rfl l2.out ?_)
        | quiet_step (with_reducible first | exact hcm.out _ _))
      refine wpQuiet_nil ?_
      intro _ hw'
      obtain ⟨⟨dq, osq⟩, hw''⟩ := hw'
      subst hw''
      have hb3 := below_regrown wr dq osq
      have hw1 : Sort.grow (redrawn wr (Regrown.mk dq osq).d) (Regrown.mk dq osq).os = Sort.grow (redrawn wr dq) osq := rfl
      rw [hw1]
      clear hw1 hcm l1 l2
      generalize Sort.grow (redrawn wr dq) osq = W2 at hb3 ⊢
      go_wp2
      go_roundw
      case rel => exact ⟨j + 1, by omega, by go_num, hzr.trans (hb3.mono hzr.size)⟩
      case measure => simp [intOf]; omega
    · obtain rfl : j = len := by omega
      go_wp2
      go_ret
      exact ⟨rfl, hzr⟩
theorem lexprs_sm (l m : List DT) (A A2 : Option Addr) (cap cap2 : Nat) (w : World) (hlm : USL .expr l m) (rl : DRow (Lv w) w 14 A cap l) (il : ∀ x, x ∈ l → UIn (Lv w) w .expr x) (rm : DRow (Lv w) w 14 A2 cap2 m) (im : ∀ x, x ∈ m → UIn (Lv w) w .expr x) :
    Calls Tryz.prog 5 #[.slice A l.length cap, .slice A2 m.length cap2] w (Tru w) :=
  lexprs_any l m A A2 cap cap2 w hlm rl il rm im fun x _ => rSameExpr_sm x
end Go.Proofs.YthijagpnpcpcbaaGreat
namespace Go.Proofs.YthijagpnpcpcbaaGreat
open Go.RowKit Go.Sort
/-- Two shifts of one tree agree. -/
theorem sh_agree {frm by' : Int} {x y y' : DT} {f f' : Int}
    (h : ((∃ v, Vs (shCm frm by') .expr 0 x v ∧ shBad frm by' v) ∧ f = 3 ∧ y = zTr) ∨ ((∀ v, Vs (shCm frm by') .expr 0 x v → ¬ shBad frm by' v) ∧ f = 0 ∧ Mp (shCm frm by') .expr 0 x y))
    (h' : ((∃ v, Vs (shCm frm by') .expr 0 x v ∧ shBad frm by' v) ∧ f' = 3 ∧ y' = zTr) ∨ ((∀ v, Vs (shCm frm by') .expr 0 x v → ¬ shBad frm by' v) ∧ f' = 0 ∧ Mp (shCm frm by') .expr 0 x y')) : (f = f' ∧ (f = 0 ∨ f = 3)) ∧ USm .expr y y' := by
  rcases h with ⟨⟨v, hv, hb⟩, rfl, rfl⟩ | ⟨hn, rfl, hm⟩
  · rcases h' with ⟨_, rfl, rfl⟩ | ⟨hn', _, _⟩
    · exact ⟨⟨rfl, .inr rfl⟩, USm.refl _ _⟩
    · exact absurd hb (hn' v hv)
  · rcases h' with ⟨⟨v, hv, hb⟩, _, _⟩ | ⟨_, rfl, hm'⟩
    · exact absurd hb (hn v hv)
    · exact ⟨⟨rfl, .inl rfl⟩, Mp.det (m := shCm frm by') (fun _ _ _ _ h => False.elim h) hm hm'⟩
theorem subR_det {wl : List DT} {d : Int} {x y y' : DT} (h : SubR wl d x y) (h' : SubR wl d x y') : USm .expr y y' := by
  by_cases hr : 0 ≤ atOf x.c ∧ atOf x.c < wl.length
  · have hlt : (atOf x.c).toNat < wl.length := by omega
    have hw := List.getElem?_eq_getElem hlt
    obtain ⟨h1, h2⟩ := h.2 _ hr.1 hw
    obtain ⟨h1', h2'⟩ := h'.2 _ hr.1 hw
    by_cases hb : shB d wl[(atOf x.c).toNat]
    · rw [h1 hb, h1' hb]
      exact USm.refl _ _
    · exact Mp.det (m := shCm 0 d) (fun _ _ _ _ h => False.elim h) (h2 hb) (h2' hb)
  · rw [h.1 hr, h'.1 hr]
    exact USm.refl _ _
/-- Two substitutions agree where all is near. -/
theorem sb_agree {wl : List DT} {x y y' : DT} {f f' : Int} (hx : x.n ≤ 1048576) (hwl : ∀ z, z ∈ wl → NearT .expr z ∧ z.n ≤ 1048576)
    (h : ((∃ v, Vs (sbCm wl) .expr 0 x v ∧ sbBad wl v) ∧ f = 3 ∧ y = zTr) ∨ ((∀ v, Vs (sbCm wl) .expr 0 x v → ¬ sbBad wl v) ∧ f = 0 ∧ Mp (sbCm wl) .expr 0 x y))
    (h' : ((∃ v, Vs (sbCm wl) .expr 0 x v ∧ sbBadR wl v) ∧ f' = 3 ∧ y' = zTr) ∨ ((∀ v, Vs (sbCm wl) .expr 0 x v → ¬ sbBadR wl v) ∧ f' = 0 ∧ Mp (sbCm wl) .expr 0 x y')) : (f = f' ∧ (f = 0 ∨ f = 3)) ∧ USm .expr y y' := by
  have key : ∀ v, Vs (sbCm wl) .expr 0 x v → (sbBad wl v ↔ sbBadR wl v) := fun v hv => by
    have hd := hv.dep
    constructor
    · rintro ⟨hu, h | ⟨wx, _, hw, hb⟩⟩
      · exact ⟨hu, h⟩
      · obtain ⟨hn, hs⟩ := hwl wx (List.mem_of_getElem? hw)
        exact absurd hb (near_shB hd.1 (by omega) hn fun u hu' => by have := hu'.dep; omega)
    · rintro ⟨hu, h⟩
      exact ⟨hu, .inl h⟩
  rcases h with ⟨⟨v, hv, hb⟩, rfl, rfl⟩ | ⟨hn, rfl, hm⟩
  · rcases h' with ⟨_, rfl, rfl⟩ | ⟨hn', _, _⟩
    · exact ⟨⟨rfl, .inr rfl⟩, USm.refl _ _⟩
    · exact absurd ((key v hv).1 hb) (hn' v hv)
  · rcases h' with ⟨⟨v, hv, hb⟩, _, _⟩ | ⟨_, rfl, hm'⟩
    · exact absurd ((key v hv).2 hb) (hn v hv)
    · exact ⟨⟨rfl, .inl rfl⟩, Mp.det (m := sbCm wl) (fun _ _ _ _ h1 h2 => subR_det h1 h2) hm hm'⟩
theorem Below.ofDrewN (w : World) (q : Nat) : Below w.heap.size w (w.drewN q) := by
  have := below_drewN (Below.refl w.heap.size w) q
  exact this
/-- slices.Equal of the same numbers. -/
theorem equalI_any (l : List Int) (A1 A2 : Option Addr) (n1 n2 : Nat) (w : World) (h1 : IRow w A1 n1 l) (h2 : IRow w A2 n2 l) :
    Calls Tryz.prog 12 #[.slice A1 l.length n1, .slice A2 l.length n2] w fun e w' => e = .returned (.bool true) ∧ Below w.heap.size w w' := by
  have hb := Nat.le_trans h1.1 h1.2.1
  unfold maxLen at hb
  cases l with
  | nil =>
    refine (Tryz.slices_Equal_int_empty A1 A2 n1 0 n2 w (by omega)).mono ?_
    rintro e w' ⟨rfl, rfl⟩
    exact ⟨by simp, Below.refl _ _⟩
  | cons k l =>
    obtain ⟨g1, _, _, rfl, _, _⟩ := h1.2.2 0 k rfl
    obtain ⟨g2, _, _, rfl, _, _⟩ := h2.2.2 0 k rfl
    have hc : ∀ (g n : Nat), IRow w (some ⟨g, 0, none⟩) n (k :: l) → ∀ j, j < (k :: l).length → w.cell? ⟨g, 0 + j, none⟩ = some (.int .i64 ((k :: l).getD j 0)) := fun g n h j hj => by
      obtain ⟨g', _, _, e, _, hc⟩ := h.2.2 j _ (List.getElem?_eq_getElem hj)
      cases e
      rw [Nat.zero_add, hc]
      simp [List.getD, List.getElem?_eq_getElem hj]
    refine (Tryz.slices_Equal_int g1 0 (k :: l).length n1 g2 0 (k :: l).length n2 (k :: l) (k :: l) w (Nat.le_refl _) (Nat.le_refl _) hb hb (hc g1 n1 h1) (hc g2 n2 h2)).mono ?_
    rintro e w' ⟨rfl, q, rfl⟩
    exact ⟨by simp, Below.ofDrewN w q⟩
/-- Two columns' lists are one. -/
theorem cols_agree {up : Int} {x : DT} {a b : List Int} (ha : a.Pairwise (· < ·)) (hb : b.Pairwise (· < ·)) (h1 : ∀ k, k ∈ a ↔ ColsAt x up k) (h2 : ∀ k, k ∈ b ↔ ColsAt x up k) : a = b := strict_ext a b ha hb fun k => (h1 k).trans (h2 k).symm
end Go.Proofs.YthijagpnpcpcbaaGreat
namespace Go.Proofs.YthijagpnpcpcbaaGreat
open Go.RowKit Go.Sort
theorem own_out {w : World} {b e size n : Nat} {v : Value} {xs : List Value} (h : w.ownsRow b e size v n xs) {k : Nat} (hk : some k = v.ownBlock) : b ≤ k ∧ k < w.heap.size := by
  rcases h.2 with ⟨rfl, _⟩ | ⟨g, cap, cur, rfl, hb, hg, _⟩
  · cases hk
  · have hk2 : some k = some g := hk
    cases hk2
    exact ⟨hb, (Array.getElem?_eq_some_iff.1 hg).1⟩
theorem own_blw {w w' : World} {b e size n : Nat} {v : Value} {xs : List Value} (h : w.ownsRow b e size v n xs) (hb : Below w.heap.size w w') : w'.ownsRow b e size v n xs :=
  h.kept (row := none) ⟨hb.os, hb.tape, hb.output, hb.size, fun k hk _ => hb.block k hk⟩ (by cases h : v.ownBlock <;> simp)
theorem Bk.grown {w w' : World} {g : Nat} {cs : List Value} {t : TypeId} {row : Option Nat} (h : Bk w g cs t) (hg : w.grownBy w' row) (hne : some g ≠ row) : Bk w' g cs t := (hg.block g h.lt hne).trans h
theorem Bk.blw {w w' : World} {g : Nat} {cs : List Value} {t : TypeId} (h : Bk w g cs t) (hb : Below w.heap.size w w') : Bk w' g cs t := (hb.block g h.lt).trans h
theorem Bk.src {w : World} {g : Nat} {cs : List Value} {t : TypeId} (h : Bk w g cs t) : SrcAt w (some ⟨g, 0, none⟩) cs := .inr ⟨_, rfl, fun j u hu => by
  have hadd : (⟨g, 0, none⟩ : Addr).add j = ⟨g, j, none⟩ := by unfold Addr.add; split <;> simp_all
  rw [hadd, h.cell, hu]⟩
theorem Bk.irow {w : World} {g n : Nat} {l : List Int} (h : Bk w g (l.map (Value.int .i64)) 3) (hl : l.length ≤ n) (hn : n ≤ maxLen) : IRow w (some ⟨g, 0, none⟩) n l := ⟨hl, hn, fun i k hi => ⟨g, _, _, rfl, h, by rw [h.cell, List.getElem?_map, hi]; rfl⟩⟩
theorem below_grown {n : Nat} {w0 w w' : World} {v : Value} {b e size m : Nat} {xs : List Value} (h : Below n w0 w) (ho : w.ownsRow b e size v m xs) (hg : w.grownBy w' v.ownBlock) (hn : n ≤ b) (hw : n ≤ w.heap.size) : Below n w0 w' :=
  ⟨hg.os.trans h.os, hg.tape.trans h.tape, hg.output.trans h.output, Nat.le_trans h.size hg.size, fun k hk => (hg.block k (by omega) fun e => by have := (own_out ho e).1; omega).trans (h.block k hk)⟩
section
variable {P : Program} {Q : Exit → Act → World → Prop} {md : Region.Mode} {S : World → Prop}
theorem three_op {l : List Oper} {i j q : Nat} {oi oj oq : Oper} {fuel : Nat} {listed : Array Bool} {a : Act} {w : World} (hr : Region.ready md l.toArray listed = [i, j, q]) (hi : l[i]? = some oi) (hj : l[j]? = some oj) (hq : l[q]? = some oq) (gi : oi.guard = none) (gj : oj.guard = none) (gq : oq.guard = none)
    (h1 : oi.wp P a w (fun a' w' => S w' ∧ wpAnyH P md l.toArray Q S fuel (listed.setIfInBounds i true) a' w') Q) (h2 : oj.wp P a w (fun a' w' => S w' ∧ wpAnyH P md l.toArray Q S fuel (listed.setIfInBounds j true) a' w') Q) (h3 : oq.wp P a w (fun a' w' => S w' ∧ wpAnyH P md l.toArray Q S fuel (listed.setIfInBounds q true) a' w') Q) : wpAnyH P md l.toArray Q S (fuel + 1) listed a w :=
  wpAnyH_all hr (by simp) fun k hk => by
    simp only [List.mem_cons, List.not_mem_nil, or_false] at hk
    rcases hk with rfl | rfl | rfl
    · unfold wpOp
      simp only [List.getElem?_toArray, hi]
      rw [if_pos (by unfold Region.wanted; rw [gi])]
      exact .inl h1
    · unfold wpOp
      simp only [List.getElem?_toArray, hj]
      rw [if_pos (by unfold Region.wanted; rw [gj])]
      exact .inl h2
    · unfold wpOp
      simp only [List.getElem?_toArray, hq]
      rw [if_pos (by unfold Region.wanted; rw [gq])]
      exact .inl h3
/-- Two may come up: the first by a law of lists. -/
theorem mix_op {l : List Oper} {i j : Nat} {oi oj : Oper} {fuel : Nat} {listed : Array Bool} {a : Act} {w : World} (hr : Region.ready md l.toArray listed = [i, j]) (hi : l[i]? = some oi) (hj : l[j]? = some oj) (gi : oi.guard = none) (gj : oj.guard = none)
    (h : wpList P l.toArray (EndQ (fun a' w' => S w' ∧ wpAnyH P md l.toArray Q S fuel (listed.setIfInBounds i true) a' w') Q) [oi] a w) (h2 : oj.wp P a w (fun a' w' => S w' ∧ wpAnyH P md l.toArray Q S fuel (listed.setIfInBounds j true) a' w') Q) : wpAnyH P md l.toArray Q S (fuel + 1) listed a w :=
  wpAnyH_all hr (by simp) fun k hk => by
    simp only [List.mem_cons, List.not_mem_nil, or_false] at hk
    rcases hk with rfl | rfl
    · have hw : Region.wanted oi (yielded l.toArray a.tmps) = true := by unfold Region.wanted; rw [gi]
      unfold wpOp
      simp only [List.getElem?_toArray, hi]
      rw [if_pos hw]
      unfold wpList at h
      rw [if_pos hw] at h
      rcases h with h | ⟨ha, h⟩
      · refine .inl ?_
        unfold Oper.wp at *
        generalize (execOp a.eval oi).run P w = r at *
        cases r with
        | ok n w' => cases n <;> exact h
        | halt x w' => cases x <;> exact h
      · exact .inr ⟨ha, h⟩
    · unfold wpOp
      simp only [List.getElem?_toArray, hj]
      rw [if_pos (by unfold Region.wanted; rw [gj])]
      exact .inl h2
/-- A slice of one struct. -/
theorem exec_one_st {o : Oper} {a : Act} {w : World} (t e : TypeId) (x : Operand) (ho : o.op = .buildSlice t 1 #[(0, x)])
    (i : TypeInfo) (ht : P.underlying t = some (.slice e)) (hi : P.info? e = some i) (z : Value) (hz : i.zero = some z) (cs : Array Value) (hs : i.size = cs.size) (hzs : z.cells.size = cs.size) (h0 : 0 < cs.size) (hb : cs.size ≤ 16777216) (hx : a.eval x = .agg cs) :
    (execOp a.eval o).run P w = .ok (.value (.slice (some ⟨w.heap.size, 0, none⟩) 1 1)) (w.alloc (.cells cs e)) := by
  have hne : ¬ cs.size = 0 := by omega
  have hnb : ¬ (2 ^ 24 < cs.size) := by omega
  have hf : (cs.toList.zipIdx 0).foldl (fun z (c, j) => z.setIfInBounds j c) ((Array.range cs.size).map (z.cells[· % z.cells.size]!)) = cs := by
    rw [fold_set cs.toList 0 _ (by simp)]
    simp
  have hf2 : cs.zipIdx.foldl (fun cs' (c, j) => cs'.setIfInBounds (0 + j) c) ((Array.range cs.size).map (z.cells[· % z.cells.size]!)) = cs := by
    rw [← Array.foldl_toList, Array.toList_zipIdx]
    simpa using hf
  have hcells : (Value.agg cs).cells = cs := rfl
  have hr : (Instr.buildSlice t 1 #[(0, .agg cs)]).run P w = .ok (.slice (some ⟨w.heap.size, 0, none⟩) 1 1) (w.alloc (.cells cs e)) := by
    simp [Instr.buildSlice, Sem.run_bind, run_underlying ht, sizeOf, typeInfo, hi, hs, hne, hnb, zeroValue, hz, Instr.fill, hcells, newRow, Result.andThen]
    simp at hf2
    rw [hf2]
  unfold execOp
  simp only [ho, Sem.run_bind]
  simp [hx, hr, Result.andThen]
end
end Go.Proofs.YthijagpnpcpcbaaGreat

