/-
  The reference's mode.column: columns collected.
  The reference's Columns.
-/
import Derived.Test.YthijagpnpcpcbaaGreatQGtUa
import Derived.Test.YthijagpnpcpcbaaGreatQGtUc
import Derived.Test.YthijagpnpcpcbaaGreatQRmJ
import Derived.Test.YthijagpnpcpcbaaGreatQRmK
import Derived.Deep.QuietTactic
import Derived.BigQuiet
namespace Go.Proofs.YthijagpnpcpcbaaGreat
open Go.RowKit Go.Sort
theorem contI_any (l : List Int) (A : Option Addr) (cap B : Nat) (x : Int) (w : World) (h : IOwn B w A cap l) (hn : l.length ≤ 1048576) : Calls Tryz.prog 68 #[.slice A l.length cap, .int .i64 x] w fun e w' => e = .returned (.bool (l.contains x)) ∧ w' = w := by
  by_cases hne : l = []
  · subst hne
    exact Tryz.slices_Contains_int_empty A cap x w
  · obtain ⟨g, rfl⟩ : ∃ g, A = some ⟨g, 0, none⟩ := by
      rcases h.2.2 with e | ⟨g, cur, e, _⟩
      · exact absurd e hne
      · exact ⟨g, e⟩
    refine (Tryz.slices_Contains_int g 0 l.length cap l x w (Nat.le_refl _) (by omega) fun j hj => ?_).mono ?_
    · obtain ⟨g', _, _, e, _, hc⟩ := h.row.2.2 j l[j] (List.getElem?_eq_getElem hj)
      cases e
      rw [Nat.zero_add, hc, List.getD_eq_getElem?_getD, List.getElem?_eq_getElem hj]
      rfl
    · rintro e w' ⟨rfl, rfl⟩
      rw [List.take_length]
      exact ⟨rfl, rfl⟩
/-- The cells of a mode that collects. -/
def coM (up : Int) (ov : Value) : List Value := [.int .i64 1, .int .i64 up, .int .i64 0, .slice none 0 0, ov, .bool false]
/-- Its state. -/
def RCo (B nb mp : Nat) (up : Int) : Cl CoS where
  St := fun s W => (B ≤ W.heap.size ∧ B ≤ mp ∧ mp < nb ∧ nb ≤ W.heap.size) ∧ Bk W mp (coM up s.2.2) 68 ∧ W.ownsRow nb 3 1 s.2.2 s.2.1.length (s.2.1.map (Value.int .i64)) ∧ s.2.1.Nodup ∧ ∀ k, k ∈ s.2.1 ↔ ∃ v, s.1 v ∧ colAt up v k
  O := fun s k => B ≤ k ∧ (k = mp ∨ s.2.2.ownBlock = some k)
  lt := fun s W h k hk => by
    rcases hk.2 with e | e
    · have := h.1; omega
    · exact (h.2.2.1.lt k e).2
  B := B
  ob := fun _ _ h => h.1
  base := fun _ _ h => h.1.1
  keep := fun s W W' h hk hz => ⟨⟨by have := h.1; omega, h.1.2.1, h.1.2.2.1, by have := h.1; omega⟩, (hk mp (.inl ⟨h.1.2.1, .inl rfl⟩)).trans h.2.1, own_fr h.2.2.1 (by omega) fun k e => hk k (.inl ⟨by have := (h.2.2.1.lt k e).1; have := h.1; omega, .inr e⟩), h.2.2.2⟩
set_option maxRecDepth 100000 in
set_option maxHeartbeats 4000000 in
theorem rcol1_any (B nb mp : Nat) (up : Int) (s : CoS) (W : World) (d : Int) (x : DT) (hst : (RCo B nb mp up).St s W) (hx : UIn (fun k => k < B) W .expr x) (hk : kd x.c = 2) (hn : s.2.1.length + 1 ≤ 1048576) :
    Calls Tryz.prog 54 #[.pointer (some ⟨mp, 0, none⟩), .agg x.c.toArray, .int .i64 d] W (RColPost (RCo B nb mp up) (fun s v => s.1 v) (fun s => s.2.1.length) sameCm d x s W) := by
  obtain ⟨w1, hw1⟩ : ∃ w1, W.alloc (.cells x.c.toArray 31) = w1 := ⟨_, rfl⟩
  obtain ⟨w2, hw2⟩ : ∃ w2, w1.alloc (.cells #[.int .i64 0, .int .i64 0, .int .i64 0, .int .i64 0, .int .i64 0, .int .i64 0, .slice none 0 0, .int .i64 0, .int .i64 0, .int .i64 0, .string ⟨#[]⟩, .slice none 0 0, .slice none 0 0, .slice none 0 0] 31) = w2 := ⟨_, rfl⟩
  have hz1 : w1.heap.size = W.heap.size + 1 := by rw [← hw1]; simp
  have hz2 : w2.heap.size = W.heap.size + 2 := by rw [← hw2]; simp [hz1]
  have hb1 : Bk w2 W.heap.size x.c 31 := by rw [← hw2, ← hw1]; exact (Bk.new W x.c _).alloc _
  have hb2 : Bk w2 (W.heap.size + 1) zEx 31 := by rw [← hw2, ← hz1]; exact Bk.new w1 zEx _
  have hbw : Below W.heap.size W w2 := by rw [← hw2, ← hw1]; exact ((Below.refl _ _).alloc (Nat.le_refl _) _).alloc (by simp) _
  have hst2 := (Fr.below hst hbw).st
  have hlen : x.c.length = 14 := hx.len
  obtain ⟨u0, u2, u3, iu, ia⟩ := hx.upAt
  obtain ⟨sm, ns, ov⟩ := s
  obtain ⟨A, cap, hov⟩ := own_slice hst.2.2.1
  simp only at hov
  subst hov
  have hm : Bk w2 mp [.int .i64 1, .int .i64 up, .int .i64 0, .slice none 0 0, .slice A ns.length cap, .bool false] 68 := hst2.2.1
  have lm : mp < W.heap.size := hst.2.1.lt
  have Hi : Hid ((Tryz.prog.info? 31).map (·.size) = some x.c.length) := by show _ = _; rw [hlen]; exact uClExpr1
  have Hx3 : Hid (x.c.all (·.oneCell') = true) := by have := all_one hx.ones; show _ = _; simpa using this
  obtain ⟨eu, heu⟩ : ∃ eu, upOf x.c = eu := ⟨_, rfl⟩
  obtain ⟨ap, hap⟩ : ∃ ap, atOf x.c = ap := ⟨_, rfl⟩
  rw [heu] at u2 iu
  rw [hap] at u3 ia
  obtain ⟨lv, hlv⟩ : ∃ lv, wrap64 (eu - d) = lv := ⟨_, rfl⟩
  have hlv2 : lvl (d, x) = lv := by rw [← hlv, ← heu]; rfl
  have hct : Hid (∀ n, Calls Tryz.prog 68 #[.slice A ns.length cap, .int .i64 ap] (w2.drewN n) fun e w' => e = .returned (.bool (ns.contains ap)) ∧ w' = w2.drewN n) := fun n => contI_any ns A cap nb ap (w2.drewN n) (IOwn.of_own hst2.2.2.1) (by simp at hn; omega)
  have Hst := Lib.hid hst
  have Hst2 := Lib.hid hst2
  have H1 := Lib.hid hb1
  have H2 := Lib.hid hb2
  have Hm := Lib.hid hm
  have Hx := Lib.hid hx
  have U2 := Lib.hid u2
  have U3 := Lib.hid u3
  have Hap := Lib.hid hap
  have Hl := Lib.hid hlen
  have Hk := Lib.hid hk
  have Hbw := Lib.hid hbw
  have Hn := Lib.hid hn
  have Hlv := Lib.hid hlv2
  have hBW : B ≤ W.heap.size := hst.1.1
  have kc3 : w2.cell? ⟨W.heap.size, 3, none⟩ = some (.int .i64 ap) := by rw [hb1.cell]; exact u3
  have kc1 : w2.cell? ⟨mp, 1, none⟩ = some (.int .i64 up) := by rw [hm.cell]; rfl
  have kc4 : w2.cell? ⟨mp, 4, none⟩ = some (.slice A ns.length cap) := by rw [hm.cell]; rfl
  clear hb1 hb2 hbw hst2 hlen u0 u2 u3 iu ia hm hx hk hst hap heu hn hlv2
  by_cases h0 : 0 ≤ up
  · have g0 : decide (0 ≤ up) = true := by simpa using h0
    by_cases h1 : lv = up
    · have g1 : (lv == up) = true := by simpa using h1
      by_cases h2 : ap ∈ ns
      · have g2 : ns.contains ap = true := by simpa using h2
        go_enter Tryz.func54, Tryz.ntmps54
        go_upto_region 4 with (first
          | (refine wpList_load_one rfl 3 _ rfl _ Tryz.underlying3 rfl _ 2 _ _ _ rfl H1.out U2.out ?_)
          | (refine wpList_load_one rfl 3 _ rfl _ Tryz.underlying3 rfl _ 0 _ _ _ rfl Hm.out rfl ?_))
        clear hlv
        go_quiet ((go_at_call 68; exact Calls.quiet_of_same (hct.out _)))
        generalize hwd : World.drewN _ _ = wd
        have Hbw' : Hid (Below w2.heap.size w2 wd) := by show Below _ _ _; rw [← hwd]; exact below_drewN (Below.refl _ _) _
        have D1 : Hid (Bk wd W.heap.size x.c 31) := by show Bk _ _ _ _; rw [← hwd]; exact H1.out
        have D2 : Hid (Bk wd (W.heap.size + 1) zEx 31) := by show Bk _ _ _ _; rw [← hwd]; exact H2.out
        clear hwd kc3 kc1 kc4
        go_wp2_with (first
          | (refine wpList_load_part rfl 31 _ rfl _ Tryz.underlying31 rfl _ _ _ _ x.c rfl D1.out Hi.out (by rw [List.drop_zero, List.take_length]) ?_)
          | (refine wpList_store_blk rfl 31 _ _ rfl _ _ _ _ x.c rfl rfl D2.out Hi.out (by rw [Hl.out]; decide) Hx3.out ?_; intro w5 hw5))
        rw [setL_all _ _ (by rw [Hl.out]; rfl)] at hw5
        refine bodyPost_blk rfl (W.heap.size + 1) x.c _ rfl _ hw5.bk Tryz.underlying31 rfl Hi.out rfl ?_
        have hBB : (RCo B nb mp up).B ≤ W.heap.size := hBW
        have hno : ∀ k, W.heap.size ≤ k → ¬ (RCo B nb mp up).O (sm, ns, .slice A ns.length cap) k := fun k hk e => by have := (RCo B nb mp up).lt _ W Hst.out k e; omega
        have f1 := (Fr.below Hst.out Hbw.out).trans (Fr.below Hst2.out Hbw'.out)
        have f2 : Fr (RCo B nb mp up) (sm, ns, .slice A ns.length cap) W (fun v => sm v ∨ v = (d, x), ns, .slice A ns.length cap) wd := f1.st' (fun k hk => hk) ⟨f1.st.1, f1.st.2.1, f1.st.2.2.1, f1.st.2.2.2.1, fun k => by
          rw [show k ∈ ns ↔ ∃ v, sm v ∧ colAt up v k from f1.st.2.2.2.2 k]
          constructor
          · rintro ⟨v, h1, h2⟩; exact ⟨v, .inl h1, h2⟩
          · rintro ⟨v, h1 | rfl, h2⟩
            · exact ⟨v, h1, h2⟩
            · (have := (f1.st.2.2.2.2 k).1; have e : atOf x.c = k := h2.2.2; exact (f1.st.2.2.2.2 k).1 (by rw [← e, Hap.out]; assumption))⟩
        have f3 := f2.wrt hw5 (by omega) (hno _ (by omega))
        exact ⟨x, _, rfl, f3, ⟨fun v => Iff.rfl, Nat.le_succ _⟩, fun _ => ⟨by cases x; rfl, Hx.out.keep (f3.src Hst.out) fun _ h => h, Hk.out⟩, fun h => by cases h⟩
      · have g2 : ns.contains ap = false := by simpa using h2
        have Hh := Lib.hid (And.intro h0 (And.intro h1 h2))
        go_enter Tryz.func54, Tryz.ntmps54
        go_upto_region 4 with (first
          | (refine wpList_load_one rfl 3 _ rfl _ Tryz.underlying3 rfl _ 2 _ _ _ rfl H1.out U2.out ?_)
          | (refine wpList_load_one rfl 3 _ rfl _ Tryz.underlying3 rfl _ 0 _ _ _ rfl Hm.out rfl ?_))
        clear hlv
        go_quiet ((go_at_call 68; exact Calls.quiet_of_same (hct.out _)))
        generalize hwd : World.drewN _ _ = wd
        have Hbw' : Hid (Below w2.heap.size w2 wd) := by show Below _ _ _; rw [← hwd]; exact below_drewN (Below.refl _ _) _
        have D1 : Hid (Bk wd W.heap.size x.c 31) := by show Bk _ _ _ _; rw [← hwd]; exact H1.out
        have D2 : Hid (Bk wd (W.heap.size + 1) zEx 31) := by show Bk _ _ _ _; rw [← hwd]; exact H2.out
        have DM : Hid (Bk wd.drew mp [.int .i64 1, .int .i64 up, .int .i64 0, .slice none 0 0, .slice A ns.length cap, .bool false] 68) := by show Bk wd _ _ _; rw [← hwd]; exact Hm.out
        have K5 : Hid (wd.drew.ownsRow nb 3 1 (.slice A ns.length cap) ns.length (ns.map (Value.int .i64))) := own_fr Hst2.out.2.2.1 Hbw'.out.size fun k hk => Hbw'.out.block k (Hst2.out.2.2.1.lt k hk).2
        have L3 : Hid (ns.length + 1 ≤ maxLen) := by show _ ≤ _; have := Hn.out; simp at this; unfold maxLen; omega
        have L4 : Hid ((ns.length + 1) * 8 ≤ 140737488355328) := by show _ ≤ _; have := Hn.out; simp at this; omega
        obtain ⟨i0, hi, hrest⟩ := Option.map_eq_some_iff.1 info_int
        simp only [Prod.mk.injEq] at hrest
        obtain ⟨iz, isz, iby⟩ := hrest
        have uIl := Lib.hid uIli
        clear hwd kc3 kc1 kc4
        go_upto_region 5 with (fail)
        have hS : Bk wd.drew W.heap.size x.c 31 := D1.out
        refine wp_region_held_drew (S := fun w' => Bk w' W.heap.size x.c 31) (by kernel_rfl) hS fun hS => ?_
        show wpAnyH _ .any _ _ _ 12 (Array.replicate 12 false) _ _
        refine take_op (i := 0) (v := .pointer (some ⟨mp, 0, none⟩)) rfl rfl (by kernel_rfl) (by kernel_rfl) (by kernel_rfl) (fun _ _ _ h => h) (yields_of rfl fun w' _ => by go_simp) hS ?_
        simp only [List.setIfInBounds_toArray, List.set_cons_zero, List.set_cons_succ]
        refine take_op (i := 1) (v := .pointer (some ⟨mp, 0, none⟩)) rfl rfl (by kernel_rfl) (by kernel_rfl) (by kernel_rfl) (fun _ _ _ h => h) (yields_of rfl fun w' _ => by go_simp) hS ?_
        simp only [List.setIfInBounds_toArray, List.set_cons_zero, List.set_cons_succ]
        refine take_op (i := 2) (v := .pointer (some ⟨mp, 0, none⟩)) rfl rfl (by kernel_rfl) (by kernel_rfl) (by kernel_rfl) (fun _ _ _ h => h) (yields_of rfl fun w' _ => by go_simp) hS ?_
        simp only [List.setIfInBounds_toArray, List.set_cons_zero, List.set_cons_succ]
        refine take_op (i := 3) (v := .pointer (some ⟨mp, 4, none⟩)) rfl rfl (by kernel_rfl) (by kernel_rfl) (by kernel_rfl) (fun _ _ _ h => h) (yields_of rfl fun w' _ => by go_simp) hS ?_
        simp only [List.setIfInBounds_toArray, List.set_cons_zero, List.set_cons_succ]
        refine take_op (i := 5) (v := .pointer (some ⟨W.heap.size, 3, none⟩)) rfl rfl (by kernel_rfl) (by kernel_rfl) (by kernel_rfl) (fun _ _ _ h => h) (yields_of rfl fun w' _ => by go_simp) hS ?_
        simp only [List.setIfInBounds_toArray, List.set_cons_zero, List.set_cons_succ]
        refine take_op (i := 6) (v := .int .i64 ap) rfl rfl (by kernel_rfl) (by kernel_rfl) (by kernel_rfl) (fun _ _ _ h => h) (yields_load_one rfl 3 _ rfl _ Tryz.underlying3 rfl _ 3 _ _ _ rfl (fun _ h => h) U3.out) hS ?_
        simp only [List.setIfInBounds_toArray, List.set_cons_zero, List.set_cons_succ]
        have hzd : wd.drew.heap.size = wd.heap.size := rfl
        refine two_op (i := 4) (j := 7) (by kernel_rfl) rfl rfl rfl rfl ?_ ?_
        · refine val_wp (v := .slice A ns.length cap) (w' := wd.drew) rfl (exec_load_one 39 _ rfl _ Tryz.underlying39 rfl mp 4 _ _ _ rfl DM.out rfl) ⟨hS, ?_⟩
          simp only [List.setIfInBounds_toArray, List.set_cons_zero, List.set_cons_succ]
          refine one_op (i := 7) (by kernel_rfl) rfl rfl ?_
          refine val_wp (v := .slice (some ⟨wd.heap.size, 0, none⟩) 1 1) (w' := wd.drew.alloc (.cells #[.int .i64 ap] 3)) rfl (by go_simp) ⟨Bk.alloc hS _, ?_⟩
          simp only [List.setIfInBounds_toArray, List.set_cons_zero, List.set_cons_succ]
          refine one_list (i := 8) (by kernel_rfl) rfl rfl ?_
          at_builtin
          refine wpList_append_row _ rfl _ _ 39 rfl nb 3 i0 _ 1 8 Tryz.underlying39 hi iz isz iby rfl (by decide) (.slice A ns.length cap) _ _ rfl (K5.out.alloc _) (some ⟨wd.heap.size, 0, none⟩) 1 1 [.int .i64 ap] rfl rfl (new_srcK wd.drew #[.int .i64 ap] 3) (fun u hu => by simp at hu; subst hu; rfl) L3.out L4.out (by have := Hst2.out.1; have := Hbw'.out.size; simp [hzd]; omega) ?_
          intro ov' w4 hown hg hm
          obtain ⟨A', c', hov⟩ := own_slice hown
          subst hov
          have zw := Hbw'.out.size
          have hlt : ∀ k, some k = (Value.slice A ns.length cap).ownBlock → nb ≤ k ∧ k < W.heap.size := fun k e => Hst.out.2.2.1.lt k e.symm
          have K4 : Bk w4 mp [.int .i64 1, .int .i64 up, .int .i64 0, .slice none 0 0, .slice A ns.length cap, .bool false] 68 := (hg.block mp (by simp [hzd]; omega) fun e => by have := hlt _ e; have := Hst.out.1; omega).trans (DM.out.alloc _)
          have S4 : Bk w4 W.heap.size x.c 31 := (hg.block W.heap.size (by simp [hzd]; omega) fun e => by have := hlt _ e; omega).trans (Bk.alloc hS _)
          have Z4 : Bk w4 (W.heap.size + 1) zEx 31 := (hg.block (W.heap.size + 1) (by simp [hzd]; omega) fun e => by have := hlt _ e; omega).trans (Bk.alloc (show Bk wd.drew (W.heap.size + 1) zEx 31 from D2.out) _)
          refine And.intro S4 ?_
          simp only [Act.put, List.setIfInBounds_toArray, List.set_cons_zero, List.set_cons_succ]
          refine take_op (i := 9) (v := .pointer (some ⟨mp, 0, none⟩)) rfl rfl (by kernel_rfl) (by kernel_rfl) (by kernel_rfl) (fun _ _ _ h => h) (yields_of rfl fun w' _ => by go_simp) S4 ?_
          simp only [List.setIfInBounds_toArray, List.set_cons_zero, List.set_cons_succ]
          refine take_op (i := 10) (v := .pointer (some ⟨mp, 4, none⟩)) rfl rfl (by kernel_rfl) (by kernel_rfl) (by kernel_rfl) (fun _ _ _ h => h) (yields_of rfl fun w' _ => by go_simp) S4 ?_
          simp only [List.setIfInBounds_toArray, List.set_cons_zero, List.set_cons_succ]
          refine one_op (i := 11) (by kernel_rfl) rfl rfl ?_
          refine store_wp rfl 39 _ _ rfl mp 4 68 [.int .i64 1, .int .i64 up, .int .i64 0, .slice none 0 0, .slice A ns.length cap, .bool false] [.slice A' (ns.length + 1) c'] rfl rfl K4 uIl.out (by simp) rfl fun w5 hw5 => ?_
          refine And.intro ((hw5.block W.heap.size (by omega)).trans S4) (wpAnyH_done (by kernel_rfl) ?_ _)
          have j1 := Lib.hid ((hw5.block W.heap.size (by omega)).trans S4)
          have j2 := Lib.hid ((hw5.block (W.heap.size + 1) (by omega)).trans Z4)
          have Hw5 := Lib.hid hw5
          have Hown := Lib.hid hown
          have Hg := Lib.hid hg
          have Hmv := Lib.hid hm
          clear hw5 hown hg hm S4 K4 Z4 hS
          go_wp2_with (first
            | (refine wpList_load_part rfl 31 _ rfl _ Tryz.underlying31 rfl _ _ _ _ x.c rfl j1.out Hi.out (by rw [List.drop_zero, List.take_length]) ?_)
            | (refine wpList_store_blk rfl 31 _ _ rfl _ _ _ _ x.c rfl rfl j2.out Hi.out (by rw [Hl.out]; decide) Hx3.out ?_; intro w6 hw6))
          rw [setL_all _ _ (by rw [Hl.out]; rfl)] at hw6
          refine bodyPost_blk rfl (W.heap.size + 1) x.c _ rfl _ hw6.bk Tryz.underlying31 rfl Hi.out rfl ?_
          obtain ⟨q0, q1, q2⟩ := Hh.out
          have f0 := (Fr.below Hst.out Hbw.out).trans (Fr.below Hst2.out Hbw'.out)
          have hgs := Hg.out.size
          have hws := Hw5.out.size
          simp [hzd] at hgs
          have hx5 : ∀ k, k < wd.heap.size → k ≠ mp → some k ≠ (Value.slice A ns.length cap).ownBlock → w5.heap[k]? = wd.heap[k]? := fun k hk g1 g2 => by
            rw [Hw5.out.block k g1, Hg.out.block k (by simp [hzd]; omega) g2]
            exact Below.heap_alloc wd.drew _ k hk
          have zW := f0.size
          have hst0 := Hst.out.1
          have f1 : Fr (RCo B nb mp up) (sm, ns, .slice A ns.length cap) W (fun v => sm v ∨ v = (d, x), ns ++ [ap], .slice A' (ns.length + 1) c') w5 := by
            refine ⟨Hw5.out.os.trans (Hg.out.os.trans f0.os), Hw5.out.tape.trans (Hg.out.tape.trans f0.tape), Hw5.out.output.trans (Hg.out.output.trans f0.output), by omega, fun k hk hn => ?_, fun k hk => ?_, ?_⟩
            · refine (hx5 k (by omega) (fun e => hn ⟨by omega, .inl e⟩) fun e => hn ⟨by have := (hlt k e).1; omega, .inr e.symm⟩).trans ?_
              exact (Hbw'.out.block k (by omega)).trans (Hbw.out.block k hk)
            · obtain ⟨hk0, hk⟩ := hk
              rcases hk with e | e
              · exact .inl ⟨hk0, .inl e⟩
              · rcases Hmv.out with h | h
                · exact .inl ⟨hk0, .inr (h.symm.trans e)⟩
                · have := h k e
                  simp [hzd] at this
                  exact .inr (by omega)
            · refine ⟨⟨by omega, hst0.2.1, hst0.2.2.1, by omega⟩, Hw5.out.bk, ?_, ?_, fun k => ?_⟩
              · have := own_fr Hown.out (w' := w5) (by omega) fun k e => Hw5.out.block k fun e' => by have := (Hown.out.lt k e).1; omega
                simpa using this
              · show (ns ++ [ap]).Nodup
                rw [List.nodup_append]
                exact ⟨Hst.out.2.2.2.1, by simp, fun a ha b hb => by rw [List.mem_singleton] at hb; subst hb; exact fun e => q2 (e ▸ ha)⟩
              · show k ∈ ns ++ [ap] ↔ _
                rw [List.mem_append, show k ∈ ns ↔ ∃ v, sm v ∧ colAt up v k from Hst.out.2.2.2.2 k, List.mem_singleton]
                constructor
                · rintro (⟨v, h3, h4⟩ | rfl)
                  · exact ⟨v, .inl h3, h4⟩
                  · exact ⟨(d, x), .inr rfl, q0, Hlv.out.trans q1, Hap.out⟩
                · rintro ⟨v, h3 | rfl, h4⟩
                  · exact .inl ⟨v, h3, h4⟩
                  · exact .inr (h4.2.2.symm.trans Hap.out)
          have hBB : (RCo B nb mp up).B ≤ W.heap.size := hBW
          have f2 := f1.wrt hw6 (by omega) fun e => by
            rcases e.2 with e | e
            · omega
            · rcases Hmv.out with h | h
              · have := hlt _ (h.symm.trans e).symm; omega
              · have := h _ e
                simp [hzd] at this
                omega
          exact ⟨x, _, rfl, f2, ⟨fun v => Iff.rfl, by simp⟩, fun _ => ⟨by cases x; rfl, Hx.out.keep (f2.src Hst.out) fun _ h => h, Hk.out⟩, fun h => by cases h⟩
        · refine val_wp (v := .slice (some ⟨wd.heap.size, 0, none⟩) 1 1) (w' := wd.drew.alloc (.cells #[.int .i64 ap] 3)) rfl (by go_simp) ⟨Bk.alloc hS _, ?_⟩
          simp only [List.setIfInBounds_toArray, List.set_cons_zero, List.set_cons_succ]
          refine one_op (i := 4) (by kernel_rfl) rfl rfl ?_
          refine val_wp (v := .slice A ns.length cap) (w' := wd.drew.alloc (.cells #[.int .i64 ap] 3)) rfl (exec_load_one 39 _ rfl _ Tryz.underlying39 rfl mp 4 _ _ _ rfl (DM.out.alloc _) rfl) ⟨Bk.alloc hS _, ?_⟩
          simp only [List.setIfInBounds_toArray, List.set_cons_zero, List.set_cons_succ]
          refine one_list (i := 8) (by kernel_rfl) rfl rfl ?_
          at_builtin
          refine wpList_append_row _ rfl _ _ 39 rfl nb 3 i0 _ 1 8 Tryz.underlying39 hi iz isz iby rfl (by decide) (.slice A ns.length cap) _ _ rfl (K5.out.alloc _) (some ⟨wd.heap.size, 0, none⟩) 1 1 [.int .i64 ap] rfl rfl (new_srcK wd.drew #[.int .i64 ap] 3) (fun u hu => by simp at hu; subst hu; rfl) L3.out L4.out (by have := Hst2.out.1; have := Hbw'.out.size; simp [hzd]; omega) ?_
          intro ov' w4 hown hg hm
          obtain ⟨A', c', hov⟩ := own_slice hown
          subst hov
          have zw := Hbw'.out.size
          have hlt : ∀ k, some k = (Value.slice A ns.length cap).ownBlock → nb ≤ k ∧ k < W.heap.size := fun k e => Hst.out.2.2.1.lt k e.symm
          have K4 : Bk w4 mp [.int .i64 1, .int .i64 up, .int .i64 0, .slice none 0 0, .slice A ns.length cap, .bool false] 68 := (hg.block mp (by simp [hzd]; omega) fun e => by have := hlt _ e; have := Hst.out.1; omega).trans (DM.out.alloc _)
          have S4 : Bk w4 W.heap.size x.c 31 := (hg.block W.heap.size (by simp [hzd]; omega) fun e => by have := hlt _ e; omega).trans (Bk.alloc hS _)
          have Z4 : Bk w4 (W.heap.size + 1) zEx 31 := (hg.block (W.heap.size + 1) (by simp [hzd]; omega) fun e => by have := hlt _ e; omega).trans (Bk.alloc (show Bk wd.drew (W.heap.size + 1) zEx 31 from D2.out) _)
          refine And.intro S4 ?_
          simp only [Act.put, List.setIfInBounds_toArray, List.set_cons_zero, List.set_cons_succ]
          refine take_op (i := 9) (v := .pointer (some ⟨mp, 0, none⟩)) rfl rfl (by kernel_rfl) (by kernel_rfl) (by kernel_rfl) (fun _ _ _ h => h) (yields_of rfl fun w' _ => by go_simp) S4 ?_
          simp only [List.setIfInBounds_toArray, List.set_cons_zero, List.set_cons_succ]
          refine take_op (i := 10) (v := .pointer (some ⟨mp, 4, none⟩)) rfl rfl (by kernel_rfl) (by kernel_rfl) (by kernel_rfl) (fun _ _ _ h => h) (yields_of rfl fun w' _ => by go_simp) S4 ?_
          simp only [List.setIfInBounds_toArray, List.set_cons_zero, List.set_cons_succ]
          refine one_op (i := 11) (by kernel_rfl) rfl rfl ?_
          refine store_wp rfl 39 _ _ rfl mp 4 68 [.int .i64 1, .int .i64 up, .int .i64 0, .slice none 0 0, .slice A ns.length cap, .bool false] [.slice A' (ns.length + 1) c'] rfl rfl K4 uIl.out (by simp) rfl fun w5 hw5 => ?_
          refine And.intro ((hw5.block W.heap.size (by omega)).trans S4) (wpAnyH_done (by kernel_rfl) ?_ _)
          have j1 := Lib.hid ((hw5.block W.heap.size (by omega)).trans S4)
          have j2 := Lib.hid ((hw5.block (W.heap.size + 1) (by omega)).trans Z4)
          have Hw5 := Lib.hid hw5
          have Hown := Lib.hid hown
          have Hg := Lib.hid hg
          have Hmv := Lib.hid hm
          clear hw5 hown hg hm S4 K4 Z4 hS
          go_wp2_with (first
            | (refine wpList_load_part rfl 31 _ rfl _ Tryz.underlying31 rfl _ _ _ _ x.c rfl j1.out Hi.out (by rw [List.drop_zero, List.take_length]) ?_)
            | (refine wpList_store_blk rfl 31 _ _ rfl _ _ _ _ x.c rfl rfl j2.out Hi.out (by rw [Hl.out]; decide) Hx3.out ?_; intro w6 hw6))
          rw [setL_all _ _ (by rw [Hl.out]; rfl)] at hw6
          refine bodyPost_blk rfl (W.heap.size + 1) x.c _ rfl _ hw6.bk Tryz.underlying31 rfl Hi.out rfl ?_
          obtain ⟨q0, q1, q2⟩ := Hh.out
          have f0 := (Fr.below Hst.out Hbw.out).trans (Fr.below Hst2.out Hbw'.out)
          have hgs := Hg.out.size
          have hws := Hw5.out.size
          simp [hzd] at hgs
          have hx5 : ∀ k, k < wd.heap.size → k ≠ mp → some k ≠ (Value.slice A ns.length cap).ownBlock → w5.heap[k]? = wd.heap[k]? := fun k hk g1 g2 => by
            rw [Hw5.out.block k g1, Hg.out.block k (by simp [hzd]; omega) g2]
            exact Below.heap_alloc wd.drew _ k hk
          have zW := f0.size
          have hst0 := Hst.out.1
          have f1 : Fr (RCo B nb mp up) (sm, ns, .slice A ns.length cap) W (fun v => sm v ∨ v = (d, x), ns ++ [ap], .slice A' (ns.length + 1) c') w5 := by
            refine ⟨Hw5.out.os.trans (Hg.out.os.trans f0.os), Hw5.out.tape.trans (Hg.out.tape.trans f0.tape), Hw5.out.output.trans (Hg.out.output.trans f0.output), by omega, fun k hk hn => ?_, fun k hk => ?_, ?_⟩
            · refine (hx5 k (by omega) (fun e => hn ⟨by omega, .inl e⟩) fun e => hn ⟨by have := (hlt k e).1; omega, .inr e.symm⟩).trans ?_
              exact (Hbw'.out.block k (by omega)).trans (Hbw.out.block k hk)
            · obtain ⟨hk0, hk⟩ := hk
              rcases hk with e | e
              · exact .inl ⟨hk0, .inl e⟩
              · rcases Hmv.out with h | h
                · exact .inl ⟨hk0, .inr (h.symm.trans e)⟩
                · have := h k e
                  simp [hzd] at this
                  exact .inr (by omega)
            · refine ⟨⟨by omega, hst0.2.1, hst0.2.2.1, by omega⟩, Hw5.out.bk, ?_, ?_, fun k => ?_⟩
              · have := own_fr Hown.out (w' := w5) (by omega) fun k e => Hw5.out.block k fun e' => by have := (Hown.out.lt k e).1; omega
                simpa using this
              · show (ns ++ [ap]).Nodup
                rw [List.nodup_append]
                exact ⟨Hst.out.2.2.2.1, by simp, fun a ha b hb => by rw [List.mem_singleton] at hb; subst hb; exact fun e => q2 (e ▸ ha)⟩
              · show k ∈ ns ++ [ap] ↔ _
                rw [List.mem_append, show k ∈ ns ↔ ∃ v, sm v ∧ colAt up v k from Hst.out.2.2.2.2 k, List.mem_singleton]
                constructor
                · rintro (⟨v, h3, h4⟩ | rfl)
                  · exact ⟨v, .inl h3, h4⟩
                  · exact ⟨(d, x), .inr rfl, q0, Hlv.out.trans q1, Hap.out⟩
                · rintro ⟨v, h3 | rfl, h4⟩
                  · exact .inl ⟨v, h3, h4⟩
                  · exact .inr (h4.2.2.symm.trans Hap.out)
          have hBB : (RCo B nb mp up).B ≤ W.heap.size := hBW
          have f2 := f1.wrt hw6 (by omega) fun e => by
            rcases e.2 with e | e
            · omega
            · rcases Hmv.out with h | h
              · have := hlt _ (h.symm.trans e).symm; omega
              · have := h _ e
                simp [hzd] at this
                omega
          exact ⟨x, _, rfl, f2, ⟨fun v => Iff.rfl, by simp⟩, fun _ => ⟨by cases x; rfl, Hx.out.keep (f2.src Hst.out) fun _ h => h, Hk.out⟩, fun h => by cases h⟩
    · have g1 : (lv == up) = false := by simpa using h1
      go_enter Tryz.func54, Tryz.ntmps54
      go_upto_region 4 with (first
        | (refine wpList_load_one rfl 3 _ rfl _ Tryz.underlying3 rfl _ 2 _ _ _ rfl H1.out U2.out ?_)
        | (refine wpList_load_one rfl 3 _ rfl _ Tryz.underlying3 rfl _ 0 _ _ _ rfl Hm.out rfl ?_))
      clear hlv
      go_quiet ((go_at_call 68; exact Calls.quiet_of_same (hct.out _)))
      generalize hwd : World.drewN _ _ = wd
      have Hbw' : Hid (Below w2.heap.size w2 wd) := by show Below _ _ _; rw [← hwd]; exact below_drewN (Below.refl _ _) _
      have D1 : Hid (Bk wd W.heap.size x.c 31) := by show Bk _ _ _ _; rw [← hwd]; exact H1.out
      have D2 : Hid (Bk wd (W.heap.size + 1) zEx 31) := by show Bk _ _ _ _; rw [← hwd]; exact H2.out
      clear hwd kc3 kc1 kc4
      go_wp2_with (first
        | (refine wpList_load_part rfl 31 _ rfl _ Tryz.underlying31 rfl _ _ _ _ x.c rfl D1.out Hi.out (by rw [List.drop_zero, List.take_length]) ?_)
        | (refine wpList_store_blk rfl 31 _ _ rfl _ _ _ _ x.c rfl rfl D2.out Hi.out (by rw [Hl.out]; decide) Hx3.out ?_; intro w5 hw5))
      rw [setL_all _ _ (by rw [Hl.out]; rfl)] at hw5
      refine bodyPost_blk rfl (W.heap.size + 1) x.c _ rfl _ hw5.bk Tryz.underlying31 rfl Hi.out rfl ?_
      have hBB : (RCo B nb mp up).B ≤ W.heap.size := hBW
      have hno : ∀ k, W.heap.size ≤ k → ¬ (RCo B nb mp up).O (sm, ns, .slice A ns.length cap) k := fun k hk e => by have := (RCo B nb mp up).lt _ W Hst.out k e; omega
      have f1 := (Fr.below Hst.out Hbw.out).trans (Fr.below Hst2.out Hbw'.out)
      have f2 : Fr (RCo B nb mp up) (sm, ns, .slice A ns.length cap) W (fun v => sm v ∨ v = (d, x), ns, .slice A ns.length cap) wd := f1.st' (fun k hk => hk) ⟨f1.st.1, f1.st.2.1, f1.st.2.2.1, f1.st.2.2.2.1, fun k => by
        rw [show k ∈ ns ↔ ∃ v, sm v ∧ colAt up v k from f1.st.2.2.2.2 k]
        constructor
        · rintro ⟨v, h1, h2⟩; exact ⟨v, .inl h1, h2⟩
        · rintro ⟨v, h1 | rfl, h2⟩
          · exact ⟨v, h1, h2⟩
          · exact absurd (Hlv.out.symm.trans h2.2.1) h1⟩
      have f3 := f2.wrt hw5 (by omega) (hno _ (by omega))
      exact ⟨x, _, rfl, f3, ⟨fun v => Iff.rfl, Nat.le_succ _⟩, fun _ => ⟨by cases x; rfl, Hx.out.keep (f3.src Hst.out) fun _ h => h, Hk.out⟩, fun h => by cases h⟩
  · have g0 : decide (0 ≤ up) = false := by simpa using h0
    go_enter Tryz.func54, Tryz.ntmps54
    go_upto_region 4 with (first
      | (refine wpList_load_one rfl 3 _ rfl _ Tryz.underlying3 rfl _ 2 _ _ _ rfl H1.out U2.out ?_)
      | (refine wpList_load_one rfl 3 _ rfl _ Tryz.underlying3 rfl _ 0 _ _ _ rfl Hm.out rfl ?_))
    clear hlv
    go_quiet ((go_at_call 68; exact Calls.quiet_of_same (hct.out _)))
    generalize hwd : World.drewN _ _ = wd
    have Hbw' : Hid (Below w2.heap.size w2 wd) := by show Below _ _ _; rw [← hwd]; exact below_drewN (Below.refl _ _) _
    have D1 : Hid (Bk wd W.heap.size x.c 31) := by show Bk _ _ _ _; rw [← hwd]; exact H1.out
    have D2 : Hid (Bk wd (W.heap.size + 1) zEx 31) := by show Bk _ _ _ _; rw [← hwd]; exact H2.out
    clear hwd kc3 kc1 kc4
    go_wp2_with (first
      | (refine wpList_load_part rfl 31 _ rfl _ Tryz.underlying31 rfl _ _ _ _ x.c rfl D1.out Hi.out (by rw [List.drop_zero, List.take_length]) ?_)
      | (refine wpList_store_blk rfl 31 _ _ rfl _ _ _ _ x.c rfl rfl D2.out Hi.out (by rw [Hl.out]; decide) Hx3.out ?_; intro w5 hw5))
    rw [setL_all _ _ (by rw [Hl.out]; rfl)] at hw5
    refine bodyPost_blk rfl (W.heap.size + 1) x.c _ rfl _ hw5.bk Tryz.underlying31 rfl Hi.out rfl ?_
    have hBB : (RCo B nb mp up).B ≤ W.heap.size := hBW
    have hno : ∀ k, W.heap.size ≤ k → ¬ (RCo B nb mp up).O (sm, ns, .slice A ns.length cap) k := fun k hk e => by have := (RCo B nb mp up).lt _ W Hst.out k e; omega
    have f1 := (Fr.below Hst.out Hbw.out).trans (Fr.below Hst2.out Hbw'.out)
    have f2 : Fr (RCo B nb mp up) (sm, ns, .slice A ns.length cap) W (fun v => sm v ∨ v = (d, x), ns, .slice A ns.length cap) wd := f1.st' (fun k hk => hk) ⟨f1.st.1, f1.st.2.1, f1.st.2.2.1, f1.st.2.2.2.1, fun k => by
      rw [show k ∈ ns ↔ ∃ v, sm v ∧ colAt up v k from f1.st.2.2.2.2 k]
      constructor
      · rintro ⟨v, h1, h2⟩; exact ⟨v, .inl h1, h2⟩
      · rintro ⟨v, h1 | rfl, h2⟩
        · exact ⟨v, h1, h2⟩
        · (exfalso; have := h2.1; omega)⟩
    have f3 := f2.wrt hw5 (by omega) (hno _ (by omega))
    exact ⟨x, _, rfl, f3, ⟨fun v => Iff.rfl, Nat.le_succ _⟩, fun _ => ⟨by cases x; rfl, Hx.out.keep (f3.src Hst.out) fun _ h => h, Hk.out⟩, fun h => by cases h⟩
end Go.Proofs.YthijagpnpcpcbaaGreat
namespace Go.Proofs.YthijagpnpcpcbaaGreat
open Go.RowKit Go.Sort
/-- Columns' mode. -/
def MdCo (B nb mp : Nat) (up : Int) : Mde CoS where
  C := RCo B nb mp up
  mem := fun s v => s.1 v
  cnt := fun s => s.2.1.length
  mp := mp
  knd := 1
  shr := fun _ h => h
  m := sameCm
  kat := fun _ _ h => ⟨_, h.2.1, rfl⟩
  dnk := fun _ _ => by simp [sameCm]
  col := fun s W d x _ _ hst hx _ hk hn => rcol1_any B nb mp up s W d x hst hx hk hn
set_option maxRecDepth 100000 in
set_option maxHeartbeats 4000000 in
theorem rColumns_any (B : Nat) (up : Int) (x : DT) (w : World) (hB : B ≤ w.heap.size) (hn : x.n ≤ 1048576) (hx : UIn (fun k => k < B) w .expr x) : Calls Tryz.prog 14 #[.agg x.c.toArray, .int .i64 up] w (ColsPost up x w) := by
  obtain ⟨w1, hw1⟩ : ∃ w1, w.alloc (.cells x.c.toArray 31) = w1 := ⟨_, rfl⟩
  obtain ⟨w2, hw2⟩ : ∃ w2, w1.alloc (.cells #[.int .i64 1, .int .i64 up, .int .i64 0, .slice none 0 0, .slice none 0 0, .bool false] 68) = w2 := ⟨_, rfl⟩
  have hz1 : w1.heap.size = w.heap.size + 1 := by rw [← hw1]; simp
  have hz2 : w2.heap.size = w.heap.size + 2 := by rw [← hw2]; simp [hz1]
  have k1 : Hid (Bk w2 w.heap.size x.c 31) := by show Bk _ _ _ _; rw [← hw2, ← hw1]; exact (Bk.new w x.c _).alloc _
  have k2 : Bk w2 (w.heap.size + 1) [.int .i64 1, .int .i64 up, .int .i64 0, .slice none 0 0, .slice none 0 0, .bool false] 68 := by rw [← hw2, ← hz1]; exact Bk.new w1 [.int .i64 1, .int .i64 up, .int .i64 0, .slice none 0 0, .slice none 0 0, .bool false] _
  have hbw : Hid (Below w.heap.size w w2) := by show Below _ _ _; rw [← hw2, ← hw1]; exact ((Below.refl _ _).alloc (Nat.le_refl _) _).alloc (by simp) _
  have Hi : Hid ((Tryz.prog.info? 31).map (·.size) = some x.c.length) := by show _ = _; rw [hx.len]; exact uClExpr1
  have Hcl : Hid (Calls Tryz.prog 33 #[.pointer (some ⟨w.heap.size + 1, 0, none⟩), .agg x.c.toArray, .int .i64 0] w2 fun e w9 => ∃ (y : DT) (ns : List Int) (A : Option Addr) (cap : Nat), e = .returned (.agg y.c.toArray) ∧ Hid (Below w.heap.size w w9) ∧ Hid (Bk w9 (w.heap.size + 1) [.int .i64 1, .int .i64 up, .int .i64 0, .slice none 0 0, .slice A ns.length cap, .bool false] 68) ∧ Hid (IOwn (w.heap.size + 2) w9 A cap ns) ∧ Hid (ns.Nodup) ∧ Hid (∀ k, k ∈ ns ↔ ColsAt x up k) ∧ Hid (ns.length ≤ x.n)) := by
    have hst : (MdCo B (w.heap.size + 2) (w.heap.size + 1) up).C.St (fun _ => False, [], .slice none 0 0) w2 :=
      ⟨⟨by omega, by omega, by omega, by omega⟩, k2, World.ownsRow_nil _ _ _ _, List.nodup_nil, fun k => Iff.intro (fun h => by cases h) (fun h => h.choose_spec.1.elim)⟩
    refine (rmexpr_any (MdCo B (w.heap.size + 2) (w.heap.size + 1) up) x 0 (fun _ => False, [], .slice none 0 0) w2 (Int.le_refl _) (by omega) hst (hx.keep (fun k hk => hbw.out.block k (by have hk' : k < B := hk; omega)) fun _ h => h) (by show 0 + _ ≤ _; omega)).mono ?_
    rintro e w9 ⟨y, ⟨sv, ns, ov⟩, rfl, hf, hv, hy, hm⟩
    have hs9 := hf.size
    obtain ⟨_, h2, h3, h4, h5⟩ := hf.st
    obtain ⟨A, cap, he⟩ := own_slice h3
    simp only at he
    subst he
    refine ⟨y, ns, A, cap, rfl, ⟨hf.os.trans hbw.out.os, hf.tape.trans hbw.out.tape, hf.output.trans hbw.out.output, by omega, fun k hk => (hf.block k (by omega) fun e => ?_).trans (hbw.out.block k hk)⟩, h2, IOwn.of_own h3, h4, fun k => ?_, ?_⟩
    · rcases e.2 with e | e
      · omega
      · cases e
    · rw [show k ∈ ns ↔ ∃ v, sv v ∧ colAt up v k from h5 k]
      constructor
      · rintro ⟨v, h1, h2⟩
        exact ⟨v, ((hv.1 v).1 h1).resolve_left fun h => h, h2⟩
      · rintro ⟨v, h1, h2⟩
        exact ⟨v, (hv.1 v).2 (.inr h1), h2⟩
    · have := hv.2
      show ns.length ≤ x.n
      simpa [MdCo] using this
  have Hn := Lib.hid hn
  clear hx k2 hn
  go_enter Tryz.func14, Tryz.ntmps14
  go_wp2_with (first
    | (refine wpList_load_part rfl 31 _ rfl _ Tryz.underlying31 rfl _ _ _ _ x.c rfl k1.out Hi.out (by rw [List.drop_zero, List.take_length]) ?_)
    | (go_at_call 33; refine Hcl.out.mono ?_; rintro e w9 ⟨y, ns, A, cap, rfl, B9, K9, O9, N9, M9, L9⟩; have Hs := Lib.hid (sortI_any ns A cap (w.heap.size + 2) w9 O9.out (by have := L9.out; have := Hn.out; omega)))
    | (refine wpList_load_one rfl 39 _ rfl _ Tryz.underlying39 rfl _ 4 _ _ _ rfl K9.out rfl ?_)
    | (go_at_call 34; refine Hs.out.mono ?_; rintro e wa ⟨rfl, oa, ba⟩; have Oa := Lib.hid oa; have Ba := Lib.hid ba; have Ka := Lib.hid ((ba.block (w.heap.size + 1) (by omega)).trans K9.out); clear oa ba)
    | (refine wpList_load_one rfl 39 _ rfl _ Tryz.underlying39 rfl _ 4 _ _ _ rfl Ka.out rfl ?_))
  go_ret
  refine ⟨A, cap, sortI ns, by rw [sortI_len]; rfl, Oa.out.row, belTr B9.out (belLo Ba.out (by omega)), sort_strict N9.out, fun k => (sort_mem ns k).trans (M9.out k), by rw [sortI_len]; exact L9.out⟩
end Go.Proofs.YthijagpnpcpcbaaGreat

