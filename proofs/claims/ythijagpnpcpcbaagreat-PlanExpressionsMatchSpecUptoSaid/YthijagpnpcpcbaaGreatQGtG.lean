/-
  The reference of package value: Compare, CompareRows.
  The reference of package value: CompareRows (RfA's, at a seat without package meaning); rows that are the same.
  Values of whole trees as VTs; rows that are the same are compared to 0.
-/
import Derived.Test.YthijagpnpcpcbaaGreatQGtB
import Derived.Test.YthijagpnpcpcbaaGreatQWrF
namespace Go.Proofs.YthijagpnpcpcbaaGreat
open Go.RowKit
theorem orC_z (x : Int) : orC 0 x = x := if_pos rfl
theorem orC_ne {a : Int} (h : a ≠ 0) (x : Int) : orC a x = a := if_neg h
theorem orC_as (a b c : Int) : orC a (orC b c) = orC (orC a b) c := by
  by_cases h : a = 0
  · subst h; rw [orC_z, orC_z]
  · rw [orC_ne h, orC_ne h, orC_ne h]
theorem ordI_ne {a b : Int} (h : a ≠ b) : ordI a b ≠ 0 := by unfold ordI; repeat' split <;> omega
theorem ordI_zero {a b : Int} (h : ordI a b = 0) : a = b := by
  by_cases e : a = b
  · exact e
  · exact absurd h (ordI_ne e)
theorem cmpVs_end (l r : List VT) (j : Nat) (h : l.length = j ∨ r.length = j) (hl : j ≤ l.length) (hr : j ≤ r.length) : cmpVs (l.drop j) (r.drop j) = ordI l.length r.length := by
  unfold ordI
  by_cases h1 : j < l.length
  · have h2 : r.length = j := by omega
    rw [List.drop_of_length_le (l := r) (i := j) (by omega), drop_cons h1, if_neg (by omega), if_pos (by omega), cmpVs]
  · rw [List.drop_of_length_le (l := l) (i := j) (by omega)]
    by_cases h2 : j < r.length
    · rw [drop_cons h2, if_pos (by omega), cmpVs]
    · rw [List.drop_of_length_le (l := r) (i := j) (by omega), if_neg (by omega), if_neg (by omega), cmpVs]
theorem cmpVs_at {l r : List VT} {j : Nat} {x y : VT} (hx : l[j]? = some x) (hy : r[j]? = some y) : cmpVs (l.drop j) (r.drop j) = orC (cmpV x y) (cmpVs (l.drop (j + 1)) (r.drop (j + 1))) := by
  obtain ⟨h1, rfl⟩ := List.getElem?_eq_some_iff.1 hx
  obtain ⟨h2, rfl⟩ := List.getElem?_eq_some_iff.1 hy
  rw [drop_cons h1, drop_cons h2, cmpVs]
set_option maxRecDepth 100000 in
set_option maxHeartbeats 8000000 in
theorem rCompare_any : ∀ (x y : VT) (B : Nat) (w : World), VT.In B w x → VT.In B w y → B ≤ w.heap.size →
    Calls Tryz.prog 65 #[.agg #[.int .i64 x.a.k, .int .i64 x.a.n, .int .i64 x.a.sc, .string x.a.s, .slice x.a.A x.l.length x.a.cap], .agg #[.int .i64 y.a.k, .int .i64 y.a.n, .int .i64 y.a.sc, .string y.a.s, .slice y.a.A y.l.length y.a.cap]] w fun e w' => e = .returned (.int .i64 (cmpV x y)) ∧ Below w.heap.size w w' := by
  refine VT.ind fun a l ih u B w hin hinu hB => ?_
  obtain ⟨b, r⟩ := u
  obtain ⟨k, n, sc, s, A, cap⟩ := a
  obtain ⟨k2, m, sd, t, A2, cap2⟩ := b
  obtain ⟨_, hn, _, hs, hr, hl⟩ := hin.parts
  obtain ⟨_, hm, _, ht, hr2, hl2⟩ := hinu.parts
  simp only [VT.a_node, VT.l_node] at hr hr2 hn hs hm ht ⊢
  obtain ⟨len, hlen⟩ : ∃ len, l.length = len := ⟨_, rfl⟩
  obtain ⟨len2, hlen2⟩ : ∃ len, r.length = len := ⟨_, rfl⟩
  rw [hlen, hlen2]
  have hll : len ≤ 9223372036854775807 := by rw [← hlen]; exact Nat.le_trans hr.1 hr.2.1
  have hll2 : len2 ≤ 9223372036854775807 := by rw [← hlen2]; exact Nat.le_trans hr2.1 hr2.2.1
  have hlen' := Lib.hid hlen
  have hlen2' := Lib.hid hlen2
  obtain ⟨R, hR⟩ : ∃ R, cmpV (.node ⟨k, n, sc, s, A, cap⟩ l) (.node ⟨k2, m, sd, t, A2, cap2⟩ r) = R := ⟨_, rfl⟩
  rw [hR]
  rw [cmpV] at hR
  simp only at hR
  obtain ⟨W0, hW0⟩ : ∃ W0, (w.alloc (.cells #[.int .i64 k, .int .i64 n, .int .i64 sc, .string s, .slice A len cap] 27)).alloc (.cells #[.int .i64 k2, .int .i64 m, .int .i64 sd, .string t, .slice A2 len2 cap2] 27) = W0 := ⟨_, rfl⟩
  have hbw : Below w.heap.size w W0 := by rw [← hW0]; exact bel2 _ _ _
  have hz0 : W0.heap.size = w.heap.size + 2 := by rw [← hW0]; simp
  have p0 : W0.cell? ⟨w.heap.size, 0, none⟩ = some (.int .i64 k) := by rw [← hW0]; simp
  have p1 : W0.cell? ⟨w.heap.size, 1, none⟩ = some (.int .i64 n) := by rw [← hW0]; simp
  have p2 : W0.cell? ⟨w.heap.size, 2, none⟩ = some (.int .i64 sc) := by rw [← hW0]; simp
  have p3 : W0.cell? ⟨w.heap.size, 3, none⟩ = some (.string s) := by rw [← hW0]; simp
  have p4 : W0.cell? ⟨w.heap.size, 4, none⟩ = some (.slice A len cap) := by rw [← hW0]; simp
  have q0 : W0.cell? ⟨w.heap.size + 1, 0, none⟩ = some (.int .i64 k2) := by rw [← hW0]; simp
  have q1 : W0.cell? ⟨w.heap.size + 1, 1, none⟩ = some (.int .i64 m) := by rw [← hW0]; simp
  have q2 : W0.cell? ⟨w.heap.size + 1, 2, none⟩ = some (.int .i64 sd) := by rw [← hW0]; simp
  have q3 : W0.cell? ⟨w.heap.size + 1, 3, none⟩ = some (.string t) := by rw [← hW0]; simp
  have q4 : W0.cell? ⟨w.heap.size + 1, 4, none⟩ = some (.slice A2 len2 cap2) := by rw [← hW0]; simp
  have hk : Hid (∀ W, Below W0.heap.size W0 W → Below W0.heap.size W0 W ∧ W.cell? ⟨w.heap.size, 0, none⟩ = some (.int .i64 k) ∧ W.cell? ⟨w.heap.size, 1, none⟩ = some (.int .i64 n) ∧ W.cell? ⟨w.heap.size, 2, none⟩ = some (.int .i64 sc) ∧ W.cell? ⟨w.heap.size, 3, none⟩ = some (.string s) ∧ W.cell? ⟨w.heap.size, 4, none⟩ = some (.slice A len cap) ∧ W.cell? ⟨w.heap.size + 1, 0, none⟩ = some (.int .i64 k2) ∧ W.cell? ⟨w.heap.size + 1, 1, none⟩ = some (.int .i64 m) ∧ W.cell? ⟨w.heap.size + 1, 2, none⟩ = some (.int .i64 sd) ∧ W.cell? ⟨w.heap.size + 1, 3, none⟩ = some (.string t) ∧ W.cell? ⟨w.heap.size + 1, 4, none⟩ = some (.slice A2 len2 cap2)) := fun W h =>
    ⟨h, (h.cell (p := ⟨w.heap.size, 0, none⟩) (by show w.heap.size < _; omega)).trans p0, (h.cell (p := ⟨w.heap.size, 1, none⟩) (by show w.heap.size < _; omega)).trans p1, (h.cell (p := ⟨w.heap.size, 2, none⟩) (by show w.heap.size < _; omega)).trans p2, (h.cell (p := ⟨w.heap.size, 3, none⟩) (by show w.heap.size < _; omega)).trans p3, (h.cell (p := ⟨w.heap.size, 4, none⟩) (by show w.heap.size < _; omega)).trans p4,
      (h.cell (p := ⟨w.heap.size + 1, 0, none⟩) (by show w.heap.size + 1 < _; omega)).trans q0, (h.cell (p := ⟨w.heap.size + 1, 1, none⟩) (by show w.heap.size + 1 < _; omega)).trans q1, (h.cell (p := ⟨w.heap.size + 1, 2, none⟩) (by show w.heap.size + 1 < _; omega)).trans q2, (h.cell (p := ⟨w.heap.size + 1, 3, none⟩) (by show w.heap.size + 1 < _; omega)).trans q3, (h.cell (p := ⟨w.heap.size + 1, 4, none⟩) (by show w.heap.size + 1 < _; omega)).trans q4⟩
  have HW0 := Lib.hid hW0
  have Hz0 := Lib.hid hz0
  have Hbw := Lib.hid hbw
  have Hr := Lib.hid hr
  have Hr2 := Lib.hid hr2
  have Hl := Lib.hid hl
  have Hl2 := Lib.hid hl2
  have Hih := Lib.hid ih
  have HR := Lib.hid hR
  clear hW0 hz0 hlen hlen2 hr hr2 hl hl2 ih hin hinu hbw hR
  by_cases h0 : k = 0
  · subst h0
    by_cases h02 : k2 = 0
    · subst h02
      have hrr := HR.out
      rw [show kC 0 0 = 0 from rfl, orC_z, if_pos rfl] at hrr
      have Hrr := Lib.hid hrr
      clear hrr
      go_enter Tryz.func65, Tryz.ntmps65
      go_upto_region 1 with (fail)
      rw [HW0.out]
      go_wp2
      go_ret
      exact ⟨by rw [← Hrr.out]; rfl, Hbw.out⟩
    · have e02 : (k2 == 0) = false := by simpa using h02
      have hrr := HR.out
      rw [show kC 0 k2 = 1 by unfold kC; rw [if_neg (fun e => h02 e.symm), if_pos rfl]] at hrr
      have hrr2 : 1 = R := hrr
      have Hrr := Lib.hid hrr2
      clear hrr hrr2 h02
      go_enter Tryz.func65, Tryz.ntmps65
      go_upto_region 1 with (fail)
      rw [HW0.out]
      go_wp2
      go_ret
      exact ⟨by rw [← Hrr.out]; rfl, Hbw.out⟩
  have e0 : (k == 0) = false := by simpa using h0
  by_cases h02 : k2 = 0
  · subst h02
    have hrr := HR.out
    rw [show kC k 0 = -1 by unfold kC; rw [if_neg h0, if_neg h0, if_pos rfl]] at hrr
    have hrr2 : -1 = R := hrr
    have Hrr := Lib.hid hrr2
    clear hrr hrr2 h0
    go_enter Tryz.func65, Tryz.ntmps65
    go_upto_region 1 with (fail)
    rw [HW0.out]
    go_wp2
    go_ret
    exact ⟨by rw [← Hrr.out]; rfl, Hbw.out⟩
  have e02 : (k2 == 0) = false := by simpa using h02
  by_cases hkk : k = k2
  · subst hkk
    have hrr := HR.out
    rw [show kC k k = 0 from if_pos rfl, orC_z, if_neg h0] at hrr
    unfold headC at hrr
    simp only at hrr
    by_cases h3 : k = 3
    · subst h3
      rw [if_pos rfl, ← orC_as, ← orC_as, orC_as (decC n sc m sd)] at hrr
      have hd := Lib.hid (rdecimals_any 3 n sc 3 m sd s t A A2 len len2 cap cap2 W0 hn hm)
      obtain ⟨D, hD⟩ : ∃ D, orC (decC n sc m sd) (ordI sc sd) = D := ⟨_, rfl⟩
      rw [hD] at hd hrr
      have HD := Lib.hid hD
      have Hrr0 := Lib.hid hrr
      clear e0 h0 hrr hD hn hm h02 e02
      go_enter Tryz.func65, Tryz.ntmps65
      go_upto_region 1 with (fail)
      rw [HW0.out]
      go_wp2_with fail
      refine hd.out.mono ?_
      rintro e wd ⟨rfl, hbd⟩
      clear p0 p1 p2 p3 p4 q0 q1 q2 q3 q4
      obtain ⟨_, p0, p1, p2, p3, p4, q0, q1, q2, q3, q4⟩ := hk.out wd hbd
      by_cases hd0 : D = 0
      · subst hd0
        have hss : sc = sd := by
          have h := HD.out
          by_cases hdc : decC n sc m sd = 0
          · rw [hdc, orC_z] at h
            exact ordI_zero h
          · rw [orC_ne hdc] at h
            exact absurd h hdc
        have Hrr1 : Hid (orC (ordI sc sd) (orC (cmpL s.data.toList t.data.toList) (cmpVs l r)) = R) := by
          show _ = _
          have h := Hrr0.out
          rw [orC_z] at h
          rw [hss, ordI_self, orC_z]
          exact h
        clear hss Hrr0
        by_cases hnm : n = m
        · subst hnm
          by_cases hsc : sc = sd
          · have hrr := Hrr1.out
            rw [hsc, ordI_self, orC_z] at hrr
            have Hrr := Lib.hid hrr
            subst hsc
            clear hrr
            have htt := Lib.hid (fun W => rtexts_any s t W hs ht)
            go_wp2_with fail
            refine (htt.out _).mono ?_
            rintro e wt ⟨rfl, hbt⟩
            have hbt0 : Below W0.heap.size W0 wt := hbd.trans (hbt.mono hbd.size)
            clear p0 p1 p2 p3 p4 q0 q1 q2 q3 q4
            obtain ⟨_, p0, p1, p2, p3, p4, q0, q1, q2, q3, q4⟩ := hk.out wt hbt0
            obtain ⟨CL, hCL⟩ : ∃ c, cmpL s.data.toList t.data.toList = c := ⟨_, rfl⟩
            rw [hCL] at Hrr ⊢
            clear hCL
            by_cases hcl : CL = 0
            · subst hcl
              have hrr := Hrr.out
              rw [orC_z] at hrr
              have Hrr2 : Hid (cmpVs (l.drop 0) (r.drop 0) = R) := hrr
              clear hrr Hrr
              go_wp2
              go_loopw [7] (fun i wr => ∃ j : Nat, j ≤ len ∧ j ≤ len2 ∧ i = .int .i64 j ∧ Below W0.heap.size W0 wr ∧ cmpVs (l.drop j) (r.drop j) = R) (fun i _ => len - (intOf i).toNat)
              case atStart => exact ⟨0, Nat.zero_le _, Nat.zero_le _, rfl, hbt0, Hrr2.out⟩
              case round =>
                obtain ⟨j, hj, hj2, rfl, hbr, hcv⟩ := hrel
                have Hcv := Lib.hid hcv
                clear p0 p1 p2 p3 p4 q0 q1 q2 q3 q4 hcv
                obtain ⟨_, p0, p1, p2, p3, p4, q0, q1, q2, q3, q4⟩ := hk.out wr hbr
                have hbwr : Below w.heap.size w wr := Hbw.out.trans (hbr.mono (by have := Hz0.out; omega))
                by_cases hlt : j < len
                · by_cases hlt2 : j < len2
                  · have hSr : Same B w wr := Same.mono (Same.of_below hbwr) hB
                    obtain ⟨x, ad, hx, rfl, hb, d0, d1, d2, d3, d4⟩ := (Hr.out.keep hSr).get (show j < l.length by rw [hlen'.out]; exact hlt)
                    obtain ⟨y, ad2, hy, rfl, hb2, c0, c1, c2, c3, c4⟩ := (Hr2.out.keep hSr).get (show j < r.length by rw [hlen2'.out]; exact hlt2)
                    have hic := Lib.hid (fun W hS hW => Hih.out x (mem_of_get? hx) y B W ((Hl.out x (mem_of_get? hx)).keep hS) ((Hl2.out y (mem_of_get? hy)).keep hS) hW)
                    have hat := cmpVs_at hx hy
                    rw [Hcv.out] at hat
                    obtain ⟨c, hc⟩ : ∃ c, cmpV x y = c := ⟨_, rfl⟩
                    rw [hc] at hat hic
                    have Hat := Lib.hid hat
                    clear hx hy hat hc
                    go_wp2_with fail
                    (generalize hA0 : Act.mk _ _ = A0; refine wp_region_still_tail 10 (by kernel_rfl) (by kernel_rfl) ?_; simp only [List.take_succ_cons, List.take_zero, List.drop_succ_cons, List.drop_zero]; (iterate 10 (refine st_want (by rw [← hA0]; rfl) (fun K hK => ?_); subst hA0; go_simp; generalize hA0 : Act.mk _ _ = A0; refine hK A0 ?_; clear hK K)); refine wpStill_nil ?_; subst hA0)
                    change wpList _ _ _ _ _ wr.drew
                    go_wp2_with fail
                    refine (hic.out wr.drew hSr (Nat.le_trans hB hbwr.size)).mono ?_
                    rintro e w' ⟨rfl, hb3⟩
                    by_cases hc0 : c = 0
                    · subst hc0
                      have hrr := Hat.out
                      rw [orC_z] at hrr
                      have Hrr := Lib.hid hrr
                      clear hrr
                      go_wp2
                      go_roundw
                      case rel => exact ⟨j + 1, by omega, by omega, by go_num, hbr.drew.trans (hb3.mono hbr.size), Hrr.out.symm⟩
                      case measure => simp [intOf]; omega
                    · have hne : (c != 0) = true := by simpa using hc0
                      have hrr := Hat.out
                      rw [orC_ne hc0] at hrr
                      have Hrr := Lib.hid hrr
                      clear hrr hc0
                      go_wp2
                      go_ret
                      exact ⟨by rw [Hrr.out]; rfl, hbwr.drew.trans (hb3.mono hbwr.size)⟩
                  · have e := cmpVs_end l r j (.inr (by rw [hlen2'.out]; omega)) (by rw [hlen'.out]; exact hj) (by rw [hlen2'.out]; exact hj2)
                    rw [Hcv.out, hlen'.out, hlen2'.out] at e
                    have He : Hid (R = ordI len len2) := e
                    clear e
                    have ho2 := Lib.hid (fun a b W => rorder_any a b W)
                    go_wp2_with fail
                    refine (ho2.out _ _ _).mono ?_
                    rintro e w' ⟨rfl, rfl⟩
                    go_wp2
                    go_ret
                    exact ⟨by rw [He.out]; rfl, hbwr⟩
                · have e := cmpVs_end l r j (.inl (by rw [hlen'.out]; omega)) (by rw [hlen'.out]; exact hj) (by rw [hlen2'.out]; exact hj2)
                  rw [Hcv.out, hlen'.out, hlen2'.out] at e
                  have He : Hid (R = ordI len len2) := e
                  clear e
                  have ho2 := Lib.hid (fun a b W => rorder_any a b W)
                  go_wp2_with fail
                  refine (ho2.out _ _ _).mono ?_
                  rintro e w' ⟨rfl, rfl⟩
                  go_wp2
                  go_ret
                  exact ⟨by rw [He.out]; rfl, hbwr⟩
            · have hne : (CL != 0) = true := by simpa using hcl
              have hrr := Hrr.out
              rw [orC_ne hcl] at hrr
              have Hrr2 := Lib.hid hrr
              clear hrr Hrr hcl
              go_wp2
              go_ret
              exact ⟨by rw [← Hrr2.out]; rfl, Hbw.out.trans (hbt0.mono (by have := Hz0.out; omega))⟩
          · have hne : (sc != sd) = true := by simpa using hsc
            have hrr := Hrr1.out
            rw [orC_ne (ordI_ne hsc)] at hrr
            have Hrr := Lib.hid hrr
            have ho2 := Lib.hid (fun a b W => rorder_any a b W)
            clear hrr hsc
            go_wp2_with fail
            refine (ho2.out _ _ _).mono ?_
            rintro e w' ⟨rfl, rfl⟩
            go_wp2
            go_ret
            exact ⟨by rw [← Hrr.out]; rfl, Hbw.out.trans (hbd.mono (by have := Hz0.out; omega))⟩
        · have hnn : (n != m) = true := by simpa using hnm
          clear hnm
          by_cases hsc : sc = sd
          · have hrr := Hrr1.out
            rw [hsc, ordI_self, orC_z] at hrr
            have Hrr := Lib.hid hrr
            subst hsc
            clear hrr
            have htt := Lib.hid (fun W => rtexts_any s t W hs ht)
            go_wp2_with fail
            refine (htt.out _).mono ?_
            rintro e wt ⟨rfl, hbt⟩
            have hbt0 : Below W0.heap.size W0 wt := hbd.trans (hbt.mono hbd.size)
            clear p0 p1 p2 p3 p4 q0 q1 q2 q3 q4
            obtain ⟨_, p0, p1, p2, p3, p4, q0, q1, q2, q3, q4⟩ := hk.out wt hbt0
            obtain ⟨CL, hCL⟩ : ∃ c, cmpL s.data.toList t.data.toList = c := ⟨_, rfl⟩
            rw [hCL] at Hrr ⊢
            clear hCL
            by_cases hcl : CL = 0
            · subst hcl
              have hrr := Hrr.out
              rw [orC_z] at hrr
              have Hrr2 : Hid (cmpVs (l.drop 0) (r.drop 0) = R) := hrr
              clear hrr Hrr
              go_wp2
              go_loopw [7] (fun i wr => ∃ j : Nat, j ≤ len ∧ j ≤ len2 ∧ i = .int .i64 j ∧ Below W0.heap.size W0 wr ∧ cmpVs (l.drop j) (r.drop j) = R) (fun i _ => len - (intOf i).toNat)
              case atStart => exact ⟨0, Nat.zero_le _, Nat.zero_le _, rfl, hbt0, Hrr2.out⟩
              case round =>
                obtain ⟨j, hj, hj2, rfl, hbr, hcv⟩ := hrel
                have Hcv := Lib.hid hcv
                clear p0 p1 p2 p3 p4 q0 q1 q2 q3 q4 hcv
                obtain ⟨_, p0, p1, p2, p3, p4, q0, q1, q2, q3, q4⟩ := hk.out wr hbr
                have hbwr : Below w.heap.size w wr := Hbw.out.trans (hbr.mono (by have := Hz0.out; omega))
                by_cases hlt : j < len
                · by_cases hlt2 : j < len2
                  · have hSr : Same B w wr := Same.mono (Same.of_below hbwr) hB
                    obtain ⟨x, ad, hx, rfl, hb, d0, d1, d2, d3, d4⟩ := (Hr.out.keep hSr).get (show j < l.length by rw [hlen'.out]; exact hlt)
                    obtain ⟨y, ad2, hy, rfl, hb2, c0, c1, c2, c3, c4⟩ := (Hr2.out.keep hSr).get (show j < r.length by rw [hlen2'.out]; exact hlt2)
                    have hic := Lib.hid (fun W hS hW => Hih.out x (mem_of_get? hx) y B W ((Hl.out x (mem_of_get? hx)).keep hS) ((Hl2.out y (mem_of_get? hy)).keep hS) hW)
                    have hat := cmpVs_at hx hy
                    rw [Hcv.out] at hat
                    obtain ⟨c, hc⟩ : ∃ c, cmpV x y = c := ⟨_, rfl⟩
                    rw [hc] at hat hic
                    have Hat := Lib.hid hat
                    clear hx hy hat hc
                    go_wp2_with fail
                    (generalize hA0 : Act.mk _ _ = A0; refine wp_region_still_tail 10 (by kernel_rfl) (by kernel_rfl) ?_; simp only [List.take_succ_cons, List.take_zero, List.drop_succ_cons, List.drop_zero]; (iterate 10 (refine st_want (by rw [← hA0]; rfl) (fun K hK => ?_); subst hA0; go_simp; generalize hA0 : Act.mk _ _ = A0; refine hK A0 ?_; clear hK K)); refine wpStill_nil ?_; subst hA0)
                    change wpList _ _ _ _ _ wr.drew
                    go_wp2_with fail
                    refine (hic.out wr.drew hSr (Nat.le_trans hB hbwr.size)).mono ?_
                    rintro e w' ⟨rfl, hb3⟩
                    by_cases hc0 : c = 0
                    · subst hc0
                      have hrr := Hat.out
                      rw [orC_z] at hrr
                      have Hrr := Lib.hid hrr
                      clear hrr
                      go_wp2
                      go_roundw
                      case rel => exact ⟨j + 1, by omega, by omega, by go_num, hbr.drew.trans (hb3.mono hbr.size), Hrr.out.symm⟩
                      case measure => simp [intOf]; omega
                    · have hne : (c != 0) = true := by simpa using hc0
                      have hrr := Hat.out
                      rw [orC_ne hc0] at hrr
                      have Hrr := Lib.hid hrr
                      clear hrr hc0
                      go_wp2
                      go_ret
                      exact ⟨by rw [Hrr.out]; rfl, hbwr.drew.trans (hb3.mono hbwr.size)⟩
                  · have e := cmpVs_end l r j (.inr (by rw [hlen2'.out]; omega)) (by rw [hlen'.out]; exact hj) (by rw [hlen2'.out]; exact hj2)
                    rw [Hcv.out, hlen'.out, hlen2'.out] at e
                    have He : Hid (R = ordI len len2) := e
                    clear e
                    have ho2 := Lib.hid (fun a b W => rorder_any a b W)
                    go_wp2_with fail
                    refine (ho2.out _ _ _).mono ?_
                    rintro e w' ⟨rfl, rfl⟩
                    go_wp2
                    go_ret
                    exact ⟨by rw [He.out]; rfl, hbwr⟩
                · have e := cmpVs_end l r j (.inl (by rw [hlen'.out]; omega)) (by rw [hlen'.out]; exact hj) (by rw [hlen2'.out]; exact hj2)
                  rw [Hcv.out, hlen'.out, hlen2'.out] at e
                  have He : Hid (R = ordI len len2) := e
                  clear e
                  have ho2 := Lib.hid (fun a b W => rorder_any a b W)
                  go_wp2_with fail
                  refine (ho2.out _ _ _).mono ?_
                  rintro e w' ⟨rfl, rfl⟩
                  go_wp2
                  go_ret
                  exact ⟨by rw [He.out]; rfl, hbwr⟩
            · have hne : (CL != 0) = true := by simpa using hcl
              have hrr := Hrr.out
              rw [orC_ne hcl] at hrr
              have Hrr2 := Lib.hid hrr
              clear hrr Hrr hcl
              go_wp2
              go_ret
              exact ⟨by rw [← Hrr2.out]; rfl, Hbw.out.trans (hbt0.mono (by have := Hz0.out; omega))⟩
          · have hne : (sc != sd) = true := by simpa using hsc
            have hrr := Hrr1.out
            rw [orC_ne (ordI_ne hsc)] at hrr
            have Hrr := Lib.hid hrr
            have ho2 := Lib.hid (fun a b W => rorder_any a b W)
            clear hrr hsc
            go_wp2_with fail
            refine (ho2.out _ _ _).mono ?_
            rintro e w' ⟨rfl, rfl⟩
            go_wp2
            go_ret
            exact ⟨by rw [← Hrr.out]; rfl, Hbw.out.trans (hbd.mono (by have := Hz0.out; omega))⟩
      · have hne : (D != 0) = true := by simpa using hd0
        have hrr := Hrr0.out
        rw [orC_ne hd0] at hrr
        have Hrr := Lib.hid hrr
        clear hrr hd0
        go_wp2
        go_ret
        exact ⟨by rw [← Hrr.out]; rfl, Hbw.out.trans (hbd.mono (by have := Hz0.out; omega))⟩
    · have e3 : (k == 3) = false := by simpa using h3
      have e3' : (k != 3) = true := by simpa using h3
      rw [if_neg h3, ← orC_as, ← orC_as] at hrr
      have Hrr0 := Lib.hid hrr
      clear h0 h3 hrr hn hm h02 e02
      have hbd : Below W0.heap.size W0 W0 := Below.refl _ _
      by_cases hnm : n = m
      · subst hnm
        have Hrr1 : Hid (orC (ordI sc sd) (orC (cmpL s.data.toList t.data.toList) (cmpVs l r)) = R) := by
          have h := Hrr0.out
          rw [ordI_self, orC_z] at h
          exact h
        clear Hrr0
        go_enter Tryz.func65, Tryz.ntmps65
        go_upto_region 1 with (fail)
        rw [HW0.out]
        by_cases hsc : sc = sd
        · have hrr := Hrr1.out
          rw [hsc, ordI_self, orC_z] at hrr
          have Hrr := Lib.hid hrr
          subst hsc
          clear hrr
          have htt := Lib.hid (fun W => rtexts_any s t W hs ht)
          go_wp2_with fail
          refine (htt.out _).mono ?_
          rintro e wt ⟨rfl, hbt⟩
          have hbt0 : Below W0.heap.size W0 wt := hbd.trans (hbt.mono hbd.size)
          clear p0 p1 p2 p3 p4 q0 q1 q2 q3 q4
          obtain ⟨_, p0, p1, p2, p3, p4, q0, q1, q2, q3, q4⟩ := hk.out wt hbt0
          obtain ⟨CL, hCL⟩ : ∃ c, cmpL s.data.toList t.data.toList = c := ⟨_, rfl⟩
          rw [hCL] at Hrr ⊢
          clear hCL
          by_cases hcl : CL = 0
          · subst hcl
            have hrr := Hrr.out
            rw [orC_z] at hrr
            have Hrr2 : Hid (cmpVs (l.drop 0) (r.drop 0) = R) := hrr
            clear hrr Hrr
            go_wp2
            go_loopw [7] (fun i wr => ∃ j : Nat, j ≤ len ∧ j ≤ len2 ∧ i = .int .i64 j ∧ Below W0.heap.size W0 wr ∧ cmpVs (l.drop j) (r.drop j) = R) (fun i _ => len - (intOf i).toNat)
            case atStart => exact ⟨0, Nat.zero_le _, Nat.zero_le _, rfl, hbt0, Hrr2.out⟩
            case round =>
              obtain ⟨j, hj, hj2, rfl, hbr, hcv⟩ := hrel
              have Hcv := Lib.hid hcv
              clear p0 p1 p2 p3 p4 q0 q1 q2 q3 q4 hcv
              obtain ⟨_, p0, p1, p2, p3, p4, q0, q1, q2, q3, q4⟩ := hk.out wr hbr
              have hbwr : Below w.heap.size w wr := Hbw.out.trans (hbr.mono (by have := Hz0.out; omega))
              by_cases hlt : j < len
              · by_cases hlt2 : j < len2
                · have hSr : Same B w wr := Same.mono (Same.of_below hbwr) hB
                  obtain ⟨x, ad, hx, rfl, hb, d0, d1, d2, d3, d4⟩ := (Hr.out.keep hSr).get (show j < l.length by rw [hlen'.out]; exact hlt)
                  obtain ⟨y, ad2, hy, rfl, hb2, c0, c1, c2, c3, c4⟩ := (Hr2.out.keep hSr).get (show j < r.length by rw [hlen2'.out]; exact hlt2)
                  have hic := Lib.hid (fun W hS hW => Hih.out x (mem_of_get? hx) y B W ((Hl.out x (mem_of_get? hx)).keep hS) ((Hl2.out y (mem_of_get? hy)).keep hS) hW)
                  have hat := cmpVs_at hx hy
                  rw [Hcv.out] at hat
                  obtain ⟨c, hc⟩ : ∃ c, cmpV x y = c := ⟨_, rfl⟩
                  rw [hc] at hat hic
                  have Hat := Lib.hid hat
                  clear hx hy hat hc
                  go_wp2_with fail
                  (generalize hA0 : Act.mk _ _ = A0; refine wp_region_still_tail 10 (by kernel_rfl) (by kernel_rfl) ?_; simp only [List.take_succ_cons, List.take_zero, List.drop_succ_cons, List.drop_zero]; (iterate 10 (refine st_want (by rw [← hA0]; rfl) (fun K hK => ?_); subst hA0; go_simp; generalize hA0 : Act.mk _ _ = A0; refine hK A0 ?_; clear hK K)); refine wpStill_nil ?_; subst hA0)
                  change wpList _ _ _ _ _ wr.drew
                  go_wp2_with fail
                  refine (hic.out wr.drew hSr (Nat.le_trans hB hbwr.size)).mono ?_
                  rintro e w' ⟨rfl, hb3⟩
                  by_cases hc0 : c = 0
                  · subst hc0
                    have hrr := Hat.out
                    rw [orC_z] at hrr
                    have Hrr := Lib.hid hrr
                    clear hrr
                    go_wp2
                    go_roundw
                    case rel => exact ⟨j + 1, by omega, by omega, by go_num, hbr.drew.trans (hb3.mono hbr.size), Hrr.out.symm⟩
                    case measure => simp [intOf]; omega
                  · have hne : (c != 0) = true := by simpa using hc0
                    have hrr := Hat.out
                    rw [orC_ne hc0] at hrr
                    have Hrr := Lib.hid hrr
                    clear hrr hc0
                    go_wp2
                    go_ret
                    exact ⟨by rw [Hrr.out]; rfl, hbwr.drew.trans (hb3.mono hbwr.size)⟩
                · have e := cmpVs_end l r j (.inr (by rw [hlen2'.out]; omega)) (by rw [hlen'.out]; exact hj) (by rw [hlen2'.out]; exact hj2)
                  rw [Hcv.out, hlen'.out, hlen2'.out] at e
                  have He : Hid (R = ordI len len2) := e
                  clear e
                  have ho2 := Lib.hid (fun a b W => rorder_any a b W)
                  go_wp2_with fail
                  refine (ho2.out _ _ _).mono ?_
                  rintro e w' ⟨rfl, rfl⟩
                  go_wp2
                  go_ret
                  exact ⟨by rw [He.out]; rfl, hbwr⟩
              · have e := cmpVs_end l r j (.inl (by rw [hlen'.out]; omega)) (by rw [hlen'.out]; exact hj) (by rw [hlen2'.out]; exact hj2)
                rw [Hcv.out, hlen'.out, hlen2'.out] at e
                have He : Hid (R = ordI len len2) := e
                clear e
                have ho2 := Lib.hid (fun a b W => rorder_any a b W)
                go_wp2_with fail
                refine (ho2.out _ _ _).mono ?_
                rintro e w' ⟨rfl, rfl⟩
                go_wp2
                go_ret
                exact ⟨by rw [He.out]; rfl, hbwr⟩
          · have hne : (CL != 0) = true := by simpa using hcl
            have hrr := Hrr.out
            rw [orC_ne hcl] at hrr
            have Hrr2 := Lib.hid hrr
            clear hrr Hrr hcl
            go_wp2
            go_ret
            exact ⟨by rw [← Hrr2.out]; rfl, Hbw.out.trans (hbt0.mono (by have := Hz0.out; omega))⟩
        · have hne : (sc != sd) = true := by simpa using hsc
          have hrr := Hrr1.out
          rw [orC_ne (ordI_ne hsc)] at hrr
          have Hrr := Lib.hid hrr
          have ho2 := Lib.hid (fun a b W => rorder_any a b W)
          clear hrr hsc
          go_wp2_with fail
          refine (ho2.out _ _ _).mono ?_
          rintro e w' ⟨rfl, rfl⟩
          go_wp2
          go_ret
          exact ⟨by rw [← Hrr.out]; rfl, Hbw.out.trans (hbd.mono (by have := Hz0.out; omega))⟩
      · have hne : (n != m) = true := by simpa using hnm
        have hrr := Hrr0.out
        rw [orC_ne (ordI_ne hnm)] at hrr
        have Hrr := Lib.hid hrr
        have ho2 := Lib.hid (fun a b W => rorder_any a b W)
        clear hrr hnm
        go_enter Tryz.func65, Tryz.ntmps65
        go_upto_region 1 with (fail)
        rw [HW0.out]
        go_wp2_with fail
        refine (ho2.out _ _ _).mono ?_
        rintro e w' ⟨rfl, rfl⟩
        go_wp2
        go_ret
        exact ⟨by rw [← Hrr.out]; rfl, Hbw.out⟩
  · have hne : (k != k2) = true := by simpa using hkk
    have hrr := HR.out
    rw [show kC k k2 = ordI k k2 by unfold kC; rw [if_neg hkk, if_neg h0, if_neg h02], orC_ne (ordI_ne hkk)] at hrr
    have Hrr := Lib.hid hrr
    have ho2 := Lib.hid (fun a b W => rorder_any a b W)
    clear hrr hkk h0 h02
    go_enter Tryz.func65, Tryz.ntmps65
    go_upto_region 1 with (fail)
    rw [HW0.out]
    go_wp2_with fail
    refine (ho2.out _ _ _).mono ?_
    rintro e w' ⟨rfl, rfl⟩
    go_wp2
    go_ret
    exact ⟨by rw [← Hrr.out]; rfl, Hbw.out⟩
end Go.Proofs.YthijagpnpcpcbaaGreat
namespace Go.Proofs.YthijagpnpcpcbaaGreat
open Go.RowKit
set_option maxRecDepth 100000 in
set_option maxHeartbeats 1000000 in
theorem rCompareRowsU_any (A A2 : Option Addr) (cap cap2 : Nat) (l m : List VT) (B : Nat) (w : World) (h1 : VT.Rows B w A cap l) (h2 : VT.Rows B w A2 cap2 m) (hB : B ≤ w.heap.size) :
    Calls Tryz.prog 43 #[.slice A l.length cap, .slice A2 m.length cap2] w fun e w' => e = .returned (.int .i64 (cmpVs l m)) ∧ Below w.heap.size w w' := by
  have i0 : I64 0 := ⟨by omega, by omega⟩
  have i6 : I64 6 := ⟨by omega, by omega⟩
  have hcv : cmpV (.node ⟨6, 0, 0, ⟨#[]⟩, A, cap⟩ l) (.node ⟨6, 0, 0, ⟨#[]⟩, A2, cap2⟩ m) = cmpVs l m := by
    rw [cmpV]
    have e1 : kC 6 6 = 0 := rfl
    have e2 : headC ⟨6, 0, 0, ⟨#[]⟩, A, cap⟩ ⟨6, 0, 0, ⟨#[]⟩, A2, cap2⟩ = 0 := rfl
    simp only
    rw [e1, orC_z, if_neg (by decide), e2, orC_z]
  have hc := Lib.hid (rCompare_any (.node ⟨6, 0, 0, ⟨#[]⟩, A, cap⟩ l) (.node ⟨6, 0, 0, ⟨#[]⟩, A2, cap2⟩ m) B w (.mk 6 0 0 ⟨#[]⟩ A cap l i6 i0 i0 (Nat.zero_le _) h1.1 h1.2) (.mk 6 0 0 ⟨#[]⟩ A2 cap2 m i6 i0 i0 (Nat.zero_le _) h2.1 h2.2) hB)
  rw [hcv] at hc
  clear h1 h2 hcv
  go_enter Tryz.func43, Tryz.ntmps43
  go_wp2_with fail
  refine hc.out.mono ?_
  rintro e w' ⟨rfl, hb⟩
  go_wp2
  go_ret
  exact ⟨rfl, hb⟩
theorem cmpLU_own : ∀ l, cmpL l l = 0
  | [] => rfl
  | x :: l => by
    show orC (ordI x.toNat x.toNat) (cmpL l l) = 0
    rw [ordI_self, cmpLU_own l]
    rfl
theorem cmpVsU_sm : ∀ (l m : List VT), (∀ x, x ∈ l → ∀ y, VT.Sm x y → cmpV x y = 0) → SmL l m → cmpVs l m = 0
  | [], [], _, _ => by unfold cmpVs; rfl
  | x :: l, y :: m, h, hs => by
    rw [cmpVs, h x (by simp) y hs.tail.1, cmpVsU_sm l m (fun z hz => h z (by simp [hz])) hs.tail.2]
    rfl
  | [], _ :: _, _, hs => by have := hs.1; simp at this
  | _ :: _, [], _, hs => by have := hs.1; simp at this
theorem cmpVU_sm : ∀ x y : VT, VT.Sm x y → cmpV x y = 0 := by
  refine VT.ind fun a l ih y h => ?_
  obtain ⟨b, m⟩ := y
  obtain ⟨h1, h2, h3, h4, h5, h6⟩ := h.inv
  rw [cmpV, cmpVsU_sm l m ih ⟨h5, h6⟩, h1, show kC b.k b.k = 0 from if_pos rfl]
  have hh : headC a b = 0 := by
    unfold headC decC mag
    rw [h1, h2, h3, h4, ordI_self, ordI_self, ordI_self, ordI_self, cmpLU_own]
    split <;> rfl
  rw [hh]
  split <;> rfl
end Go.Proofs.YthijagpnpcpcbaaGreat
namespace Go.Proofs.YthijagpnpcpcbaaGreat
open Go.RowKit Go.Sort
theorem pick_list {α : Type} {p : Nat → α → Prop} : ∀ {n : Nat}, (∀ i, i < n → ∃ x, p i x) → ∃ l : List α, l.length = n ∧ ∀ i x, l[i]? = some x → p i x
  | 0, _ => ⟨[], rfl, fun i x h => by simp at h⟩
  | n + 1, h => by
    obtain ⟨l, hl, hp⟩ := pick_list (n := n) (fun i hi => h i (by omega))
    obtain ⟨y, hy⟩ := h n (by omega)
    refine ⟨l ++ [y], by simp [hl], fun i x hx => ?_⟩
    by_cases hi : i < l.length
    · rw [List.getElem?_append_left hi] at hx
      exact hp i x hx
    · rw [List.getElem?_append_right (by omega)] at hx
      by_cases e : i - l.length = 0
      · rw [e] at hx
        simp at hx
        subst hx
        obtain rfl : i = n := by omega
        exact hy
      · rw [List.getElem?_eq_none (by simp; omega)] at hx
        cases hx
def vtC (v : VT) : List Value := [.int .i64 v.a.k, .int .i64 v.a.n, .int .i64 v.a.sc, .string v.a.s, .slice v.a.A v.l.length v.a.cap]
/-- Two values that are the same. -/
def VPair (w : World) (x y : DT) (p : VT × VT) : Prop := x.c = vtC p.1 ∧ y.c = vtC p.2 ∧ VT.In w.heap.size w p.1 ∧ VT.In w.heap.size w p.2 ∧ VT.Sm p.1 p.2
theorem row_pairs {w : World} {l m : List DT} {A A2 : Option Addr} {cap cap2 : Nat} (hlm : USL .value l m) (rl : DRow (Lv w) w 5 A cap l) (rm : DRow (Lv w) w 5 A2 cap2 m) (h : ∀ (i : Nat) x y, l[i]? = some x → m[i]? = some y → ∃ p, VPair w x y p) :
    ∃ u v : List VT, u.length = l.length ∧ v.length = l.length ∧ VT.Rows w.heap.size w A cap u ∧ VT.Rows w.heap.size w A2 cap2 v ∧ SmL u v := by
  have hp : ∀ i, i < l.length → ∃ p : VT × VT, ∀ x y, l[i]? = some x → m[i]? = some y → VPair w x y p := fun i hi => by
    have hi2 : i < m.length := by rw [← hlm.1]; exact hi
    obtain ⟨p, hp⟩ := h i _ _ (List.getElem?_eq_getElem hi) (List.getElem?_eq_getElem hi2)
    refine ⟨p, fun x y hx hy => ?_⟩
    rw [List.getElem?_eq_getElem hi] at hx
    rw [List.getElem?_eq_getElem hi2] at hy
    cases hx
    cases hy
    exact hp
  obtain ⟨ps, hl, hps⟩ := pick_list hp
  have get : ∀ {i : Nat}, i < l.length → ∃ q x y, ps[i]? = some q ∧ l[i]? = some x ∧ m[i]? = some y ∧ VPair w x y q := fun {i} hi => by
    have hi2 : i < m.length := by rw [← hlm.1]; exact hi
    have hi3 : i < ps.length := by omega
    exact ⟨_, _, _, List.getElem?_eq_getElem hi3, List.getElem?_eq_getElem hi, List.getElem?_eq_getElem hi2, hps i _ (List.getElem?_eq_getElem hi3) _ _ (List.getElem?_eq_getElem hi) (List.getElem?_eq_getElem hi2)⟩
  have at5 : ∀ {q : Addr} {x : DT} {v : VT}, DT.At w q x → x.c = vtC v → v.At w q := fun {q x v} ha hc => by
    refine ⟨?_, ?_, ?_, ?_, ?_⟩
    · exact ha 0 _ (by rw [hc]; rfl)
    · exact ha 1 _ (by rw [hc]; rfl)
    · exact ha 2 _ (by rw [hc]; rfl)
    · exact ha 3 _ (by rw [hc]; rfl)
    · exact ha 4 _ (by rw [hc]; rfl)
  have side : ∀ (f : VT × VT → VT) (g : DT → DT → DT) (l' : List DT) (A : Option Addr) (cap : Nat), l'.length = l.length → DRow (Lv w) w 5 A cap l' → (∀ i x y, l[i]? = some x → m[i]? = some y → l'[i]? = some (g x y)) → (∀ x y p, VPair w x y p → (g x y).c = vtC (f p) ∧ VT.In w.heap.size w (f p)) → VT.Rows w.heap.size w A cap (ps.map f) := fun f g l' A cap hll rl' hg hf => by
    refine ⟨⟨by rw [List.length_map, hl, ← hll]; exact rl'.1, rl'.2.1, fun i v hv => ?_⟩, fun v hv => ?_⟩
    · rw [List.getElem?_map] at hv
      obtain ⟨q, hq, rfl⟩ := Option.map_eq_some_iff.1 hv
      have hi : i < l.length := by rw [← hl]; exact (List.getElem?_eq_some_iff.1 hq).1
      obtain ⟨q', x, y, hq', hx, hy, hvp⟩ := get hi
      rw [hq] at hq'
      cases hq'
      obtain ⟨ad, e, hb, hat⟩ := rl'.2.2 i _ (hg i x y hx hy)
      exact ⟨ad, e, hb, at5 hat (hf x y q hvp).1⟩
    · obtain ⟨q, hq, rfl⟩ := List.mem_map.1 hv
      obtain ⟨i, hi⟩ := List.getElem?_of_mem hq
      have hil : i < l.length := by rw [← hl]; exact (List.getElem?_eq_some_iff.1 hi).1
      obtain ⟨q', x, y, hq', hx, hy, hvp⟩ := get hil
      rw [hi] at hq'
      cases hq'
      exact (hf x y q hvp).2
  refine ⟨ps.map (·.1), ps.map (·.2), by simp [hl], by simp [hl], side (·.1) (fun x _ => x) l A cap rfl rl (fun i x y hx _ => hx) (fun x y p h => ⟨h.1, h.2.2.1⟩), side (·.2) (fun _ y => y) m A2 cap2 hlm.1.symm rm (fun i x y _ hy => hy) (fun x y p h => ⟨h.2.1, h.2.2.2.1⟩), by simp, fun i a b ha hb => ?_⟩
  rw [List.getElem?_map] at ha hb
  obtain ⟨q, hq, rfl⟩ := Option.map_eq_some_iff.1 ha
  rw [hq] at hb
  cases hb
  have hil : i < l.length := by rw [← hl]; exact (List.getElem?_eq_some_iff.1 hq).1
  obtain ⟨q', x, y, hq', _, _, hvp⟩ := get hil
  rw [hq] at hq'
  cases hq'
  exact hvp.2.2.2.2
theorem val_pair : ∀ (x y : DT) (w : World), USm .value x y → UIn (Lv w) w .value x → UIn (Lv w) w .value y → ∃ p, VPair w x y p := by
  refine DT.ind fun c kk ih y w hs hx hy => ?_
  obtain ⟨k, n, sc, s, A, cap, l, e, ok, rl, il⟩ := hx.val
  cases e
  obtain ⟨k2, n2, sc2, s2, A2, cap2, m, rfl, ok2, rm, im⟩ := hy.val
  obtain ⟨rfl, rfl, rfl, rfl, hlm⟩ := hs.val
  obtain ⟨u, v, hu, hv, hru, hrv, hsl⟩ := row_pairs hlm rl rm fun i x y hx hy => ih l (by simp) x (List.mem_of_getElem? hx) y w (hlm.2 i x y hx hy) (il x (List.mem_of_getElem? hx)) (im y (List.mem_of_getElem? hy))
  obtain ⟨o1, o2, o3, o4⟩ := ok
  refine ⟨(.node ⟨k, n, sc, s, A, cap⟩ u, .node ⟨k, n, sc, s, A2, cap2⟩ v), ?_, ?_, .mk k n sc s A cap u o1 o2 o3 o4 hru.1 hru.2, .mk k n sc s A2 cap2 v o1 o2 o3 o4 hrv.1 hrv.2, .mk _ _ _ _ rfl rfl rfl rfl hsl.1 hsl.2⟩
  · simp only [vtC, VT.a_node, VT.l_node, hu]
    rfl
  · simp only [vtC, VT.a_node, VT.l_node, hv, hlm.1]
    rfl
theorem rCompareRows_u (l m : List DT) (A A2 : Option Addr) (cap cap2 : Nat) (w : World) (hlm : USL .value l m) (rl : DRow (Lv w) w 5 A cap l) (il : ∀ x, x ∈ l → UIn (Lv w) w .value x) (rm : DRow (Lv w) w 5 A2 cap2 m) (im : ∀ x, x ∈ m → UIn (Lv w) w .value x) :
    Calls Tryz.prog 43 #[.slice A l.length cap, .slice A2 m.length cap2] w fun e w' => e = .returned (.int .i64 0) ∧ Below w.heap.size w w' := by
  obtain ⟨u, v, hu, hv, hru, hrv, hsl⟩ := row_pairs hlm rl rm fun i x y hx hy => val_pair x y w (hlm.2 i x y hx hy) (il x (List.mem_of_getElem? hx)) (im y (List.mem_of_getElem? hy))
  have h := rCompareRowsU_any A A2 cap cap2 u v w.heap.size w hru hrv (Nat.le_refl _)
  rw [hu, hv, hlm.1, cmpVsU_sm u v (fun x _ y h => cmpVU_sm x y h) hsl] at h
  rw [hlm.1]
  exact h
end Go.Proofs.YthijagpnpcpcbaaGreat

