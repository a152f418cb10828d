/-
  The references: rows compared, counted; byKeys without keys; a row cloned. The law's same.
-/
import Derived.Test.YtcdaipkkddgbeaaQWrG
import Derived.Test.YtcdaipkkddgbeaaQTlD
namespace Go.Proofs.Ytcdaipkkddgbeaa
open Go.RowKit
set_option maxRecDepth 100000 in
set_option maxHeartbeats 1000000 in
theorem rCompareRows_any (A A2 : Option Addr) (cap cap2 : Nat) (l m : List VT) (B : Nat) (w : World) (h1 : VT.Rows B w A cap l) (h2 : VT.Rows B w A2 cap2 m) (hB : B ≤ w.heap.size) :
    Calls Try.prog 7 #[.slice A l.length cap, .slice A2 m.length cap2] w fun e w' => e = .returned (.int .i64 (cmpVs l m)) ∧ Below w.heap.size w w' := by
  have i0 : I64 0 := ⟨by omega, by omega⟩
  have i6 : I64 6 := ⟨by omega, by omega⟩
  have hcv : cmpV (.node ⟨6, 0, 0, ⟨#[]⟩, A, cap⟩ l) (.node ⟨6, 0, 0, ⟨#[]⟩, A2, cap2⟩ m) = cmpVs l m := by
    rw [cmpV]
    have e1 : kC 6 6 = 0 := rfl
    have e2 : headC ⟨6, 0, 0, ⟨#[]⟩, A, cap⟩ ⟨6, 0, 0, ⟨#[]⟩, A2, cap2⟩ = 0 := rfl
    simp only
    rw [e1, orC_z, if_neg (by decide), e2, orC_z]
  have hc := Lib.hid (rCompare_any (.node ⟨6, 0, 0, ⟨#[]⟩, A, cap⟩ l) (.node ⟨6, 0, 0, ⟨#[]⟩, A2, cap2⟩ m) B w (.mk 6 0 0 ⟨#[]⟩ A cap l i6 i0 i0 (Nat.zero_le _) h1.1 h1.2) (.mk 6 0 0 ⟨#[]⟩ A2 cap2 m i6 i0 i0 (Nat.zero_le _) h2.1 h2.2) hB)
  rw [hcv] at hc
  clear h1 h2 hcv
  go_enter Try.func7, Try.ntmps7
  go_wp2_with fail
  refine hc.out.mono ?_
  rintro e w' ⟨rfl, hb⟩
  go_wp2
  go_ret
  exact ⟨rfl, hb⟩
theorem rcmp_reg {B : Nat} {w : World} {x y : VT} (hx : VT.Rows B w x.a.A x.a.cap x.l) (hy : VT.Rows B w y.a.A y.a.cap y.l) (hB : B ≤ w.heap.size) {c : Int} (hc : cmpR x y = c) : ∀ (d : Nat) (os : Array Obj),
    Calls Try.prog 7 #[.slice x.a.A x.l.length x.a.cap, .slice y.a.A y.l.length y.a.cap] (Sort.grow (redrawn w d) os) fun e w'' => e = .returned (.int .i64 c) ∧ ∃ p : Regrown, w'' = Sort.grow (redrawn w p.d) p.os := fun d os => by
  subst hc
  have hs : Same B w (Sort.grow (redrawn w d) os) := Same.mono (Same.of_below (below_regrown w d os)) hB
  exact Calls.regrown_of (rCompareRows_any _ _ _ _ x.l y.l B _ (hx.keep hs) (hy.keep hs) (Nat.le_trans hB (below_regrown w d os).size))
/-- How many rows are the same as one. -/
theorem count_take {r x : VT} {l : List VT} {j : Nat} (h : l[j]? = some x) : (l.take (j + 1)).countP (eqR r) = (l.take j).countP (eqR r) + (if cmpR x r = 0 then 1 else 0) := by
  rw [List.take_add_one, h, List.countP_append]
  simp [List.countP_cons, eqR]
set_option maxRecDepth 100000 in
set_option maxHeartbeats 4000000 in
theorem rcount_any (A : Option Addr) (cap : Nat) (rows : List VT) (r : VT) (B : Nat) (w : World) (hr : VT.RRow B w A cap rows) (hx : VT.Rows B w r.a.A r.a.cap r.l) (hB : B ≤ w.heap.size) :
    Calls Try.prog 12 #[.slice A rows.length cap, .slice r.a.A r.l.length r.a.cap] w fun e w' => e = .returned (.int .i64 (rows.countP (eqR r) : Nat)) ∧ Below w.heap.size w w' := by
  obtain ⟨n, hn⟩ : ∃ n, rows.length = n := ⟨_, rfl⟩
  have hnm := rows_len hr
  rw [hn] at hnm ⊢
  have Hn := Lib.hid hn
  have Hr := Lib.hid hr
  have Hx := Lib.hid hx
  clear hn hr hx
  go_enter Try.func12, Try.ntmps12
  go_wp2
  go_loopw [5, 10] (fun c i wr => ∃ j : Nat, j ≤ n ∧ i = .int .i64 j ∧ c = .int .i64 ((rows.take j).countP (eqR r) : Nat) ∧ Below w.heap.size w wr) (fun _ i _ => n - (intOf i).toNat)
  case atStart => exact ⟨0, Nat.zero_le _, rfl, rfl, Below.refl _ _⟩
  case round =>
    obtain ⟨j, hj, rfl, rfl, hbr⟩ := hrel
    by_cases hlt : j < n
    · have hS : Same B w wr := Same.mono (Same.of_below hbr) hB
      obtain ⟨x, ad, hxx, rfl, hab, c0⟩ := (Hr.out.keep hS).get (show j < rows.length by rw [Hn.out]; exact hlt)
      have hxr := Hr.out.2.2.1 x (mem_of_get? hxx)
      have hc := Lib.hid (rCompareRows_any x.a.A r.a.A x.a.cap r.a.cap x.l r.l B wr (hxr.keep hS) (Hx.out.keep hS) (Nat.le_trans hB hbr.size))
      have hct := count_take (r := r) hxx
      obtain ⟨k, hk⟩ : ∃ k, (rows.take j).countP (eqR r) = k := ⟨_, rfl⟩
      have hkj : k ≤ j := by rw [← hk]; exact Nat.le_trans List.countP_le_length (by rw [List.length_take]; omega)
      rw [hk] at hct
      have Hct := Lib.hid hct
      have Hk := Lib.hid hk
      rw [hk]
      clear hxx hxr hct hk
      go_wp2_with fail
      refine hc.out.mono ?_
      rintro e w1 ⟨rfl, hb1⟩
      by_cases hz : cmpVs x.l r.l = 0
      · have hct := Hct.out
        rw [show cmpR x r = cmpVs x.l r.l from rfl, if_pos hz] at hct
        rw [hz]
        have Hct2 := Lib.hid hct
        clear hct hz hc
        go_wp2
        go_roundw
        case rel => exact ⟨j + 1, by omega, by go_num, by rw [Hct2.out]; simp, hbr.trans (hb1.mono hbr.size)⟩
        case measure => simp [intOf]; omega
      · have hct := Hct.out
        rw [show cmpR x r = cmpVs x.l r.l from rfl, if_neg hz, Nat.add_zero] at hct
        have hne : (cmpVs x.l r.l == 0) = false := by simpa using hz
        have Hct2 := Lib.hid hct
        clear hct hz hc
        go_wp2
        go_roundw
        case rel => exact ⟨j + 1, by omega, by go_num, by rw [Hct2.out]; rfl, hbr.trans (hb1.mono hbr.size)⟩
        case measure => simp [intOf]; omega
    · obtain rfl : j = n := by omega
      go_wp2
      go_ret
      refine ⟨?_, hbr⟩
      have e : rows.take j = rows := by rw [← Hn.out]; exact List.take_length
      rw [e]
      rfl
set_option maxRecDepth 100000 in
theorem rbyKeys_any (v v2 : Value) (w : World) (_h1 : v.oneCell' = true) (_h2 : v2.oneCell' = true) :
    Calls Try.prog 38 #[.agg #[v, .slice none 0 0, .int .i64 0], .agg #[v2, .slice none 0 0, .int .i64 0], .slice none 0 0] w fun e w' => e = .returned (.int .i64 0) ∧ Below w.heap.size w w' := by
  obtain ⟨W0, hW0⟩ : ∃ W0, (w.alloc (.cells #[v, .slice none 0 0, .int .i64 0] 48)).alloc (.cells #[v2, .slice none 0 0, .int .i64 0] 48) = W0 := ⟨_, rfl⟩
  have hb0 : Below w.heap.size w W0 := by rw [← hW0]; exact bel2 _ _ _
  have HW0 := Lib.hid hW0
  clear hW0
  go_enter Try.func38, Try.ntmps38
  go_upto_region 1 with (fail)
  rw [HW0.out]
  go_wp2
  refine wp_loop_rounds 1 ?_
  rw [rounds_succ]
  go_wp2
  go_ret
  exact ⟨rfl, hb0⟩
/-! ## A row cloned -/
theorem row_src {B : Nat} {w : World} {A : Option Addr} {cap : Nat} {l : List VT} (h : VT.Row B w A cap l) : SrcAt w A (l.flatMap vCells) := by
  cases l with
  | nil => exact .inl rfl
  | cons y r =>
    obtain ⟨ad, e, _, _⟩ := h.2.2 0 y rfl
    refine .inr ⟨ad, e, fun j u hu => ?_⟩
    have hjl := (List.getElem?_eq_some_iff.1 hu).1
    rw [vCells_len] at hjl
    have hi : j / 5 < (y :: r).length := by omega
    have hd : j / 5 * 5 + j % 5 = j := by omega
    obtain ⟨ad2, e2, _, h0, h1, h2, h3, h4⟩ := h.2.2 (j / 5) (y :: r)[j / 5] (List.getElem?_eq_getElem hi)
    rw [e] at e2
    cases e2
    rw [← hd, flat_at vCells 5 (fun _ => rfl) (y :: r) (j / 5) _ (j % 5) (List.getElem?_eq_getElem hi) (by omega)] at hu
    rw [← hd, ← add_add2]
    have hk : j % 5 < 5 := by omega
    generalize j % 5 = k at hu hk
    generalize (y :: r)[j / 5] = x at hu h0 h1 h2 h3 h4
    match k, hk with
    | 0, _ => cases hu; exact h0
    | 1, _ => cases hu; rw [add_off3 _ 1 (by decide)]; exact h1
    | 2, _ => cases hu; rw [add_off3 _ 2 (by decide)]; exact h2
    | 3, _ => cases hu; rw [add_off3 _ 3 (by decide)]; exact h3
    | 4, _ => cases hu; rw [add_off3 _ 4 (by decide)]; exact h4
set_option maxRecDepth 100000 in
set_option maxHeartbeats 1000000 in
theorem cloneRow_any (A : Option Addr) (cap : Nat) (l : List VT) (B : Nat) (w : World) (hr : VT.Rows B w A cap l) (hB : B ≤ w.heap.size) (hn : l.length ≤ 1048576) :
    Calls Try.prog 13 #[.slice A l.length cap] w fun e w' => ∃ (A' : Option Addr) (cap' : Nat), e = .returned (.slice A' l.length cap') ∧ Below w.heap.size w w' ∧ ∀ w'', Same B w w'' → Keeps w.heap.size w' w'' → VT.Rows w''.heap.size w'' A' cap' l := by
  obtain ⟨i0, hi, iz, isz, iby⟩ := info_parts infoValue
  have q : ∀ (w : World) (a : Option Addr) (n c n' c' : Nat), (binOp .eql 27 (.slice a n c) (.slice none n' c')).run Try.prog w = .ok (.bool a.isNone) w := fun w a n c n' c' => Lib.run_eql_slice_nil w _ _ a n c n' c' Try.underlying27
  cases A with
  | none =>
    have hl0 : l = [] := by
      cases l with
      | nil => rfl
      | cons y l => obtain ⟨ad, e, _⟩ := hr.1.2.2 0 y rfl; cases e
    subst hl0
    clear hr
    go_enter Try.func13, Try.ntmps13
    go_wp2
    go_ret
    exact ⟨none, 0, rfl, Below.refl _ _, fun w'' _ _ => VT.Rows.nil _ _⟩
  | some ad =>
    have hsrc := row_src hr.1
    have hlen : (l.flatMap vCells).length = l.length * 5 := vCells_len l
    have h1' : ∀ u, u ∈ l.flatMap vCells → u.oneCell' = true := fun u hu => by
      obtain ⟨x, hx, hu⟩ := List.mem_flatMap.1 hu
      exact vCells_one x u hu
    have Hsrc : Hid (∀ o, SrcAt (w.alloc o) (some ad) (l.flatMap vCells)) := fun o => by
      rcases hsrc with h | ⟨ad', e, h⟩
      · exact .inl h
      · exact .inr ⟨ad', e, fun j u hu => cell_old (h j u hu) o⟩
    have Hlen := Lib.hid hlen
    have H1 := Lib.hid h1'
    have Hr := Lib.hid hr
    have hb : Hid ((0 + l.length) * 64 ≤ 140737488355328) := by show _ ≤ _; omega
    have hm : Hid (0 + l.length ≤ maxLen) := by show _ ≤ _; unfold maxLen; omega
    clear hsrc hlen h1' hr
    go_enter Try.func13, Try.ntmps13
    go_wp2_with (at_builtin; refine wpList_append_row _ rfl _ _ 27 rfl w.heap.size 33 i0 _ 5 64 Try.underlying27 hi iz isz iby rfl (by decide) (.slice (some ⟨w.heap.size, 0, none⟩) 0 0) 0 [] rfl (World.ownsRow_made w #[] 0 (Nat.le_refl _) (Nat.zero_le _) rfl) (some ad) l.length cap (l.flatMap vCells) rfl Hlen.out (Hsrc.out _) H1.out hm.out hb.out (by simp) ?_; intro v' w1 hown1 hg1 hm1)
    have hbw : Below w.heap.size w w1 := ((Below.refl _ w).alloc (Nat.le_refl _) _).grown hg1 (by simp) (fun k hk => by cases hk; exact Nat.le_refl _)
    have hown2 : w1.ownsRow w.heap.size 33 5 v' l.length (l.flatMap vCells) := by simpa using hown1
    obtain ⟨A', cap', rfl, h2, h3, h4, h5⟩ := own_values hown2 rfl
    go_ret
    refine ⟨A', cap', rfl, hbw, fun w'' hb'' hk => ⟨⟨h2, h3, fun i x hx => ?_⟩, fun x hx => ?_⟩⟩
    · obtain ⟨ad', e1, _, _, _, e2, e3, e4⟩ := h5 i x hx
      refine ⟨ad', e1, Nat.lt_of_lt_of_le e3 hk.2, ?_⟩
      exact e4.keepS (S := fun k => w.heap.size ≤ k ∧ k < w1.heap.size) (fun k hk2 => hk.1 k hk2.1 hk2.2) (by rw [block_add]; exact ⟨e2, e3⟩)
    · have hz := hbw.size
      have hz2 := hk.2
      exact ((Hr.out.2 x hx).keep hb'').more (by omega)
set_option maxRecDepth 100000 in
set_option maxHeartbeats 4000000 in
/-- The law's comparison of two lists of rows that are the same. -/
theorem lsame_any (A A2 : Option Addr) (cap cap2 : Nat) (a b : List VT) (B : Nat) (w : World) (ha : VT.RRow B w A cap a) (hb : VT.RRow B w A2 cap2 b) (hB : B ≤ w.heap.size) (hl : a.length = b.length) (hs : ∀ (i : Nat) x y, a[i]? = some x → b[i]? = some y → cmpR x y = 0) :
    Calls Try.prog 4 #[.slice A a.length cap, .slice A2 b.length cap2] w fun e w' => e = .returned (.bool true) ∧ Below w.heap.size w w' := by
  obtain ⟨n, hn⟩ : ∃ n, a.length = n := ⟨_, rfl⟩
  have hn2 : b.length = n := by rw [← hl]; exact hn
  have hnm := rows_len ha
  rw [hn] at hnm
  rw [hn, hn2]
  have Hn := Lib.hid hn
  have Hn2 := Lib.hid hn2
  have Ha := Lib.hid ha
  have Hb := Lib.hid hb
  have Hs := Lib.hid hs
  clear hn hn2 ha hb hs hl
  go_enter Try.func4, Try.ntmps4
  go_wp2
  go_loopw [13] (fun i wr => ∃ j : Nat, j ≤ n ∧ i = .int .i64 j ∧ Below w.heap.size w wr) (fun i _ => n - (intOf i).toNat)
  case atStart => exact ⟨0, Nat.zero_le _, rfl, Below.refl _ _⟩
  case round =>
    obtain ⟨j, hj, rfl, hbr⟩ := hrel
    by_cases hlt : j < n
    · have hS : Same B w wr := Same.mono (Same.of_below hbr) hB
      obtain ⟨x, ad, hx, rfl, hab, c0⟩ := (Ha.out.keep hS).get (show j < a.length by rw [Hn.out]; exact hlt)
      obtain ⟨y, ad2, hy, rfl, hab2, d0⟩ := (Hb.out.keep hS).get (show j < b.length by rw [Hn2.out]; exact hlt)
      have hxr := (Ha.out.2.2.1 x (mem_of_get? hx)).keep hS
      have hyr := (Hb.out.2.2.1 y (mem_of_get? hy)).keep hS
      have hcm := Lib.hid (rcmp_reg hxr hyr (Nat.le_trans hB hbr.size) (Hs.out j x y hx hy))
      have k1 := cell_regrown c0
      have k2 := cell_regrown d0
      clear hx hy hxr hyr c0 d0
      go_wp2_with fail
      (refine wp_region_quiet_below (by kernel_rfl) (by kernel_rfl) ?_; (repeat (quiet_step (with_reducible first | exact hcm.out _ _))); refine wpQuiet_nil ?_; intro _ hw'; obtain ⟨⟨dq, osq⟩, hw''⟩ := hw'; subst hw'')
      have hb2 := below_regrown wr dq osq
      have hw1 : Sort.grow (redrawn wr (Regrown.mk dq osq).d) (Regrown.mk dq osq).os = Sort.grow (redrawn wr dq) osq := rfl
      rw [hw1]
      clear hw1
      generalize Sort.grow (redrawn wr dq) osq = W2 at hb2 ⊢
      clear k1 k2 hcm
      go_wp2
      go_roundw
      case rel => exact ⟨j + 1, by omega, by go_num, hbr.trans (hb2.mono hbr.size)⟩
      case measure => simp [intOf]; omega
    · obtain rfl : j = n := by omega
      go_wp2
      go_ret
      exact ⟨rfl, hbr⟩
end Go.Proofs.Ytcdaipkkddgbeaa
