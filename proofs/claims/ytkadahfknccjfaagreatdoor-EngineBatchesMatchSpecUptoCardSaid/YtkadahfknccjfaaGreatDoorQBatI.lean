/-
  Rows divided into batches: the reference of package engine.
-/
import Derived.Test.YtkadahfknccjfaaGreatDoorQBatH
import Derived.Test.YtkadahfknccjfaaGreatDoorQVecMa
import Derived.Test.YtkadahfknccjfaaGreatDoorQBatC
import Derived.Test.YtkadahfknccjfaaGreatDoorQBatF
namespace Go.Proofs.YtkadahfknccjfaaGreatDoor
open Go.RowKit
theorem rowI_ok : ∀ {ts : List FT} {l : List VT}, rowI ts l = 0 → l.length = ts.length → ∀ (k : Nat) (t : FT) (x : VT), ts[k]? = some t → l[k]? = some x → checkS t x = 0
  | [], l, _, _, k, t, x, ht, _ => by simp at ht
  | u :: q, [], _, _, k, t, x, _, hx => by simp at hx
  | u :: q, y :: r, h, hl, k, t, x, ht, hx => by
    rw [rowI_cons] at h
    by_cases hc : checkS u y ≠ 0
    · rw [if_pos hc] at h; exact absurd h hc
    · rw [if_neg hc] at h
      match k with
      | 0 =>
        simp at ht hx
        subst ht hx
        exact Classical.not_not.1 hc
      | k + 1 => exact rowI_ok h (by simpa using hl) k t x (by simpa using ht) (by simpa using hx)
theorem rowsS_ok {ts : List FT} : ∀ {rows : List VT}, rowsS ts rows = 0 → ∀ r, r ∈ rows → r.l.length = ts.length ∧ ∀ (k : Nat) (t : FT) (x : VT), ts[k]? = some t → r.l[k]? = some x → checkS t x = 0
  | [], _, r, hr => by cases hr
  | y :: q, h, r, hr => by
    rw [rowsS_cons] at h
    by_cases hc : checkRowS ts y.l ≠ 0
    · rw [if_pos hc] at h; exact absurd h hc
    · rw [if_neg hc] at h
      rcases List.mem_cons.1 hr with rfl | hr
      · have h0 := Classical.not_not.1 hc
        unfold checkRowS at h0
        by_cases hl : r.l.length ≠ ts.length
        · rw [if_pos hl] at h0; omega
        · rw [if_neg hl] at h0
          have hl' := Classical.not_not.1 hl
          exact ⟨hl', fun k t x ht hx => rowI_ok h0 hl' k t x ht hx⟩
      · exact rowsS_ok h r hr
theorem rowsS_sml {ts : List FT} {rows : List VT} (h : rowsS ts rows = 0) : ∀ r, r ∈ rows → ∀ x, x ∈ r.l → VT.Sml x := fun r hr x hx => by
  obtain ⟨h1, h2⟩ := rowsS_ok h r hr
  obtain ⟨k, hk⟩ := List.getElem?_of_mem hx
  have hlt := (List.getElem?_eq_some_iff.1 hk).1
  exact check_sml (h2 k ts[k] x (List.getElem?_eq_getElem (by omega)) hk)
theorem typesS_ok {ts : List FT} (h : typesS ts = 0) : ts.length ≤ 120 := by
  unfold typesS at h
  split at h
  · omega
  · omega
/-- The length of a slice. -/
def slLen : Value → Nat
  | .slice _ n _ => n
  | _ => 0
def RbRel (ts : List FT) (rows : List VT) (size B : Nat) (w W0 : World) (rv ov : Value) (wr : World) : Prop :=
  ∃ (i : Nat) (bs : List BatT) (A' : Option Addr) (cap' : Nat), rv = .slice A' (rows.length - i * size) cap' ∧ VT.RRow B w A' cap' (rows.drop (i * size)) ∧ BsRel (fun _ => False) (List.map nz) ts rows size B w W0 i ov bs wr ∧ (i = 0 ∨ (i - 1) * size < rows.length)
set_option maxRecDepth 100000 in
set_option maxHeartbeats 8000000 in
theorem rBatches_any (TA RA : Option Addr) (tcap rcap flen len : Nat) (n : Int) (ts : List FT) (rows : List VT) (B : Nat) (w : World) (htr : FT.TRow B w TA tcap ts) (hr : VT.RRow B w RA rcap rows) (hT : Tabs B w) (hB : B ≤ w.heap.size) (hflen : Hid (ts.length = flen)) (hlen : Hid (rows.length = len)) (hmax : len ≤ 1048576) :
    Calls Tryz.prog 5 #[.slice TA flen tcap, .slice RA len rcap, .int .i64 n] w (BsPost (List.map nz) ts rows n B w) := by
  obtain ⟨ib, hib, ibz, ibs, ibb⟩ := info_parts infoBatch
  have hfll : flen ≤ 9223372036854775807 := by rw [← hflen.out]; exact Nat.le_trans htr.1 htr.2.1
  obtain ⟨R, hR⟩ : ∃ R, batchS ts rows n = R := ⟨_, rfl⟩
  have hR0 := hR
  unfold batchS at hR
  have hct := Lib.hid (rTypes_any TA tcap flen ts B w htr hB hflen)
  have hcl : Hid (∀ W, Below w.heap.size w W → Calls Tryz.prog 16 #[.slice TA flen tcap, .slice RA len rcap] W fun e w' => e = .returned (.int .i64 (rowsS ts rows)) ∧ Below w.heap.size w w') := fun W h => by
    have hs : Same B w W := Same.mono (Same.of_below h) hB
    exact (rListed_any TA RA tcap rcap flen len ts rows B W (htr.keep hs) (hr.keep hs) (hT.keep hs) (by have := h.size; omega) hflen hlen).mono fun e w' ⟨he, hb⟩ => ⟨he, h.trans (hb.mono h.size)⟩
  have HR0 := Lib.hid hR0
  have Htr := Lib.hid htr
  have Hr := Lib.hid hr
  clear htr hr hT hR0
  by_cases ht0 : typesS ts = 0
  rotate_left
  · rw [if_pos ht0] at hR
    have n0 : (typesS ts != 0) = true := by simpa using ht0
    have HR := Lib.hid hR
    have Ht := Lib.hid ht0
    clear ht0 hR
    go_enter Tryz.func5, Tryz.ntmps5
    go_wp2_with fail
    refine hct.out.mono ?_
    rintro e w1 ⟨rfl, hb1⟩
    go_wp2
    go_ret2
    exact bs_none (HR0.out.trans HR.out.symm) Ht.out hb1
  rw [ht0, if_neg (by simp)] at hR
  have Ht := Lib.hid ht0
  clear ht0
  by_cases hr0 : rowsS ts rows = 0
  rotate_left
  · rw [if_pos hr0] at hR
    have n0 : (rowsS ts rows != 0) = true := by simpa using hr0
    have HR := Lib.hid hR
    have Hr0 := Lib.hid hr0
    clear hr0 hR
    go_enter Tryz.func5, Tryz.ntmps5
    go_wp2_with fail
    refine hct.out.mono ?_
    rintro e w1 ⟨rfl, hb1⟩
    rw [Ht.out]
    go_wp2_with fail
    refine (hcl.out _ hb1).mono ?_
    rintro e w2 ⟨rfl, hb2⟩
    go_wp2
    go_ret2
    exact bs_none (HR0.out.trans HR.out.symm) Hr0.out hb2
  rw [hr0, if_neg (by simp)] at hR
  have Hr0 := Lib.hid hr0
  clear hr0
  by_cases hn0 : n < 1
  · have HR := Lib.hid (show R = 3 by rw [← hR, if_pos (.inl hn0)])
    clear hR
    go_enter Tryz.func5, Tryz.ntmps5
    go_wp2_with fail
    refine hct.out.mono ?_
    rintro e w1 ⟨rfl, hb1⟩
    rw [Ht.out]
    go_wp2_with fail
    refine (hcl.out _ hb1).mono ?_
    rintro e w2 ⟨rfl, hb2⟩
    rw [Hr0.out]
    go_wp2
    go_ret2
    exact bs_none (HR0.out.trans HR.out) (by decide) hb2
  by_cases hn1 : 1024 < n
  · have HR := Lib.hid (show R = 3 by rw [← hR, if_pos (.inr hn1)])
    clear hR
    go_enter Tryz.func5, Tryz.ntmps5
    go_wp2_with fail
    refine hct.out.mono ?_
    rintro e w1 ⟨rfl, hb1⟩
    rw [Ht.out]
    go_wp2_with fail
    refine (hcl.out _ hb1).mono ?_
    rintro e w2 ⟨rfl, hb2⟩
    rw [Hr0.out]
    go_wp2
    go_ret2
    exact bs_none (HR0.out.trans HR.out) (by decide) hb2
  rw [if_neg (by omega)] at hR
  obtain ⟨size, rfl⟩ : ∃ m : Nat, n = (m : Int) := ⟨n.toNat, by omega⟩
  have hs : size ≤ 1024 := by omega
  have hs1 : 1 ≤ size := by omega
  have HR := Lib.hid hR
  clear hn0 hn1 hR
  go_enter Tryz.func5, Tryz.ntmps5
  go_wp2_with fail
  refine hct.out.mono ?_
  rintro e w1 ⟨rfl, hb1⟩
  rw [Ht.out]
  go_wp2_with fail
  refine (hcl.out _ hb1).mono ?_
  rintro e w2 ⟨rfl, hb2⟩
  rw [Hr0.out]
  go_wp2
  go_loopw [1, 10] (fun rv ov wr => RbRel ts rows size B w w2 rv ov wr) (fun rv _ _ => slLen rv)
  case atStart => exact ⟨0, [], RA, rcap, by rw [hlen.out]; simp, by simpa using Hr.out, BsRel.start, .inl rfl⟩
  case round =>
    obtain ⟨i, bs, A', cap', rfl, hrow, hrel, hi⟩ := hrel
    obtain ⟨m, hm⟩ : ∃ m, rows.length - i * size = m := ⟨_, rfl⟩
    rw [hm]
    have hmm : m ≤ 1048576 := by rw [← hm, hlen.out]; omega
    have Hm := Lib.hid hm
    clear hm
    by_cases hlt : 0 < m
    · obtain ⟨x0, ad, hx0, rfl, hb0, _⟩ := hrow.get (show 0 < (rows.drop (i * size)).length by simp; have := Hm.out; omega)
      obtain ⟨k, hk⟩ : ∃ k, min size m = k := ⟨_, rfl⟩
      have hkI : min (size : Int) (m : Int) = (k : Int) := by omega
      have hkm : k ≤ m := by omega
      have hmc : m ≤ cap' := by have := hrow.1; simp at this; have := Hm.out; omega
      have hcm : cap' ≤ 9223372036854775807 := hrow.2.1
      have hb2w := hb2.size
      have hpf := hrel.2.2.1
      have hbr : Below w.heap.size w wr := hb2.trans (hpf.toBelow hb2w (fun k e => e.elim))
      have hSr : Same B w wr := Same.mono (Same.of_below hbr) hB
      have hi1 : i * size < rows.length := by have := Hm.out; omega
      have hi2 : i + 1 ≤ 1048576 := by
        have h1 : i * 1 ≤ i * size := Nat.mul_le_mul_left i hs1
        have := hlen.out
        omega
      have hck : (chunkAt rows size i).length = k := by rw [chunkAt_len, Hm.out]; exact hk
      have hnb := Lib.hid (rnewBatch_any TA (some ad) tcap cap' flen k ts (chunkAt rows size i) B wr (Htr.out.keep hSr) ((RRow_take hrow size).keep hSr) (by have := hbr.size; omega) hflen hck (by have := typesS_ok Ht.out; have := hflen.out; omega) (by omega) (fun r hr => by rw [(rowsS_ok Hr0.out r (chunkAt_mem hr)).1]; exact hflen.out) (fun r hr => rowsS_sml Hr0.out r (chunkAt_mem hr)))
      have Hk := Lib.hid hk
      have Hck := Lib.hid hck
      have Hrow := Lib.hid hrow
      have Hrel := Lib.hid hrel
      have HSr := Lib.hid hSr
      have Hbr := Lib.hid hbr
      clear hk hrow hrel hpf hSr hbr hck hi
      go_wp2_with fail
      refine hnb.out.mono ?_
      rintro e wx ⟨CA, ccap, cs, hcs, rfl, hbx, hmod, hof, _⟩
      rw [Hck.out]
      have Hcs := Lib.hid hcs
      clear hcs
      have hzx := hbx.size
      have hzr := Hbr.out.size
      have hz2 := Hrel.out.2.2.1.size
      have hownY := own_below Hrel.out.2.1 hbx
      have h3 : Hid (i + 1 ≤ maxLen) := by show _ ≤ _; unfold maxLen; omega
      have h4 : Hid ((i + 1) * 64 ≤ 140737488355328) := by show _ ≤ _; omega
      have h5 : Hid (∀ o, w2.heap.size ≤ (wx.alloc o).heap.size) := fun o => by simp; omega
      go_wp2_with (at_builtin; refine wpList_append_own2 _ rfl _ _ 24 rfl w2.heap.size 32 ib _ 4 64 Tryz.underlying24 hib ibz ibs ibb rfl (by decide) _ i (bs.flatMap BatT.c) rfl (hownY.alloc _) ⟨wx.heap.size, 0, none⟩ 1 1 (BatT.c ⟨k, CA, ccap, cs⟩) rfl (by decide) rfl (fun q u' h => new_cells _ _ _ q u' h) (BatT.c_one _) h3.out h4.out (h5.out _) ?_; intro ov' w4 hown4 hg4 hm4)
      have HST : Hid (BsRel (fun _ => False) (List.map nz) ts rows size B w w2 (i + 1) ov' (bs ++ [⟨(chunkAt rows size i).length, CA, ccap, cs⟩]) w4) := BsRel.step _ (fun k e => e.elim) Hrel.out hbx Hcs.out (fun w'' hk hS => hmod w'' hk (fun k hk => (hS k hk).trans (HSr.out k hk).symm)) hof (by rw [Hck.out]; exact hown4) hg4 hm4
      clear hown4 hg4 hm4 hownY hmod hof
      go_wp2
      go_roundw
      case rel => exact ⟨i + 1, _, if cap' = k then some ad else some (ad.add k), cap' - k, by rw [(drop_next Hm.out Hk.out).2], RRow_next2 Hrow.out Hm.out Hk.out, HST.out, .inr (by simpa using hi1)⟩
      case measure => simp [slLen]; omega
    · obtain ⟨A, cap, rfl, hg, hnil⟩ := own_grow hrel.2.1 hrel.1 (fun _ _ => rfl)
      have Hrel := Lib.hid hrel
      have hb2w := hb2.size
      have hbr : Below w.heap.size w wr := hb2.trans (hrel.2.2.1.toBelow hb2w (fun k e => e.elim))
      clear hrel
      go_wp2
      go_ret2
      obtain ⟨hl, hown, hpf, hmd, hco⟩ := Hrel.out
      have hz := hpf.size
      refine ⟨A, cap, bs, by rw [HR0.out, ← HR.out, hl]; rfl, hbr, fun w'' hk hS => ⟨?_, fun b hb => ?_⟩, fun _ => ⟨by simpa using hco, ?_, ?_⟩, fun h => absurd (HR0.out.trans HR.out.symm) h⟩
      · obtain ⟨A, cap, e, h, _⟩ := own_grow (own_keep hown (fun q h1 h2 => hk.1 q (by omega) h2)) hl (fun _ _ => rfl)
        cases e
        exact h
      · exact hmd b hb w'' hk.2 (fun q h1 h2 _ => hk.1 q (by omega) h1) hS
      · have := Hm.out
        rw [hl]
        simp
        omega
      · rw [hl]
        simpa using hi
end Go.Proofs.YtkadahfknccjfaaGreatDoor
