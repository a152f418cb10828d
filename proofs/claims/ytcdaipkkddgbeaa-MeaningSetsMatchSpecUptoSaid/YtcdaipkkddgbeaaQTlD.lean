/-
  Package meaning: combine.
-/
import Derived.Test.YtcdaipkkddgbeaaQTlC
namespace Go.Proofs.Ytcdaipkkddgbeaa
open Go.RowKit
/-- The rows of the result of a set operation. -/
def expR (op : Int) (all : Bool) (T : List TT) : List VT := T.flatMap fun t => List.replicate (timesN op all t.a t.b) t.row
theorem exp_len (op : Int) (all : Bool) : ∀ T, (expR op all T).length ≤ tsum T
  | [] => Nat.le_refl _
  | t :: T => by
    have := exp_len op all T
    have h := timesN_le op all t.a t.b
    show (List.replicate _ _ ++ expR op all T).length ≤ t.a + t.b + tsum T
    rw [List.length_append, List.length_replicate]
    omega
theorem tsum_take : ∀ (T : List TT) (j : Nat) (t : TT), T[j]? = some t → tsum (T.take j) + (t.a + t.b) ≤ tsum T
  | [], j, t, h => by simp at h
  | x :: T, 0, t, h => by
    simp at h
    subst h
    show 0 + _ ≤ x.a + x.b + tsum T
    omega
  | x :: T, j + 1, t, h => by
    have := tsum_take T j t (by simpa using h)
    show x.a + x.b + tsum (T.take j) + _ ≤ x.a + x.b + tsum T
    omega
theorem exp_take (op : Int) (all : Bool) {T : List TT} {j : Nat} {t : TT} (h : T[j]? = some t) : expR op all (T.take (j + 1)) = expR op all (T.take j) ++ List.replicate (timesN op all t.a t.b) t.row := by
  rw [List.take_add_one, h]
  unfold expR
  rw [List.flatMap_append]
  simp
/-- The rows that were put together. -/
def CmI (w1 : World) (R : List VT) (ov : Value) (wr : World) : Prop := wr.ownsRow w1.heap.size 27 1 ov R.length (R.map rwV) ∧ PFr (fun _ => False) w1 (.slice none 0 0) wr ov
theorem CmI.below {w1 wr : World} {R : List VT} {ov : Value} (h : CmI w1 R ov wr) : Below w1.heap.size w1 wr := h.2.toBelow (Nat.le_refl _) (fun _k e => e.elim)
theorem CmI.on {w1 wr wx : World} {R : List VT} {ov : Value} (h : CmI w1 R ov wr) (hb : Below wr.heap.size wr wx) : CmI w1 R ov wx := ⟨own_below h.1 hb, h.2.trans (PFr.below hb)⟩
theorem add_off3 (q : Addr) (i : Nat) (h : 0 < i) : q.add i = ⟨q.block, q.off + i, none⟩ := by unfold Addr.add; split <;> simp_all
/-- What combine comes to. -/
def CmPost (op : Int) (all : Bool) (a b : List VT) (_B : Nat) (w : World) (e : Ending) (w' : World) : Prop :=
  ∃ (A : Option Addr) (cap : Nat) (T : List TT), e = .returned (.slice A (expR op all T).length cap) ∧ Below w.heap.size w w' ∧ TalOk a b T ∧ (∀ t, t ∈ T → t.row ∈ a ∨ t.row ∈ b) ∧ (expR op all T).length ≤ a.length + b.length ∧
    VT.RRow w'.heap.size w' A cap (expR op all T)
/-- The tally at hand, in a block of its own. -/
structure InC (W4 : World) (g : Nat) (t : TT) (ov : Value) (wr : World) : Prop where
  blk : wr.heap[g]? = some (.cells #[.slice t.row.a.A t.row.l.length t.row.a.cap, .int .i64 t.a, .int .i64 t.b] 38 (0, 0))
  ne : some g ≠ ov.ownBlock
set_option maxRecDepth 100000 in
set_option maxHeartbeats 8000000 in
theorem mcombine_any (op : Int) (all : Bool) (A A2 : Option Addr) (cap cap2 : Nat) (a b : List VT) (B : Nat) (w : World) (hop : I64 op) (ha : VT.RRow B w A cap a) (hb : VT.RRow B w A2 cap2 b) (hB : B ≤ w.heap.size) (hn : a.length ≤ 1048576) (hn2 : b.length ≤ 1048576) :
    Calls Try.prog 9 #[.int .i64 op, .bool all, .slice A a.length cap, .slice A2 b.length cap2] w (CmPost op all a b B w) := by
  obtain ⟨i0, hi, iz, isz, iby⟩ := info_parts infoTally
  obtain ⟨ir, hir, irz, irs, irb⟩ := info_parts infoVals
  have h1 := Lib.hid (tallies_any A A2 cap cap2 a b B w ha hb hB hn hn2)
  have Ha := Lib.hid ha
  have Hb := Lib.hid hb
  have Hop := Lib.hid hop
  clear ha hb hop
  go_enter Try.func9, Try.ntmps9
  go_wp2_with fail
  refine h1.out.mono ?_
  rintro e w1 ⟨A1, c1, T, rfl, hb1, hts, htal, hmem, hrow⟩
  obtain ⟨n, hnT⟩ : ∃ n, T.length = n := ⟨_, rfl⟩
  rw [hnT]
  have Hts := Lib.hid hts
  have Htal := Lib.hid htal
  have Hmem := Lib.hid hmem
  have Hrow := Lib.hid hrow
  have HnT := Lib.hid hnT
  have HN : Hid (a.length + b.length ≤ 2097152) := by show _ ≤ _; omega
  have hnm : n ≤ 9223372036854775807 := by
    have q1 := hrow.1
    have q2 := hrow.2.1
    unfold maxLen at q2
    omega
  clear hts htal hmem hrow hnT hn hn2 h1
  go_wp2
  go_loopw [9, 16] (fun ov i wr => ∃ j : Nat, j ≤ n ∧ i = .int .i64 j ∧ CmI w1 (expR op all (T.take j)) ov wr) (fun _ i _ => n - (intOf i).toNat)
  case atStart => exact ⟨0, Nat.zero_le _, rfl, World.ownsRow_nil _ _ _ _, PFr.refl _ _ _⟩
  case round =>
    obtain ⟨wo, rfl⟩ : ∃ wo : World, wo = wr := ⟨_, rfl⟩
    obtain ⟨j, hj, rfl, hcm⟩ := hrel
    have hbo := hcm.below
    have Hcm := Lib.hid hcm
    have Hbo := Lib.hid hbo
    by_cases hlt : j < n
    · obtain ⟨t, ad, ht, rfl, hab, hat⟩ := (Hrow.out.keep (Same.of_below hbo)).get (show j < T.length by rw [HnT.out]; exact hlt)
      have d0 : wo.cell? (ad.add (j * 3)) = some (.slice t.row.a.A t.row.l.length t.row.a.cap) := hat 0 _ rfl
      have d1 : wo.cell? ⟨(ad.add (j * 3)).block, (ad.add (j * 3)).off + 1, none⟩ = some (.int .i64 t.a) := by rw [← add_off3 _ 1 (by decide)]; exact hat 1 _ rfl
      have d2 : wo.cell? ⟨(ad.add (j * 3)).block, (ad.add (j * 3)).off + 2, none⟩ = some (.int .i64 t.b) := by rw [← add_off3 _ 2 (by decide)]; exact hat 2 _ rfl
      have htk := tsum_take T j t ht
      have hel := exp_len op all (T.take j)
      have htl := timesN_le op all t.a t.b
      have hab4 : t.a + t.b ≤ 4194304 := by have := Hts.out; have := HN.out; omega
      obtain ⟨tn, htn⟩ : ∃ tn, timesN op all t.a t.b = tn := ⟨_, rfl⟩
      have hti : Hid (∀ W, Calls Try.prog 18 #[.int .i64 op, .bool all, .agg #[.slice t.row.a.A t.row.l.length t.row.a.cap, .int .i64 t.a, .int .i64 t.b]] W fun e w' => e = .returned (.int .i64 tn) ∧ Below W.heap.size W w') := fun W => by
        have := times_m op all (.slice t.row.a.A t.row.l.length t.row.a.cap) t.a t.b W Hop.out hab4 rfl
        rw [htn] at this
        exact this
      have hsz : Hid ((expR op all (T.take j)).length + tn ≤ 2097152) := by show _ ≤ _; have := Hts.out; have := HN.out; omega
      have hex : Hid (expR op all (T.take (j + 1)) = expR op all (T.take j) ++ List.replicate tn t.row) := by show _ = _; rw [exp_take op all ht, htn]
      have htb : tn ≤ 2097152 := by have := hsz.out; omega
      have Ht := Lib.hid ht
      obtain ⟨W4, hW4⟩ : ∃ W4, wo.alloc (.cells #[.slice t.row.a.A t.row.l.length t.row.a.cap, .int .i64 t.a, .int .i64 t.b] 38) = W4 := ⟨_, rfl⟩
      have hb4 : Below wo.heap.size wo W4 := by rw [← hW4]; exact bel1 _ _
      have Q4 : W4.heap[wo.heap.size]? = some (.cells #[.slice t.row.a.A t.row.l.length t.row.a.cap, .int .i64 t.a, .int .i64 t.b] 38 (0, 0)) := by rw [← hW4]; exact heap_alloc_new _ _
      have p0 : W4.cell? ⟨wo.heap.size, 0, none⟩ = some (.slice t.row.a.A t.row.l.length t.row.a.cap) := by simp [World.cell?, Q4]
      have p1 : W4.cell? ⟨wo.heap.size, 1, none⟩ = some (.int .i64 t.a) := by simp [World.cell?, Q4]
      have p2 : W4.cell? ⟨wo.heap.size, 2, none⟩ = some (.int .i64 t.b) := by simp [World.cell?, Q4]
      have HW4 := Lib.hid hW4
      have Hb4 := Lib.hid hb4
      have HQ4 := Lib.hid Q4
      clear hW4 hb4 Q4 hat htk hel htl hab4 htn ht hcm hbo
      go_upto_region 5 with (fail)
      rw [HW4.out]
      clear HW4 d0 d1 d2
      go_wp2_with fail
      refine hti.out _ |>.mono ?_
      rintro e w5 ⟨rfl, hb5⟩
      have hzne : some wo.heap.size ≠ u9.ownBlock := fun e => by have := (Hcm.out.1.lt _ e.symm).2; omega
      have Hic : Hid (InC W4 wo.heap.size t u9 w5) := ⟨(hb5.block _ (Array.getElem?_eq_some_iff.1 HQ4.out).1).trans HQ4.out, hzne⟩
      have HcmX : Hid (CmI w1 (expR op all (T.take j)) u9 w5) := Hcm.out.on (Hb4.out.trans (hb5.mono Hb4.out.size))
      clear hb5 hzne hti p0 p1 p2
      go_wp2
      go_loopw [9, 24] (fun ov i wr => ∃ k : Nat, k ≤ tn ∧ i = .int .i64 k ∧ CmI w1 (expR op all (T.take j) ++ List.replicate k t.row) ov wr ∧ InC W4 wo.heap.size t ov wr) (fun _ i _ => tn - (intOf i).toNat)
      case atStart => exact ⟨0, Nat.zero_le _, rfl, by simpa using HcmX.out, Hic.out⟩
      case round =>
        obtain ⟨wi, rfl⟩ : ∃ wi : World, wi = wr := ⟨_, rfl⟩
        obtain ⟨k, hk, rfl, hci, hin⟩ := hrel
        have Hci := Lib.hid hci
        have Hin := Lib.hid hin
        clear hci hin
        by_cases hkl : k < tn
        · have p0 : wi.cell? ⟨wo.heap.size, 0, none⟩ = some (.slice t.row.a.A t.row.l.length t.row.a.cap) := by simp [World.cell?, Hin.out.blk]
          obtain ⟨m, hm⟩ : ∃ m, (expR op all (T.take j) ++ List.replicate k t.row).length = m := ⟨_, rfl⟩
          have Hm := Lib.hid hm
          have hownY : Hid (∀ o, (wi.alloc o).ownsRow w1.heap.size 27 1 u9 m ((expR op all (T.take j) ++ List.replicate k t.row).map rwV)) := fun o => by
            have := Hci.out.1.alloc o
            rw [hm] at this
            exact this
          have hmz : m + 1 ≤ 2097152 := by
            have := hsz.out
            rw [← hm, List.length_append, List.length_replicate]
            omega
          have h3 : Hid (m + 1 ≤ maxLen) := by show _ ≤ _; unfold maxLen; omega
          have h4 : Hid ((m + 1) * 24 ≤ 140737488355328) := by show _ ≤ _; omega
          have h5 : Hid (∀ o, w1.heap.size ≤ (wi.alloc o).heap.size) := fun o => by have := Hci.out.2.size; simp; omega
          clear hm
          go_wp2_with (at_builtin; refine wpList_append_row _ rfl _ _ 22 rfl w1.heap.size 27 ir _ 1 24 Try.underlying22 hir irz irs irb rfl (by decide) u9 m _ rfl (hownY.out _) (some ⟨wi.heap.size, 0, none⟩) 1 1 [.slice t.row.a.A t.row.l.length t.row.a.cap] rfl rfl (new_src3 _ _ _) (by simp [Value.oneCell']) h3.out h4.out (h5.out _) ?_; intro v' w6 hown6 hg6 hm6)
          go_roundw
          case rel =>
            have hbw : Below wi.heap.size wi (wi.alloc (.cells #[.slice t.row.a.A t.row.l.length t.row.a.cap] 27)) := bel1 _ _
            have hlt2 := (Array.getElem?_eq_some_iff.1 Hin.out.blk).1
            refine ⟨k + 1, by omega, by simp, ⟨?_, Hci.out.2.trans ((PFr.below hbw).trans (PFr.grown hg6 hm6))⟩, ⟨?_, ?_⟩⟩
            · have e1 : expR op all (T.take j) ++ List.replicate (k + 1) t.row = (expR op all (T.take j) ++ List.replicate k t.row) ++ [t.row] := by
                rw [List.replicate_succ', List.append_assoc]
              rw [e1, List.length_append, List.map_append, Hm.out]
              exact hown6
            · exact (hg6.block _ (by simp; omega) Hin.out.ne).trans ((hbw.block _ hlt2).trans Hin.out.blk)
            · rcases hm6 with h | h
              · rw [h]; exact Hin.out.ne
              · intro e
                have := h _ e.symm
                simp at this
                omega
          case measure => simp [intOf]; omega
        · obtain rfl : k = tn := by omega
          go_wp2
          go_roundw
          case rel =>
            refine ⟨j + 1, by omega, by simp, ?_⟩
            rw [hex.out]
            exact Hci.out
          case measure => simp [intOf]; omega
    · obtain rfl : j = n := by omega
      go_wp2
      go_ret
      have eT : T.take j = T := by rw [← HnT.out]; exact List.take_length
      rw [eT] at hcm
      obtain ⟨A3, c3, rfl, hcr, _⟩ := own_list (f := rwV) hcm.1 rfl
      have hel := exp_len op all T
      have hts := Hts.out
      refine ⟨A3, c3, T, rfl, hb1.trans (hbo.mono hb1.size), Htal.out, Hmem.out, by omega, hcr.1, hcr.2.1, fun x hx => ?_, hcr.2.2⟩
      obtain ⟨t, ht, hxr⟩ := List.mem_flatMap.1 hx
      rw [List.mem_replicate] at hxr
      rw [hxr.2]
      have hbw := hb1.trans (hbo.mono hb1.size)
      have hR : VT.Rows B w t.row.a.A t.row.a.cap t.row.l := by
        rcases Hmem.out t ht with h | h
        · exact Ha.out.2.2.1 _ h
        · exact Hb.out.2.2.1 _ h
      have hR2 := hR.keep (Same.mono (Same.of_below hbw) hB)
      have hz := hbw.size
      exact ⟨hR2.1.more (by omega), fun y hy => (hR2.2 y hy).more (by omega)⟩
end Go.Proofs.Ytcdaipkkddgbeaa
