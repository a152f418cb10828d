/-
  slices.Grow, slices.Concat of two at rows; rowsOf of the reference of package meaning.
-/
import Derived.Test.YtcdaipkkddgbeaaQRfB
import Derived.WalkLawsBesides
import Derived.WalkSpells
import Derived.Outline
import Derived.Lib.AppendZerosOnto
import Derived.Lib.SliceRun
import Derived.OwnWalk
import Derived.Lib.Walk
namespace Go.Proofs.Ytcdaipkkddgbeaa
open Go.RowKit
theorem zeroCells_size (z : Array Value) (n : Nat) : (Builtin.zeroCells z n).size = n * z.size := by simp [Builtin.zeroCells]
theorem grow_zeros {P : Program} (w : World) (t tn e : TypeId) (i : TypeInfo) (z : Value) (sz by' : Nat) (ht : P.underlying t = some (.slice e)) (htn : P.underlying tn = some (.int .i64)) (hi : P.info? e = some i) (iz : i.zero = some z) (isz : i.size = sz) (iby : i.bytes = by') (hzs : z.cells.size = sz) (hsz : 0 < sz) (n : Nat) (h0 : 0 < n) (hn : n * by' ≤ 140737488355328) (hn63 : n ≤ 140737488355328) :
    ∃ (cp : Nat) (C : Array Value), n ≤ cp ∧ cp ≤ maxLen ∧ C.size = cp * sz ∧ ∀ ty, (Builtin.append_ #[t, tn] ty #[.slice none 0 0, .int .i64 (n : Int)]).run P w = .ok (.slice (some ⟨w.heap.size, 0, none⟩) n cp) (w.drew.alloc (.cells C e)) := by
  have hge := grownCap_ge w n 0 e
  refine ⟨grownCap w n 0 e, (([] : List Value).toArray ++ Builtin.zeroCells z.cells n ++ Builtin.zeroCells z.cells (grownCap w n 0 e - n)), hge, grownCap_le_maxLen w n 0 e (by unfold maxLen; omega), ?_, fun ty => ?_⟩
  · simp only [Array.size_append, zeroCells_size, hzs]
    rw [show ([] : List Value).toArray.size = 0 from rfl, Nat.zero_add, ← Nat.add_mul]
    congr 1
    omega
  · have h := Lib.run_append_grow_zeros (P := P) w t tn ty e i z .i64 .i64 ht htn hi iz none 0 0 [] (by simp [Builtin.firstCells]) n h0 (by omega) (by omega) (by simp; omega) (by rw [iby]; omega) (by simp only [Builtin.nextslicecap]; rw [if_pos (by omega), iby, Nat.zero_add]; omega)
    rw [Nat.zero_add] at h
    exact h
set_option maxRecDepth 100000 in
set_option maxHeartbeats 1000000 in
theorem growR_nil (n : Nat) (w : World) (hn : n * 24 ≤ 140737488355328) :
    Calls Try.prog 20 #[.slice none 0 0, .int .i64 n] w fun e w' => ∃ v, e = .returned v ∧ w'.ownsRow w.heap.size 27 1 v 0 [] ∧ Below w.heap.size w w' := by
  obtain ⟨i0, hi, iz, isz, iby⟩ := info_parts infoVals
  have h1 : ¬ ((n : Int) < 0) := by omega
  by_cases h0 : n = 0
  · subst h0
    go_enter Try.func20, Try.ntmps20
    go_wp2
    go_ret
    exact ⟨_, rfl, World.ownsRow_nil _ _ _ _, Below.refl _ _⟩
  · obtain ⟨cp, C, hcp, hcm, hC, hrz⟩ := grow_zeros (P := Try.prog) w 22 3 27 i0 _ 1 24 Try.underlying22 Try.underlying3 hi iz isz iby rfl (by decide) n (by omega) hn (by omega)
    have hp : (0 : Int) < (n : Int) := by omega
    have HC := Lib.hid hC
    have Hcm := Lib.hid hcm
    have hcp2 : cp ≤ 9223372036854775807 := by unfold maxLen at hcm; exact hcm
    clear hC hcm
    go_enter Try.func20, Try.ntmps20
    go_wp2_with (at_builtin; refine Lib.wpList_append_run _ rfl _ _ _ _ rfl _ _ rfl rfl _ _ (hrz _) ?_)
    all_goals
      go_ret
      refine ⟨_, rfl, ?_, ?_⟩
      · exact World.ownsRow_made w.drew C cp (Nat.le_refl _) Hcm.out HC.out
      · exact (Below.refl _ _).drew.alloc (Nat.le_refl _) _
def CcR (w : World) (sv : Value) (R : List VT) (wr : World) : Prop := wr.ownsRow w.heap.size 27 1 sv R.length (R.map rwV) ∧ Below w.heap.size w wr
set_option maxRecDepth 100000 in
set_option maxHeartbeats 4000000 in
theorem concatR_two (A C : Option Addr) (acap ccap : Nat) (l m : List VT) (b B : Nat) (w : World) (hr : CRow rwV B w A acap l) (hr2 : CRow rwV B w C ccap m) (hB : B ≤ w.heap.size) (hn : l.length + m.length ≤ 4194304)
    (c0 : w.cell? ⟨b, 0, none⟩ = some (.slice A l.length acap)) (c1 : w.cell? ⟨b, 1, none⟩ = some (.slice C m.length ccap)) :
    Calls Try.prog 11 #[.slice (some ⟨b, 0, none⟩) 2 2] w fun e w' => ∃ v, e = .returned v ∧ CcR w v (l ++ m) w' := by
  obtain ⟨i0, hi, iz, isz, iby⟩ := info_parts infoVals
  have hbw : b < w.heap.size := block_lt_of_cell c0
  obtain ⟨ll, hll⟩ : ∃ n, l.length = n := ⟨_, rfl⟩
  obtain ⟨ml, hml⟩ : ∃ n, m.length = n := ⟨_, rfl⟩
  rw [hll] at c0
  rw [hml] at c1
  have hlm : ll + ml ≤ 4194304 := by rw [← hll, ← hml]; exact hn
  have one : ∀ l : List VT, Hid (∀ u, u ∈ l.map rwV → u.oneCell' = true) := fun l u hu => by
    obtain ⟨x, hx, rfl⟩ := List.mem_map.1 hu
    rfl
  have H1l := one l
  have H1m := one m
  have Hsl : Hid (∀ W, Below w.heap.size w W → SrcAt W A (l.map rwV)) := fun W h => (hr.keep (Same.mono (Same.of_below h) hB)).src
  have Hsm : Hid (∀ W, Below w.heap.size w W → SrcAt W C (m.map rwV)) := fun W h => (hr2.keep (Same.mono (Same.of_below h) hB)).src
  have Hll := Lib.hid hll
  have Hml := Lib.hid hml
  have hgr0 := growR_nil (ll + ml) w (by omega)
  rw [Int.natCast_add] at hgr0
  have hgr := Lib.hid hgr0
  clear hgr0
  clear hr hr2 one hn hll hml
  go_enter Try.func11, Try.ntmps11
  go_wp2
  go_loop [3, 11] (fun s i => (s = .int .i64 0 ∧ i = .int .i64 0) ∨ (s = .int .i64 (ll : Int) ∧ i = .int .i64 1) ∨ (s = .int .i64 ((ll : Int) + (ml : Int)) ∧ i = .int .i64 2)) (fun _ i => 2 - (intOf i).toNat)
  case atStart => exact .inl ⟨rfl, rfl⟩
  case round =>
    rcases hrel with ⟨rfl, rfl⟩ | ⟨rfl, rfl⟩ | ⟨rfl, rfl⟩
    · go_wp2
      go_round
      case rel => exact .inr (.inl ⟨by simp, rfl⟩)
      case measure => simp [intOf]
    · go_wp2
      go_round
      case rel => exact .inr (.inr ⟨rfl, rfl⟩)
      case measure => simp [intOf]
    · go_wp2_with fail
      refine hgr.out.mono ?_
      rintro e w1 ⟨v, rfl, hown1, hb1⟩
      have hv0 : CcR w v [] w1 := ⟨hown1, hb1⟩
      have Hv0 := Lib.hid hv0
      clear hv0 hown1
      go_wp2
      go_loopw [6, 27] (fun sv i wr => ∃ j : Nat, i = .int .i64 j ∧ ((j = 0 ∧ CcR w sv [] wr) ∨ (j = 1 ∧ CcR w sv l wr) ∨ (j = 2 ∧ CcR w sv (l ++ m) wr))) (fun _ i _ => 2 - (intOf i).toNat)
      case atStart => exact ⟨0, rfl, .inl ⟨rfl, Hv0.out⟩⟩
      case round =>
        obtain ⟨j, rfl, ⟨rfl, hown, hb⟩ | ⟨rfl, hown, hb⟩ | ⟨rfl, hown, hb⟩⟩ := hrel
        · have d0 := (hb.cell (p := ⟨b, 0, none⟩) hbw).trans c0
          have d1 := (hb.cell (p := ⟨b, 1, none⟩) hbw).trans c1
          have hzr := hb.size
          have Hown : Hid (wr.ownsRow w.heap.size 27 1 u6 0 []) := hown
          have hm0 : Hid (0 + ll ≤ maxLen) := by show _ ≤ _; unfold maxLen; omega
          have hb0 : Hid ((0 + ll) * 24 ≤ 140737488355328) := by show _ ≤ _; omega
          have hl0 : Hid ((l.map rwV).length = ll * 1) := by show _ = _; rw [List.length_map, Hll.out, Nat.mul_one]
          have Hb := Lib.hid hb
          clear hown
          go_wp2_with (at_builtin; refine wpList_append_row _ rfl _ _ 22 rfl w.heap.size 27 i0 _ 1 24 Try.underlying22 hi iz isz iby rfl (by decide) u6 0 [] rfl Hown.out A ll acap (l.map rwV) rfl hl0.out (Hsl.out _ Hb.out) H1l.out hm0.out hb0.out hzr ?_; intro v' w2 hown2 hg2 hm2)
          go_roundw
          case rel =>
            refine ⟨1, rfl, .inr (.inl ⟨rfl, ?_, Hb.out.grown hg2 hzr (fun q hq => (Hown.out.lt q hq).1)⟩)⟩
            rw [Hll.out]
            simpa using hown2
          case measure => simp [intOf]
        · have d0 := (hb.cell (p := ⟨b, 0, none⟩) hbw).trans c0
          have d1 := (hb.cell (p := ⟨b, 1, none⟩) hbw).trans c1
          have hzr := hb.size
          have Hown : Hid (wr.ownsRow w.heap.size 27 1 u6 ll (l.map rwV)) := by have := hown; rw [Hll.out] at this; exact this
          have hm0 : Hid (ll + ml ≤ maxLen) := by show _ ≤ _; unfold maxLen; omega
          have hb0 : Hid ((ll + ml) * 24 ≤ 140737488355328) := by show _ ≤ _; omega
          have hl0 : Hid ((m.map rwV).length = ml * 1) := by show _ = _; rw [List.length_map, Hml.out, Nat.mul_one]
          have Hb := Lib.hid hb
          clear hown
          go_wp2_with (at_builtin; refine wpList_append_row _ rfl _ _ 22 rfl w.heap.size 27 i0 _ 1 24 Try.underlying22 hi iz isz iby rfl (by decide) u6 ll _ rfl Hown.out C ml ccap (m.map rwV) rfl hl0.out (Hsm.out _ Hb.out) H1m.out hm0.out hb0.out hzr ?_; intro v' w2 hown2 hg2 hm2)
          go_roundw
          case rel =>
            refine ⟨2, rfl, .inr (.inr ⟨rfl, ?_, Hb.out.grown hg2 hzr (fun q hq => (Hown.out.lt q hq).1)⟩)⟩
            rw [List.length_append, Hll.out, Hml.out, List.map_append]
            exact hown2
          case measure => simp [intOf]
        · have Hown := Lib.hid hown
          clear hown
          go_wp2
          go_ret
          exact ⟨_, rfl, Hown.out, hb⟩
set_option maxRecDepth 100000 in
set_option maxHeartbeats 4000000 in
theorem rrowsOf_any (A : Option Addr) (cap : Nat) (L : List VT) (B : Nat) (w : World) (hg : GRow itC 3 B w A cap L) (hrr : ∀ r, r ∈ L → VT.Rows B w r.a.A r.a.cap r.l) (hB : B ≤ w.heap.size) (hn : L.length ≤ 4194304) :
    Calls Try.prog 29 #[.slice A L.length cap] w fun e w' => ∃ (A' : Option Addr) (cap' : Nat), e = .returned (.slice A' L.length cap') ∧ Below w.heap.size w w' ∧ VT.RRow w'.heap.size w' A' cap' L := by
  obtain ⟨ir, hir, irz, irs, irb⟩ := info_parts infoVals
  obtain ⟨i0, hi, iz, isz, iby⟩ := info_parts infoItem
  obtain ⟨n, hnL⟩ : ∃ n, L.length = n := ⟨_, rfl⟩
  rw [hnL] at hn ⊢
  have Hg := Lib.hid hg
  have Hrr := Lib.hid hrr
  have HnL := Lib.hid hnL
  clear hg hrr hnL
  go_enter Try.func29, Try.ntmps29
  go_wp2
  go_loopw [3, 8] (fun ov i wr => ∃ j : Nat, j ≤ n ∧ i = .int .i64 j ∧ CmI w (L.take j) ov wr) (fun _ i _ => n - (intOf i).toNat)
  case atStart => exact ⟨0, Nat.zero_le _, rfl, World.ownsRow_nil _ _ _ _, PFr.refl _ _ _⟩
  case round =>
    obtain ⟨wo, rfl⟩ : ∃ wo : World, wo = wr := ⟨_, rfl⟩
    obtain ⟨j, hj, rfl, hcm⟩ := hrel
    have hbo := hcm.below
    have hSo : Same B w wo := Same.mono (Same.of_below hbo) hB
    have Hcm := Lib.hid hcm
    have Hbo := Lib.hid hbo
    by_cases hlt : j < n
    · obtain ⟨t, ad, ht, rfl, hab, hat⟩ := (Hg.out.keep hSo).get (show j < L.length by rw [HnL.out]; exact hlt)
      have d0 : wo.cell? (ad.add (j * 3)) = some (.slice t.a.A t.l.length t.a.cap) := hat 0 _ rfl
      have d1 : wo.cell? ⟨(ad.add (j * 3)).block, (ad.add (j * 3)).off + 1, none⟩ = some (.slice none 0 0) := by rw [← add_off3 _ 1 (by decide)]; exact hat 1 _ rfl
      have d2 : wo.cell? ⟨(ad.add (j * 3)).block, (ad.add (j * 3)).off + 2, none⟩ = some (.int .i64 0) := by rw [← add_off3 _ 2 (by decide)]; exact hat 2 _ rfl
      have Ht := Lib.hid ht
      have hlj : (L.take j).length = j := by rw [List.length_take, HnL.out]; omega
      obtain ⟨W4, hW4⟩ : ∃ W4, wo.alloc (.cells #[.slice t.a.A t.l.length t.a.cap, .slice none 0 0, .int .i64 0] 48) = W4 := ⟨_, rfl⟩
      have hb4 : Below wo.heap.size wo W4 := by rw [← hW4]; exact bel1 _ _
      have p0 : W4.cell? ⟨wo.heap.size, 0, none⟩ = some (.slice t.a.A t.l.length t.a.cap) := by rw [← hW4, cell_new]; rfl
      have HW4 := Lib.hid hW4
      have Hb4 := Lib.hid hb4
      have hownY : Hid (∀ o, (W4.alloc o).ownsRow w.heap.size 27 1 u3 j ((L.take j).map rwV)) := fun o => by
        have := (own_below Hcm.out.1 hb4).alloc o
        rw [hlj] at this
        exact this
      have Hlj := Lib.hid hlj
      have h3 : Hid (j + 1 ≤ maxLen) := by show _ ≤ _; unfold maxLen; omega
      have h4 : Hid ((j + 1) * 24 ≤ 140737488355328) := by show _ ≤ _; omega
      have h5 : Hid (∀ o, w.heap.size ≤ (W4.alloc o).heap.size) := fun o => by have z1 := Hbo.out.size; have z2 := hb4.size; simp; omega
      clear hW4 hb4 hat ht hcm hbo hlj
      go_upto_region 5 with (fail)
      rw [HW4.out]
      clear HW4 d0 d1 d2
      go_wp2_with (at_builtin; refine wpList_append_row _ rfl _ _ 22 rfl w.heap.size 27 ir _ 1 24 Try.underlying22 hir irz irs irb rfl (by decide) u3 j _ rfl (hownY.out _) (some ⟨W4.heap.size, 0, none⟩) 1 1 [.slice t.a.A t.l.length t.a.cap] rfl rfl (new_src3 _ _ _) (by simp [Value.oneCell']) h3.out h4.out (h5.out _) ?_; intro v' w6 hown6 hg6 hm6)
      go_roundw
      case rel =>
        refine ⟨j + 1, by omega, by simp, ?_, Hcm.out.2.trans ((PFr.below (Hb4.out.trans ((bel1 W4 (.cells #[.slice t.a.A t.l.length t.a.cap] 27)).mono Hb4.out.size))).trans (PFr.grown hg6 hm6))⟩
        rw [List.take_add_one, Ht.out, List.length_append, List.map_append, Hlj.out]
        exact hown6
      case measure => simp [intOf]; omega
    · obtain rfl : j = n := by omega
      go_wp2
      go_ret
      have eL : L.take j = L := by rw [← HnL.out]; exact List.take_length
      rw [eL] at hcm
      obtain ⟨A3, c3, rfl, hcr, _⟩ := own_list (f := rwV) hcm.1 rfl
      refine ⟨A3, c3, by rw [HnL.out]; rfl, hbo, hcr.1, hcr.2.1, fun x hx => ?_, hcr.2.2⟩
      have hR2 := (Hrr.out x hx).keep hSo
      have hz := hbo.size
      exact ⟨hR2.1.more (by omega), fun y hy => (hR2.2 y hy).more (by omega)⟩
end Go.Proofs.Ytcdaipkkddgbeaa
