/-
  Slices of numbers sorted, each number once: increasing, merged.
-/
import Derived.Test.YtlphgceejghfkaaRdA
namespace Go.Proofs.Ytlphgceejghfkaa
open Go.RowKit Go.Sort
theorem IOwn.sorted {B : Nat} {w : World} {g cap n : Nat} {os : Array Obj} {l ts : List Int} (h : IOwn B w (some ⟨g, 0, none⟩) cap l) (hne : l ≠ []) (hl : ts.length = l.length) :
    IOwn B (grow (putRow (Value.int .i64) (Sort.ahead w n) g 0 ts.toArray) os) (some ⟨g, 0, none⟩) cap ts ∧ w.grownBy (grow (putRow (Value.int .i64) (Sort.ahead w n) g 0 ts.toArray) os) (some g) := by
  refine ⟨⟨by rw [hl]; exact h.1, h.2.1, .inr ?_⟩, grownBy_sortedI _⟩
  rcases h.2.2 with rfl | ⟨g', cur, e, hb, hg, hs, ht⟩
  · exact absurd rfl hne
  · cases e
    refine ⟨g, _, rfl, hb, heap_sortedI _ hg, by simp [putCells]; omega, ?_⟩
    exact take_putCellsI cur ts (by omega)
theorem IOwn.holds {B : Nat} {w : World} {g cap : Nat} {l : List Int} (h : IOwn B w (some ⟨g, 0, none⟩) cap l) (hne : l ≠ []) : Holds (Value.int .i64) w g 0 l.toArray ∧ g < w.heap.size ∧ B ≤ g := by
  rcases h.2.2 with rfl | ⟨g', cur, e, hb, hg, hs, ht⟩
  · exact absurd rfl hne
  · cases e
    exact ⟨holds_of_blockI hg ht, (Array.getElem?_eq_some_iff.1 hg).1, hb⟩
theorem IOwn.prefix {B : Nat} {w : World} {A : Option Addr} {cap : Nat} {l m : List Int} (h : IOwn B w A cap (l ++ m)) : IOwn B w A cap l := by
  refine ⟨by have := h.1; rw [List.length_append] at this; omega, h.2.1, ?_⟩
  rcases h.2.2 with e | ⟨g, cur, e, hb, hg, hs, ht⟩
  · exact .inl (List.append_eq_nil_iff.1 e).1
  · refine .inr ⟨g, cur, e, hb, hg, by rw [List.length_append] at hs; omega, ?_⟩
    have := congrArg (List.take l.length) ht
    rw [List.take_take, List.map_append, List.length_append, Nat.min_eq_left (by omega)] at this
    rw [this, List.take_left' (by simp)]
theorem compact_nil : Lib.compact ([] : List Int) = [] := rfl
theorem compact_le (l : List Int) : (Lib.compact l).length ≤ l.length := by
  unfold Lib.compact Lib.compactUpTo
  rw [List.length_map]
  refine Nat.le_trans (List.length_filter_le _ _) ?_
  simp
theorem mergeI_le (l : List Int) : (mergeI l).length ≤ l.length := by
  unfold mergeI
  refine Nat.le_trans (compact_le _) ?_
  rw [List.length_mergeSort]
  exact Nat.le_refl _
set_option maxRecDepth 100000 in
set_option maxHeartbeats 1000000 in
theorem clipI_any (A : Option Addr) (n cap : Nat) (w : World) (h : n ≤ cap) (hc : cap ≤ 9223372036854775807) : Calls Try.prog 38 #[.slice A n cap] w fun e w' => e = .returned (.slice A n n) ∧ w' = w := by
  go_enter Try.func38, Try.ntmps38
  go_wp2
  go_ret
  exact ⟨rfl, rfl⟩
set_option maxRecDepth 100000 in
set_option maxHeartbeats 1000000 in
theorem clipR_any (A : Option Addr) (n cap : Nat) (w : World) (h : n ≤ cap) (hc : cap ≤ 9223372036854775807) : Calls Try.prog 26 #[.slice A n cap] w fun e w' => e = .returned (.slice A n n) ∧ w' = w := by
  go_enter Try.func26, Try.ntmps26
  go_wp2
  go_ret
  exact ⟨rfl, rfl⟩
theorem mergeI_nil : mergeI [] = [] := List.length_eq_zero_iff.1 (Nat.le_zero.1 (mergeI_le []))
def sortI (l : List Int) : List Int := l.mergeSort fun x y => decide (x ≤ y)
theorem sortI_len (l : List Int) : (sortI l).length = l.length := List.length_mergeSort l
theorem below_row {B g : Nat} {w w' : World} (hg : w.grownBy w' (some g)) (hb : B ≤ g) (hl : g < w.heap.size) : Below B w w' :=
  (Below.refl B w).grown hg (by omega) (fun k hk => by cases hk; exact hb)
theorem sortI_any (l : List Int) (A : Option Addr) (cap B : Nat) (w : World) (h : IOwn B w A cap l) (hn : l.length ≤ 1048576) :
    Calls Try.prog 37 #[.slice A l.length cap] w fun e w' => e = .returned (.tuple #[]) ∧ IOwn B w' A cap (sortI l) ∧ Below B w w' := by
  by_cases hne : l = []
  · subst hne
    refine (Try.slices_Sort_int_none A cap w).mono ?_
    rintro e w' ⟨rfl, rfl⟩
    exact ⟨rfl, by simpa [sortI] using h, Below.refl _ _⟩
  · obtain ⟨g, rfl⟩ : ∃ g, A = some ⟨g, 0, none⟩ := by
      rcases h.2.2 with e | ⟨g, cur, e, _⟩
      · exact absurd e hne
      · exact ⟨g, e⟩
    obtain ⟨hH, hg, hb⟩ := h.holds hne
    refine (Try.slices_Sort_int g 0 cap l w hH hg (by omega)).mono ?_
    rintro e w' ⟨rfl, n, os, rfl⟩
    obtain ⟨h1, h2⟩ := h.sorted (n := n) (os := os) (ts := sortI l) hne (sortI_len l)
    exact ⟨rfl, h1, below_row h2 hb hg⟩
theorem compactI_any (l : List Int) (A : Option Addr) (cap B : Nat) (w : World) (h : IOwn B w A cap l) (hn : l.length ≤ 1048576) :
    Calls Try.prog 39 #[.slice A l.length cap] w fun e w' => e = .returned (.slice A (Lib.compact l).length cap) ∧ IOwn B w' A cap (Lib.compact l) ∧ Below B w w' := by
  by_cases hne : l = []
  · subst hne
    refine (Try.slices_Compact_int_empty A cap w).mono ?_
    rintro e w' ⟨rfl, rfl⟩
    exact ⟨rfl, h, Below.refl _ _⟩
  · obtain ⟨g, rfl⟩ : ∃ g, A = some ⟨g, 0, none⟩ := by
      rcases h.2.2 with e | ⟨g, cur, e, _⟩
      · exact absurd e hne
      · exact ⟨g, e⟩
    obtain ⟨hH, hg, hb⟩ := h.holds hne
    refine (Try.slices_Compact_int g 0 cap l w hH (by omega) h.1).mono ?_
    rintro e w' ⟨rfl, q, rfl⟩
    have hle := compact_le l
    obtain ⟨h1, h2⟩ := h.sorted (n := q) (os := #[]) (ts := Lib.compact l ++ List.replicate (l.length - (Lib.compact l).length) 0) hne (by rw [List.length_append, List.length_replicate]; omega)
    rw [grow_empty] at h1 h2
    exact ⟨rfl, h1.prefix, below_row h2 hb hg⟩
/-- What comes back: a slice of numbers of the call's own. -/
def IPost (B : Nat) (l : List Int) (w : World) (e : Ending) (w' : World) : Prop := ∃ (A : Option Addr) (cap : Nat), e = .returned (.slice A l.length cap) ∧ IOwn B w' A cap l ∧ Below B w w'
set_option maxRecDepth 100000 in
set_option maxHeartbeats 1000000 in
theorem increasing_any (l : List Int) (A : Option Addr) (cap B : Nat) (w : World) (h : IOwn B w A cap l) (hn : l.length ≤ 1048576) :
    Calls Try.prog 22 #[.slice A l.length cap] w (IPost B (mergeI l) w) := by
  have hs := Lib.hid (sortI_any l A cap B w h hn)
  have hc : Hid (∀ w', IOwn B w' A cap (sortI l) → Calls Try.prog 39 #[.slice A l.length cap] w' fun e w'' => e = .returned (.slice A (mergeI l).length cap) ∧ IOwn B w'' A cap (mergeI l) ∧ Below B w' w'') := fun w' h' => by
    have := compactI_any (sortI l) A cap B w' h' (by rw [sortI_len]; exact hn)
    rw [sortI_len] at this
    exact this
  have hcm := h.1
  have hm := h.2.1
  unfold maxLen at hm
  have hle := mergeI_le l
  obtain ⟨n, hnn⟩ : ∃ n, l.length = n := ⟨_, rfl⟩
  obtain ⟨m, hmm⟩ : ∃ m, (mergeI l).length = m := ⟨_, rfl⟩
  rw [hnn] at hc hs ⊢ hn hcm hle
  have hcl : Hid (∀ w', Calls Try.prog 38 #[.slice A m cap] w' fun e w'' => e = .returned (.slice A m m) ∧ w'' = w') := fun w' => clipI_any A m cap w' (by omega) hm
  rw [hmm] at hc
  have Hmm := Lib.hid hmm
  clear h hnn hmm
  go_enter Try.func22, Try.ntmps22
  go_wp2_with (first | (go_at_call 37; refine hs.out.mono ?_; rintro e w1 ⟨rfl, h1, hb1⟩; have H1 := Lib.hid h1; clear h1) | (go_at_call 39; refine (hc.out _ H1.out).mono ?_; rintro e w2 ⟨rfl, h2, hb2⟩; have H2 := Lib.hid h2; clear h2) | (go_at_call 38; refine (hcl.out _).mono ?_; rintro e w3 ⟨rfl, rfl⟩))
  go_ret
  refine ⟨A, m, by rw [Hmm.out]; rfl, ?_, hb1.trans hb2⟩
  have := H2.out.clip
  rw [Hmm.out] at this
  exact this
set_option maxRecDepth 100000 in
set_option maxHeartbeats 1000000 in
theorem growI_nil (n : Nat) (w : World) (hn : n * 8 ≤ 140737488355328) :
    Calls Try.prog 101 #[.slice none 0 0, .int .i64 n] w fun e w' => ∃ v, e = .returned v ∧ w'.ownsRow w.heap.size 3 1 v 0 [] ∧ Below w.heap.size w w' := by
  obtain ⟨i0, hi, iz, isz, iby⟩ := info_parts infoInt
  have h1 : ¬ ((n : Int) < 0) := by omega
  by_cases h0 : n = 0
  · subst h0
    go_enter Try.func101, Try.ntmps101
    go_wp2
    go_ret
    exact ⟨_, rfl, World.ownsRow_nil _ _ _ _, Below.refl _ _⟩
  · obtain ⟨cp, C, hcp, hcm, hC, hrz⟩ := grow_zeros (P := Try.prog) w 37 3 3 i0 _ 1 8 Try.underlying37 Try.underlying3 hi iz isz iby rfl (by decide) n (by omega) hn (by omega)
    have hp : (0 : Int) < (n : Int) := by omega
    have HC := Lib.hid hC
    have Hcm := Lib.hid hcm
    have hcp2 : cp ≤ 9223372036854775807 := by unfold maxLen at hcm; exact hcm
    clear hC hcm
    go_enter Try.func101, Try.ntmps101
    go_wp2_with (at_builtin; refine Lib.wpList_append_run _ rfl _ _ _ _ rfl _ _ rfl rfl _ _ (hrz _) ?_)
    all_goals
      go_ret
      refine ⟨_, rfl, ?_, ?_⟩
      · exact World.ownsRow_made w.drew C cp (Nat.le_refl _) Hcm.out HC.out
      · exact (Below.refl _ _).drew.alloc (Nat.le_refl _) _
def C1Rel (B0 : Nat) (W0 : World) (l : List Int) (sv i : Value) (wr : World) : Prop :=
  ∃ j : Nat, j ≤ 1 ∧ i = .int .i64 j ∧ wr.ownsRow B0 3 1 sv (if j = 0 then 0 else l.length) (if j = 0 then [] else l.map (Value.int .i64)) ∧ Below B0 W0 wr
theorem IRow.src {w : World} {A : Option Addr} {cap : Nat} {l : List Int} (h : IRow w A cap l) : SrcAt w A (l.map (Value.int .i64)) := by
  cases l with
  | nil => exact .inl rfl
  | cons k l =>
    obtain ⟨g, cs, fr, rfl, hg, _⟩ := h.2.2 0 k rfl
    refine .inr ⟨_, rfl, fun j u hu => ?_⟩
    rw [List.getElem?_map] at hu
    obtain ⟨x, hx, rfl⟩ := Option.map_eq_some_iff.1 hu
    obtain ⟨g', _, _, e, _, hc⟩ := h.2.2 j x hx
    cases e
    have hadd : (⟨g, 0, none⟩ : Addr).add j = ⟨g, j, none⟩ := by unfold Addr.add; split <;> simp_all
    rw [hadd]
    exact hc
set_option maxRecDepth 100000 in
set_option maxHeartbeats 4000000 in
theorem concatI_one (A : Option Addr) (acap : Nat) (l : List Int) (b : Nat) (w : World) (hr : IRow w A acap l) (hn : l.length ≤ 1048576) (c0 : w.cell? ⟨b, 0, none⟩ = some (.slice A l.length acap)) :
    Calls Try.prog 81 #[.slice (some ⟨b, 0, none⟩) 1 1] w fun e w' => ∃ v, e = .returned v ∧ w'.ownsRow w.heap.size 3 1 v l.length (l.map (Value.int .i64)) ∧ Below w.heap.size w w' := by
  obtain ⟨i0, hi, iz, isz, iby⟩ := info_parts infoInt
  have hbw : b < w.heap.size := cell_lt c0
  have Hsl : Hid (∀ W, Below w.heap.size w W → SrcAt W A (l.map (Value.int .i64))) := fun W h => (hr.keep (KeepI.below h)).src
  obtain ⟨ll, hll⟩ : ∃ n, l.length = n := ⟨_, rfl⟩
  rw [hll] at c0 hn ⊢
  have Hll := Lib.hid hll
  have hgr0 := growI_nil ll w (by omega)
  have hgr := Lib.hid hgr0
  clear hgr0 hr hll
  go_enter Try.func81, Try.ntmps81
  go_wp2
  go_loop [3, 11] (fun s i => (s = .int .i64 0 ∧ i = .int .i64 0) ∨ (s = .int .i64 (ll : Int) ∧ i = .int .i64 1)) (fun _ i => 1 - (intOf i).toNat)
  case atStart => exact .inl ⟨rfl, rfl⟩
  case round =>
    rcases hrel with ⟨rfl, rfl⟩ | ⟨rfl, rfl⟩
    · go_wp2
      go_round
      case rel => exact .inr ⟨by simp, rfl⟩
      case measure => simp [intOf]
    · go_wp2_with fail
      refine hgr.out.mono ?_
      rintro e w1 ⟨v, rfl, hown1, hb1⟩
      have Hv0 : Hid (C1Rel w.heap.size w l v (.int .i64 0) w1) := ⟨0, by omega, rfl, hown1, hb1⟩
      clear hown1
      go_wp2
      go_loopw [6, 27] (fun sv i wr => C1Rel w.heap.size w l sv i wr) (fun _ i _ => 1 - (intOf i).toNat)
      case atStart => exact Hv0.out
      case round =>
        obtain ⟨j, hj, rfl, hown, hb⟩ := hrel
        have d0 := (hb.cell (p := ⟨b, 0, none⟩) hbw).trans c0
        have hzr := hb.size
        have Hown := Lib.hid hown
        obtain rfl | rfl : j = 0 ∨ j = 1 := by omega
        · have hm0 : Hid (0 + ll ≤ maxLen) := by show _ ≤ _; unfold maxLen; omega
          have hb0 : Hid ((0 + ll) * 8 ≤ 140737488355328) := by show _ ≤ _; omega
          have hl0 : Hid ((l.map (Value.int .i64)).length = ll * 1) := by show _ = _; rw [List.length_map, Hll.out, Nat.mul_one]
          have h1l : Hid (∀ u ∈ l.map (Value.int .i64), u.oneCell' = true) := fun u hu => by obtain ⟨x, _, rfl⟩ := List.mem_map.1 hu; rfl
          clear hown
          go_wp2_with (at_builtin; refine wpList_append_row _ rfl _ _ 37 rfl w.heap.size 3 i0 _ 1 8 Try.underlying37 hi iz isz iby rfl (by decide) u6 0 [] rfl Hown.out A ll acap (l.map (Value.int .i64)) rfl hl0.out (Hsl.out _ hb) h1l.out hm0.out hb0.out hzr ?_; intro v' w2 hown2 hg2 hm2)
          have Hst : Hid (C1Rel w.heap.size w l v' (.int .i64 1) w2) := ⟨1, by omega, rfl, by simpa [Hll.out] using hown2, hb.grown hg2 hzr (fun q hq => (Hown.out.lt q hq).1)⟩
          clear hown2
          go_roundw
          case rel => exact Hst.out
          case measure => simp [intOf]
        · clear hown
          go_wp2
          go_ret
          exact ⟨_, rfl, by simpa [Hll.out] using Hown.out, hb⟩
set_option maxRecDepth 100000 in
set_option maxHeartbeats 1000000 in
theorem merged_any (l : List Int) (A : Option Addr) (acap b : Nat) (w : World) (hr : IRow w A acap l) (hn : l.length ≤ 1048576) (c0 : w.cell? ⟨b, 0, none⟩ = some (.slice A l.length acap)) :
    Calls Try.prog 58 #[.slice (some ⟨b, 0, none⟩) 1 1] w (IPost w.heap.size (mergeI l) w) := by
  have hcc := Lib.hid (concatI_one A acap l b w hr hn c0)
  have hs : Hid (∀ A cap w', IOwn w.heap.size w' A cap l → Calls Try.prog 37 #[.slice A l.length cap] w' fun e w'' => e = .returned (.tuple #[]) ∧ IOwn w.heap.size w'' A cap (sortI l) ∧ Below w.heap.size w' w'') := fun A cap w' h => sortI_any l A cap w.heap.size w' h hn
  have hc : Hid (∀ A cap w', IOwn w.heap.size w' A cap (sortI l) → Calls Try.prog 39 #[.slice A l.length cap] w' fun e w'' => e = .returned (.slice A (mergeI l).length cap) ∧ IOwn w.heap.size w'' A cap (mergeI l) ∧ Below w.heap.size w' w'') := fun A cap w' h' => by
    have := compactI_any (sortI l) A cap w.heap.size w' h' (by rw [sortI_len]; exact hn)
    rw [sortI_len] at this
    exact this
  clear hr hn c0
  go_enter Try.func58, Try.ntmps58
  go_wp2_with fail
  refine hcc.out.mono ?_
  rintro e w1 ⟨v, rfl, hown, hb1⟩
  obtain ⟨A1, cap1, rfl, _, _, _, _⟩ := own_src hown
  have H1 := Lib.hid (IOwn.of_own hown)
  clear hown
  go_wp2_with (first | (go_at_call 37; refine (hs.out _ _ _ H1.out).mono ?_; rintro e w2 ⟨rfl, h1, hb2⟩; have H2 := Lib.hid h1; clear h1) | (go_at_call 39; refine (hc.out _ _ _ H2.out).mono ?_; rintro e w3 ⟨rfl, h2, hb3⟩; have H3 := Lib.hid h2; clear h2))
  go_ret
  exact ⟨_, _, rfl, H3.out, hb1.trans (hb2.trans hb3)⟩
end Go.Proofs.Ytlphgceejghfkaa
