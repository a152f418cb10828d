/-
  Slices of numbers in memory; increasing.
  Plain: numbers in order, each once, are told by which they are.
  plan.Columns' closure.
-/
import Derived.Test.YthijagpnpcpcbaaGreatQGtP
import Derived.Test.YthijagpnpcpcbaaGreatQGtSa
import Derived.Test.YthijagpnpcpcbaaGreatQShelf
import Derived.Sort.OwnSortedInts
namespace Go.Proofs.YthijagpnpcpcbaaGreat
open Go.RowKit Go.Sort
/-- Numbers in order, each once. -/
def mergeI (l : List Int) : List Int := Lib.compact (l.mergeSort fun x y => decide (x ≤ y))
/-- Numbers can be read there. -/
def IRow (w : World) (A : Option Addr) (cap : Nat) (l : List Int) : Prop :=
  l.length ≤ cap ∧ cap ≤ maxLen ∧ ∀ (i : Nat) (k : Int), l[i]? = some k → ∃ (g : Nat) (cs : Array Value) (fr : Nat × Nat), A = some ⟨g, 0, none⟩ ∧ w.heap[g]? = some (.cells cs 3 fr) ∧ w.cell? ⟨g, i, none⟩ = some (.int .i64 k)
/-- A slice of numbers that the call owns. -/
def IOwn (B : Nat) (w : World) (A : Option Addr) (cap : Nat) (l : List Int) : Prop :=
  l.length ≤ cap ∧ cap ≤ maxLen ∧ (l = [] ∨ ∃ (g : Nat) (cur : Array Value), A = some ⟨g, 0, none⟩ ∧ B ≤ g ∧ w.heap[g]? = some (.cells cur 3 (0, 0)) ∧ l.length ≤ cur.size ∧ cur.toList.take l.length = l.map (Value.int .i64))
theorem IOwn.row {B : Nat} {w : World} {A : Option Addr} {cap : Nat} {l : List Int} (h : IOwn B w A cap l) : IRow w A cap l := by
  refine ⟨h.1, h.2.1, fun i k hi => ?_⟩
  rcases h.2.2 with rfl | ⟨g, cur, rfl, _, hg, hs, ht⟩
  · simp at hi
  · refine ⟨g, cur, (0, 0), rfl, hg, ?_⟩
    have hl := (List.getElem?_eq_some_iff.1 hi).1
    rw [cell_of_row _ _ _ _ _ _ hg, ← Array.getElem?_toList, ← List.getElem?_take_of_lt hl, ht, List.getElem?_map, hi]
    rfl
theorem IOwn.of_own {B : Nat} {w : World} {A : Option Addr} {n cap : Nat} {l : List Int} (h : w.ownsRow B 3 1 (.slice A n cap) n (l.map (Value.int .i64))) : IOwn B w A cap l := by
  have hl : l.length = n := by simpa using h.1
  subst hl
  rcases h.2 with ⟨e, h0⟩ | ⟨g, cap', cur, e, hb, hg, h1, h2, h3, h4⟩
  · have e2 : cap = 0 := by injection e
    exact ⟨by omega, by omega, .inl (List.length_eq_zero_iff.1 h0)⟩
  · cases e
    rw [Nat.mul_one] at h3 h4
    exact ⟨h1, h2, .inr ⟨g, cur, rfl, hb, hg, by omega, h4⟩⟩
theorem IOwn.clip {B : Nat} {w : World} {A : Option Addr} {cap : Nat} {l : List Int} (h : IOwn B w A cap l) : IOwn B w A l.length l := ⟨Nat.le_refl _, Nat.le_trans h.1 h.2.1, h.2.2⟩
/-- All blocks of numbers stay. -/
def KeepI (w w' : World) : Prop := ∀ (k : Nat) (cs : Array Value) (fr : Nat × Nat), w.heap[k]? = some (.cells cs 3 fr) → w'.heap[k]? = w.heap[k]?
theorem KeepI.refl (w : World) : KeepI w w := fun _ _ _ _ => rfl
theorem KeepI.trans {a b c : World} (h : KeepI a b) (h' : KeepI b c) : KeepI a c := fun k cs fr hk => (h' k cs fr ((h k cs fr hk).trans hk)).trans (h k cs fr hk)
theorem KeepI.below {w w' : World} (h : Below w.heap.size w w') : KeepI w w' := fun k _ _ hk => h.block k (Array.getElem?_eq_some_iff.1 hk).1
theorem KeepI.grown {w w' : World} {B e n : Nat} {v : Value} {xs : List Value} (hown : w.ownsRow B e 1 v n xs) (he : e ≠ 3) (hg : w.grownBy w' v.ownBlock) : KeepI w w' := fun k cs fr hk => by
  refine hg.block k (Array.getElem?_eq_some_iff.1 hk).1 fun e1 => ?_
  rcases hown.2 with ⟨rfl, _⟩ | ⟨g, cap, cur, rfl, _, hg2, _⟩
  · cases e1
  · cases e1
    rw [hg2] at hk
    cases hk
    exact he rfl
theorem IRow.keep {w w' : World} {A : Option Addr} {cap : Nat} {l : List Int} (h : IRow w A cap l) (hk : KeepI w w') : IRow w' A cap l := by
  refine ⟨h.1, h.2.1, fun i k hi => ?_⟩
  obtain ⟨g, cs, fr, e, hg, hc⟩ := h.2.2 i k hi
  have := hk g cs fr hg
  exact ⟨g, cs, fr, e, this.trans hg, (World.cell?_of_block (a := ⟨g, i, none⟩) this).trans hc⟩
theorem IOwn.sorted {B : Nat} {w : World} {g cap n : Nat} {os : Array Obj} {l ts : List Int} (h : IOwn B w (some ⟨g, 0, none⟩) cap l) (hne : l ≠ []) (hl : ts.length = l.length) :
    IOwn B (grow (putRow (Value.int .i64) (Sort.ahead w n) g 0 ts.toArray) os) (some ⟨g, 0, none⟩) cap ts ∧ w.grownBy (grow (putRow (Value.int .i64) (Sort.ahead w n) g 0 ts.toArray) os) (some g) := by
  refine ⟨⟨by rw [hl]; exact h.1, h.2.1, .inr ?_⟩, grownBy_sortedI _⟩
  rcases h.2.2 with rfl | ⟨g', cur, e, hb, hg, hs, ht⟩
  · exact absurd rfl hne
  · cases e
    refine ⟨g, _, rfl, hb, heap_sortedI _ hg, by simp [putCells]; omega, ?_⟩
    exact take_putCellsI cur ts (by omega)
theorem IOwn.holds {B : Nat} {w : World} {g cap : Nat} {l : List Int} (h : IOwn B w (some ⟨g, 0, none⟩) cap l) (hne : l ≠ []) : Holds (Value.int .i64) w g 0 l.toArray ∧ g < w.heap.size ∧ B ≤ g := by
  rcases h.2.2 with rfl | ⟨g', cur, e, hb, hg, hs, ht⟩
  · exact absurd rfl hne
  · cases e
    exact ⟨holds_of_blockI hg ht, (Array.getElem?_eq_some_iff.1 hg).1, hb⟩
theorem IOwn.prefix {B : Nat} {w : World} {A : Option Addr} {cap : Nat} {l m : List Int} (h : IOwn B w A cap (l ++ m)) : IOwn B w A cap l := by
  refine ⟨by have := h.1; rw [List.length_append] at this; omega, h.2.1, ?_⟩
  rcases h.2.2 with e | ⟨g, cur, e, hb, hg, hs, ht⟩
  · exact .inl (List.append_eq_nil_iff.1 e).1
  · refine .inr ⟨g, cur, e, hb, hg, by rw [List.length_append] at hs; omega, ?_⟩
    have := congrArg (List.take l.length) ht
    rw [List.take_take, List.map_append, List.length_append, Nat.min_eq_left (by omega)] at this
    rw [this, List.take_left' (by simp)]
theorem compact_le (l : List Int) : (Lib.compact l).length ≤ l.length := by
  unfold Lib.compact Lib.compactUpTo
  rw [List.length_map]
  refine Nat.le_trans (List.length_filter_le _ _) ?_
  simp
theorem mergeI_le (l : List Int) : (mergeI l).length ≤ l.length := by
  unfold mergeI
  refine Nat.le_trans (compact_le _) ?_
  rw [List.length_mergeSort]
  exact Nat.le_refl _
set_option maxRecDepth 100000 in
set_option maxHeartbeats 1000000 in
theorem clipI_any (A : Option Addr) (n cap : Nat) (w : World) (h : n ≤ cap) (_hc : cap ≤ 9223372036854775807) : Calls Tryz.prog 52 #[.slice A n cap] w fun e w' => e = .returned (.slice A n n) ∧ w' = w := by
  go_enter Tryz.func52, Tryz.ntmps52
  go_wp2
  go_ret
  exact ⟨rfl, rfl⟩
def sortI (l : List Int) : List Int := l.mergeSort fun x y => decide (x ≤ y)
theorem sortI_len (l : List Int) : (sortI l).length = l.length := List.length_mergeSort l
theorem below_row {B g : Nat} {w w' : World} (hg : w.grownBy w' (some g)) (hb : B ≤ g) (hl : g < w.heap.size) : Below B w w' :=
  (Below.refl B w).grown hg (by omega) (fun k hk => by cases hk; exact hb)
theorem sortI_any (l : List Int) (A : Option Addr) (cap B : Nat) (w : World) (h : IOwn B w A cap l) (hn : l.length ≤ 1048576) :
    Calls Tryz.prog 34 #[.slice A l.length cap] w fun e w' => e = .returned (.tuple #[]) ∧ IOwn B w' A cap (sortI l) ∧ Below B w w' := by
  by_cases hne : l = []
  · subst hne
    refine (Tryz.slices_Sort_int_none A cap w).mono ?_
    rintro e w' ⟨rfl, rfl⟩
    exact ⟨rfl, by simpa [sortI] using h, Below.refl _ _⟩
  · obtain ⟨g, rfl⟩ : ∃ g, A = some ⟨g, 0, none⟩ := by
      rcases h.2.2 with e | ⟨g, cur, e, _⟩
      · exact absurd e hne
      · exact ⟨g, e⟩
    obtain ⟨hH, hg, hb⟩ := h.holds hne
    refine (Tryz.slices_Sort_int g 0 cap l w hH hg (by omega)).mono ?_
    rintro e w' ⟨rfl, n, os, rfl⟩
    obtain ⟨h1, h2⟩ := h.sorted (n := n) (os := os) (ts := sortI l) hne (sortI_len l)
    exact ⟨rfl, h1, below_row h2 hb hg⟩
theorem compactI_any (l : List Int) (A : Option Addr) (cap B : Nat) (w : World) (h : IOwn B w A cap l) (hn : l.length ≤ 1048576) :
    Calls Tryz.prog 53 #[.slice A l.length cap] w fun e w' => e = .returned (.slice A (Lib.compact l).length cap) ∧ IOwn B w' A cap (Lib.compact l) ∧ Below B w w' := by
  by_cases hne : l = []
  · subst hne
    refine (Tryz.slices_Compact_int_empty A cap w).mono ?_
    rintro e w' ⟨rfl, rfl⟩
    exact ⟨rfl, h, Below.refl _ _⟩
  · obtain ⟨g, rfl⟩ : ∃ g, A = some ⟨g, 0, none⟩ := by
      rcases h.2.2 with e | ⟨g, cur, e, _⟩
      · exact absurd e hne
      · exact ⟨g, e⟩
    obtain ⟨hH, hg, hb⟩ := h.holds hne
    refine (Tryz.slices_Compact_int g 0 cap l w hH (by omega) h.1).mono ?_
    rintro e w' ⟨rfl, q, rfl⟩
    have hle := compact_le l
    obtain ⟨h1, h2⟩ := h.sorted (n := q) (os := #[]) (ts := Lib.compact l ++ List.replicate (l.length - (Lib.compact l).length) 0) hne (by rw [List.length_append, List.length_replicate]; omega)
    rw [grow_empty] at h1 h2
    exact ⟨rfl, h1.prefix, below_row h2 hb hg⟩
/-- What comes back: a slice of numbers of the call's own. -/
def IPost (B : Nat) (l : List Int) (w : World) (e : Ending) (w' : World) : Prop := ∃ (A : Option Addr) (cap : Nat), e = .returned (.slice A l.length cap) ∧ IOwn B w' A cap l ∧ Below B w w'
set_option maxRecDepth 100000 in
set_option maxHeartbeats 1000000 in
theorem increasing_any (l : List Int) (A : Option Addr) (cap B : Nat) (w : World) (h : IOwn B w A cap l) (hn : l.length ≤ 1048576) :
    Calls Tryz.prog 32 #[.slice A l.length cap] w (IPost B (mergeI l) w) := by
  have hs := Lib.hid (sortI_any l A cap B w h hn)
  have hc : Hid (∀ w', IOwn B w' A cap (sortI l) → Calls Tryz.prog 53 #[.slice A l.length cap] w' fun e w'' => e = .returned (.slice A (mergeI l).length cap) ∧ IOwn B w'' A cap (mergeI l) ∧ Below B w' w'') := fun w' h' => by
    have := compactI_any (sortI l) A cap B w' h' (by rw [sortI_len]; exact hn)
    rw [sortI_len] at this
    exact this
  have hcm := h.1
  have hm := h.2.1
  unfold maxLen at hm
  have hle := mergeI_le l
  obtain ⟨n, hnn⟩ : ∃ n, l.length = n := ⟨_, rfl⟩
  obtain ⟨m, hmm⟩ : ∃ m, (mergeI l).length = m := ⟨_, rfl⟩
  rw [hnn] at hc hs ⊢ hn hcm hle
  have hcl : Hid (∀ w', Calls Tryz.prog 52 #[.slice A m cap] w' fun e w'' => e = .returned (.slice A m m) ∧ w'' = w') := fun w' => clipI_any A m cap w' (by omega) hm
  rw [hmm] at hc
  have Hmm := Lib.hid hmm
  clear h hnn hmm
  go_enter Tryz.func32, Tryz.ntmps32
  go_wp2_with (first | (go_at_call 34; refine hs.out.mono ?_; rintro e w1 ⟨rfl, h1, hb1⟩; have H1 := Lib.hid h1; clear h1) | (go_at_call 53; refine (hc.out _ H1.out).mono ?_; rintro e w2 ⟨rfl, h2, hb2⟩; have H2 := Lib.hid h2; clear h2) | (go_at_call 52; refine (hcl.out _).mono ?_; rintro e w3 ⟨rfl, rfl⟩))
  go_ret
  refine ⟨A, m, by rw [Hmm.out]; rfl, ?_, hb1.trans hb2⟩
  have := H2.out.clip
  rw [Hmm.out] at this
  exact this
end Go.Proofs.YthijagpnpcpcbaaGreat
namespace Go.Proofs.YthijagpnpcpcbaaGreat
open Go.RowKit Go.Sort
theorem strict_ext : ∀ (a b : List Int), a.Pairwise (· < ·) → b.Pairwise (· < ·) → (∀ x, x ∈ a ↔ x ∈ b) → a = b := by
  intro a
  induction a with
  | nil =>
    intro b _ _ h
    cases b with
    | nil => rfl
    | cons y b => exact absurd ((h y).2 (by simp)) (by simp)
  | cons x a ih =>
    intro b ha hb h
    cases b with
    | nil => exact absurd ((h x).1 (by simp)) (by simp)
    | cons y b =>
      rw [List.pairwise_cons] at ha hb
      have hxy : x = y := by
        have h1 := (h x).1 (by simp)
        have h2 := (h y).2 (by simp)
        rcases List.mem_cons.1 h1 with e | h1
        · exact e
        · rcases List.mem_cons.1 h2 with e | h2
          · exact e.symm
          · have := ha.1 y h2
            have := hb.1 x h1
            omega
      subst hxy
      rw [ih b ha.2 hb.2 fun z => ?_]
      constructor
      · intro hz
        rcases List.mem_cons.1 ((h z).1 (List.mem_cons_of_mem _ hz)) with e | hz'
        · subst e
          have := ha.1 _ hz
          omega
        · exact hz'
      · intro hz
        rcases List.mem_cons.1 ((h z).2 (List.mem_cons_of_mem _ hz)) with e | hz'
        · subst e
          have := hb.1 _ hz
          omega
        · exact hz'
theorem compactUp_strict (d : Array Int) (hd : ∀ i j, i < j → j < d.size → d[i]! ≤ d[j]!) : ∀ m, m ≤ d.size → (Lib.compactUpTo d m).Pairwise (· < ·) ∧ ∀ x, x ∈ Lib.compactUpTo d m ↔ ∃ j, j < m ∧ d[j]! = x := by
  intro m
  induction m with
  | zero =>
    intro _
    refine ⟨by simp [Lib.compactUpTo], fun x => ⟨fun h => by simp [Lib.compactUpTo] at h, fun ⟨j, h, _⟩ => by omega⟩⟩
  | succ m ih =>
    intro hm
    obtain ⟨h1, h2⟩ := ih (by omega)
    rw [Lib.compactUpTo_succ]
    by_cases hk : Lib.keeps d m = true
    · rw [if_pos hk]
      constructor
      · rw [List.pairwise_append]
        refine ⟨h1, by simp, fun x hx y hy => ?_⟩
        rw [List.mem_singleton] at hy
        subst hy
        obtain ⟨j, hj, rfl⟩ := (h2 x).1 hx
        have hne : d[m]! ≠ d[m - 1]! := by
          intro e
          rw [Lib.keeps_neg (by omega) e] at hk
          cases hk
        have ha := hd (m - 1) m (by omega) (by omega)
        by_cases hjm : j = m - 1
        · subst hjm; omega
        · have := hd j (m - 1) (by omega) (by omega)
          omega
      · intro x
        rw [List.mem_append, h2, List.mem_singleton]
        constructor
        · rintro (⟨j, hj, e⟩ | e)
          · exact ⟨j, by omega, e⟩
          · exact ⟨m, by omega, e.symm⟩
        · rintro ⟨j, hj, e⟩
          by_cases hjm : j = m
          · subst hjm; exact .inr e.symm
          · exact .inl ⟨j, by omega, e⟩
    · rw [if_neg hk, List.append_nil]
      refine ⟨h1, fun x => ?_⟩
      rw [h2]
      have hm0 : 0 < m := by
        rcases Nat.eq_zero_or_pos m with e | e
        · subst e; exact absurd (Lib.keeps_lt_one d 0 (by omega)) hk
        · exact e
      have he : d[m]! = d[m - 1]! := by
        by_cases e : d[m]! = d[m - 1]!
        · exact e
        · exact absurd (Lib.keeps_pos e) hk
      constructor
      · rintro ⟨j, hj, e⟩
        exact ⟨j, by omega, e⟩
      · rintro ⟨j, hj, e⟩
        by_cases hjm : j = m
        · subst hjm; exact ⟨j - 1, by omega, he ▸ e⟩
        · exact ⟨j, by omega, e⟩
theorem get_bang (l : List Int) (j : Nat) (h : j < l.length) : l.toArray[j]! = l[j] := by simp [h]
theorem sort_pw (l : List Int) : (sortI l).Pairwise (· ≤ ·) := by
  have := List.pairwise_mergeSort (le := fun x y : Int => decide (x ≤ y)) (fun a b c h1 h2 => by simp at *; omega) (fun a b => by simp; omega) l
  exact this.imp fun h => by simpa using h
theorem sort_mem (l : List Int) (x : Int) : x ∈ sortI l ↔ x ∈ l := List.mem_mergeSort
theorem mergeI_strict (l : List Int) : (mergeI l).Pairwise (· < ·) ∧ ∀ x, x ∈ mergeI l ↔ x ∈ l := by
  have hpw := sort_pw l
  have h := compactUp_strict (sortI l).toArray (fun i j hij hj => by
    have hj' : j < (sortI l).length := by simpa using hj
    rw [get_bang _ _ (by omega), get_bang _ _ hj']
    exact List.pairwise_iff_getElem.1 hpw i j (by omega) hj' hij) (sortI l).length (by simp)
  refine ⟨h.1, fun x => ?_⟩
  rw [← sort_mem l x]
  show x ∈ Lib.compactUpTo (sortI l).toArray (sortI l).length ↔ _
  rw [h.2]
  constructor
  · rintro ⟨j, hj, rfl⟩
    rw [get_bang _ _ hj]
    exact List.getElem_mem hj
  · intro hx
    obtain ⟨j, hj, e⟩ := List.getElem_of_mem hx
    exact ⟨j, hj, by rw [get_bang _ _ hj, e]⟩
theorem sort_strict {l : List Int} (h : l.Nodup) : (sortI l).Pairwise (· < ·) := by
  have hp : (sortI l).Nodup := (List.mergeSort_perm l _).nodup_iff.2 h
  have hs := sort_pw l
  exact (hs.and hp).imp fun h => by have := h.1; have := h.2; omega
end Go.Proofs.YthijagpnpcpcbaaGreat
namespace Go.Proofs.YthijagpnpcpcbaaGreat
open Go.RowKit Go.Sort
/-- The number that a column adds. -/
def colAt (up : Int) (v : Int × DT) (k : Int) : Prop := 0 ≤ up ∧ lvl v = up ∧ atOf v.2.c = k
/-- What has been visited; the numbers found; the slice that holds them. -/
abbrev CoS := (Int × DT → Prop) × List Int × Value
/-- The state of Columns' closure: the boxes of the function, of the level and of the numbers. -/
def CCo (B nb bf bu bo : Nat) (up : Int) : Cl CoS where
  St := fun s W => B ≤ W.heap.size ∧ (B ≤ bf ∧ B ≤ bu ∧ B ≤ bo ∧ bf < nb ∧ bu < nb ∧ bo < nb ∧ nb ≤ W.heap.size) ∧ Bk W bf [.func (.func 31) #[] #[.pointer (some ⟨bu, 0, none⟩), .pointer (some ⟨bo, 0, none⟩)]] 64 ∧ Bk W bu [.int .i64 up] 3 ∧ Bk W bo [s.2.2] 39 ∧
    W.ownsRow nb 3 1 s.2.2 s.2.1.length (s.2.1.map (Value.int .i64)) ∧ ∀ k, k ∈ s.2.1 ↔ ∃ v, s.1 v ∧ colAt up v k
  O := fun s k => B ≤ k ∧ (k = bf ∨ k = bu ∨ k = bo ∨ s.2.2.ownBlock = some k)
  lt := fun s W h k hk => by
    obtain ⟨_, ⟨_, _, _, h1, h2, h3, h4⟩, _, _, _, h5, _⟩ := h
    rcases hk.2 with e | e | e | e
    · omega
    · omega
    · omega
    · exact (h5.lt k e).2
  B := B
  ob := fun _ _ h => h.1
  base := fun _ _ h => h.1
  keep := fun s W W' h hk hz => by
    obtain ⟨h0, ⟨b1, b2, b3, h1, h2, h3, h4⟩, k1, k2, k3, h5, h6⟩ := h
    exact ⟨by omega, ⟨b1, b2, b3, h1, h2, h3, by omega⟩, (hk bf (.inl ⟨b1, .inl rfl⟩)).trans k1, (hk bu (.inl ⟨b2, .inr (.inl rfl)⟩)).trans k2, (hk bo (.inl ⟨b3, .inr (.inr (.inl rfl))⟩)).trans k3, own_fr h5 (by omega) fun k e => hk k (.inl ⟨by have := (h5.lt k e).1; omega, .inr (.inr (.inr e))⟩), h6⟩
theorem own_slice {w : World} {b e size n : Nat} {v : Value} {xs : List Value} (h : w.ownsRow b e size v n xs) : ∃ A cap, v = .slice A n cap := by
  rcases h.2 with ⟨e, h0⟩ | ⟨g, cap, cur, e, _⟩
  · exact ⟨none, 0, by rw [e, h0]⟩
  · exact ⟨_, cap, e⟩
/-- What Columns$1 comes to. -/
def Co1Post (B nb bf bu bo : Nat) (up : Int) (d : Int) (x : DT) (s : CoS) (w : World) (e : Ending) (w' : World) : Prop := e = .returned (.tuple #[]) ∧ ∃ s' : CoS, Fr (CCo B nb bf bu bo up) s w s' w' ∧ (∀ v, s'.1 v ↔ s.1 v ∨ v = (d, x)) ∧ s'.2.1.length ≤ s.2.1.length + 1
theorem info_int : (Tryz.prog.info? 3).map (fun i => (i.zero, i.size, i.bytes)) = some (some (.int .i64 0), 1, 8) := by kernel_rfl
theorem uIli : (Tryz.prog.info? 39).map (·.size) = some 1 := by kernel_rfl
set_option maxRecDepth 100000 in
set_option maxHeartbeats 4000000 in
theorem col1_any (B nb bf bu bo : Nat) (hfo : bf ≠ bo) (huo : bu ≠ bo) (up : Int) (s : CoS) (W : World) (d : Int) (x : DT) (hst : (CCo B nb bf bu bo up).St s W) (hx : UIn (fun k => k < B) W .expr x) (hn : s.2.1.length + 1 ≤ 1048576) :
    Calls Tryz.prog 31 #[.agg x.c.toArray, .int .i64 (lvl (d, x)), .pointer (some ⟨bu, 0, none⟩), .pointer (some ⟨bo, 0, none⟩)] W (Co1Post B nb bf bu bo up d x s W) := by
  obtain ⟨i0, hi, hrest⟩ := Option.map_eq_some_iff.1 info_int
  simp only [Prod.mk.injEq] at hrest
  obtain ⟨iz, isz, iby⟩ := hrest
  obtain ⟨w1, hw1⟩ : ∃ w1, W.alloc (.cells x.c.toArray 31) = w1 := ⟨_, rfl⟩
  have hz1 : w1.heap.size = W.heap.size + 1 := by rw [← hw1]; simp
  have hb1 : Bk w1 W.heap.size x.c 31 := by rw [← hw1]; exact Bk.new W x.c _
  have hbw : Below W.heap.size W w1 := by rw [← hw1]; exact bel1 _ _
  have hst1 := (Fr.below hst hbw).st
  obtain ⟨_, _, u3, _, _⟩ := hx.upAt
  obtain ⟨sv, ns, ov⟩ := s
  obtain ⟨h0, ⟨g1, g2, g3, g4, g5, g6, g7⟩, k1, k2, k3, k5, k6⟩ := hst1
  have hst' := hst
  obtain ⟨h0', ⟨_, _, _, _, _, _, g7'⟩, _, _, _, k5', _⟩ := hst'
  obtain ⟨lv, hlv⟩ : ∃ lv, lvl (d, x) = lv := ⟨_, rfl⟩
  obtain ⟨ap, hap⟩ : ∃ ap, atOf x.c = ap := ⟨_, rfl⟩
  rw [hap] at u3
  rw [hlv]
  have Hst := Lib.hid hst
  have Hbw := Lib.hid hbw
  have H1 := Lib.hid hb1
  have K1 := Lib.hid k1
  have K2 := Lib.hid k2
  have K3 := Lib.hid k3
  have K5 := Lib.hid k5
  have K6 := Lib.hid k6
  have U3 := Lib.hid u3
  have Hlv := Lib.hid hlv
  have Hap := Lib.hid hap
  have Hol := Lib.hid k5'.lt
  have uIl := Lib.hid uIli
  have kc : w1.cell? ⟨bu, 0, none⟩ = some (.int .i64 up) := by rw [k2.cell]; rfl
  have L3 : Hid (ns.length + 1 ≤ maxLen) := by show _ ≤ _; simp at hn; unfold maxLen; omega
  have L4 : Hid ((ns.length + 1) * 8 ≤ 140737488355328) := by show _ ≤ _; simp at hn; omega
  have hno : ∀ s' : CoS, s' = (fun v => sv v ∨ v = (d, x), ns, ov) → ¬ (0 ≤ up ∧ lv = up) → Fr (CCo B nb bf bu bo up) (sv, ns, ov) W s' w1 := by
    rintro s' rfl hne
    exact (Fr.below hst hbw).st' (fun k hk => hk) ⟨h0, ⟨g1, g2, g3, g4, g5, g6, g7⟩, k1, k2, k3, k5, fun k => by
      rw [k6 k]
      constructor
      · rintro ⟨v, h1, h2⟩; exact ⟨v, .inl h1, h2⟩
      · rintro ⟨v, h1 | rfl, h2⟩
        · exact ⟨v, h1, h2⟩
        · exact absurd ⟨h2.1, Hlv.out ▸ h2.2.1⟩ hne⟩
  have Hno := Lib.hid hno
  clear hst hbw hb1 hx u3 k1 k2 k3 k5 k6 k5' hlv hap hno
  by_cases h1 : lv = up
  · by_cases h2 : 0 ≤ up
    · go_enter Tryz.func31, Tryz.ntmps31
      go_wp2_with (first
        | (refine wpList_load_one rfl 3 _ rfl _ Tryz.underlying3 rfl _ 0 _ _ _ rfl K2.out rfl ?_)
        | (refine wpList_load_one rfl 3 _ rfl _ Tryz.underlying3 rfl _ 3 _ _ _ rfl H1.out U3.out ?_)
        | (refine wpList_load_one rfl 39 _ rfl _ Tryz.underlying39 rfl _ 0 _ _ _ rfl K3.out rfl ?_)
        | (at_builtin; refine wpList_append_row _ rfl _ _ 39 rfl nb 3 i0 _ 1 8 Tryz.underlying39 hi iz isz iby rfl (by decide) ov _ _ rfl (K5.out.alloc _) (some ⟨W.heap.size + 1, 0, none⟩) 1 1 [.int .i64 ap] rfl rfl (by have := new_srcK w1 #[.int .i64 ap] 3; rw [hz1] at this; exact this) (fun u hu => by simp at hu; subst hu; rfl) L3.out L4.out (by simp; omega) ?_; intro ov' w3 hown hg hm; obtain ⟨A', c', hov⟩ := own_slice hown; subst hov; have Hown := Lib.hid hown; have Hg := Lib.hid hg; have Hm := Lib.hid hm; have K3' := Lib.hid (show Bk w3 bo [ov] 39 from (hg.block bo (by have := K3.out.lt; simp; omega) (fun e => by have := (Hol.out bo e.symm).1; omega)).trans (K3.out.alloc _)); clear hown hg hm)
        | (refine wpList_store_blk rfl 39 _ _ rfl _ 0 _ _ [.slice A' (ns.length + 1) c'] rfl rfl K3'.out uIl.out (by simp) rfl ?_; intro w4 hw4))
      refine bodyPost_ret (results_none rfl _ _ _) rfl ?_
      have hown := Hown.out
      have hg := Hg.out
      have hm := Hm.out
      have hbw := Hbw.out
      have hgs := hg.size
      have hws := hw4.size
      simp at hgs
      have hlo := Hol.out
      have hox : ∀ k, k < w1.heap.size → k ≠ bo → some k ≠ ov.ownBlock → w4.heap[k]? = w1.heap[k]? := fun k hk h1 h2 => by
        rw [hw4.block k h1, hg.block k (by simp; omega) h2]
        exact Below.heap_alloc w1 _ k hk
      refine ⟨rfl, (fun v => sv v ∨ v = (d, x), ns ++ [ap], .slice A' (ns.length + 1) c'), ⟨hw4.os.trans (hg.os.trans hbw.os), hw4.tape.trans (hg.tape.trans hbw.tape), hw4.output.trans (hg.output.trans hbw.output), by omega, fun k hk hn => ?_, fun k hk => ?_, ?_⟩, fun v => Iff.rfl, by simp⟩
      · rw [hox k (by omega) (fun e => hn ⟨by omega, .inr (.inr (.inl e))⟩) fun e => hn ⟨by have := (hlo k e.symm).1; omega, .inr (.inr (.inr e.symm))⟩]
        exact hbw.block k hk
      · obtain ⟨hk0, hk⟩ := hk
        rcases hk with e | e | e | e
        · exact .inl ⟨hk0, .inl e⟩
        · exact .inl ⟨hk0, .inr (.inl e)⟩
        · exact .inl ⟨hk0, .inr (.inr (.inl e))⟩
        · rcases hm with h | h
          · exact .inl ⟨hk0, .inr (.inr (.inr (h.symm.trans e)))⟩
          · have := h k e
            simp at this
            exact .inr (by omega)
      · refine ⟨by omega, ⟨g1, g2, g3, g4, g5, g6, by omega⟩, (hox bf K1.out.lt ?_ ?_).trans K1.out, (hox bu K2.out.lt ?_ ?_).trans K2.out, hw4.bk, ?_, fun k => ?_⟩
        · exact hfo
        · exact fun e => by have := (hlo bf e.symm).1; omega
        · exact huo
        · exact fun e => by have := (hlo bu e.symm).1; omega
        · have := own_fr hown (w' := w4) (by omega) fun k e => hw4.block k fun e' => by have := (hown.lt k e).1; omega
          simpa using this
        · show k ∈ ns ++ [ap] ↔ _
          rw [List.mem_append, K6.out k, List.mem_singleton]
          constructor
          · rintro (⟨v, h3, h4⟩ | rfl)
            · exact ⟨v, .inl h3, h4⟩
            · exact ⟨(d, x), .inr rfl, h2, Hlv.out.trans h1, Hap.out⟩
          · rintro ⟨v, h3 | rfl, h4⟩
            · exact .inl ⟨v, h3, h4⟩
            · exact .inr (h4.2.2.symm.trans Hap.out)
    · go_enter Tryz.func31, Tryz.ntmps31
      go_wp2_with (first
        | (refine wpList_load_one rfl 3 _ rfl _ Tryz.underlying3 rfl _ 0 _ _ _ rfl K2.out rfl ?_))
      refine bodyPost_ret (results_none rfl _ _ _) rfl ?_
      exact ⟨rfl, _, Hno.out _ rfl (fun h => by have := h.1; omega), fun v => Iff.rfl, by simp⟩
  · go_enter Tryz.func31, Tryz.ntmps31
    go_wp2_with (first
      | (refine wpList_load_one rfl 3 _ rfl _ Tryz.underlying3 rfl _ 0 _ _ _ rfl K2.out rfl ?_))
    refine bodyPost_ret (results_none rfl _ _ _) rfl ?_
    exact ⟨rfl, _, Hno.out _ rfl (fun h => h1 h.2), fun v => Iff.rfl, by simp⟩
end Go.Proofs.YthijagpnpcpcbaaGreat

