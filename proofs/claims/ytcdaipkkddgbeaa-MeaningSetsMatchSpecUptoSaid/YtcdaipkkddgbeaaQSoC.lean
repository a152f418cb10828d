/-
  Rows in a block, as a plain function; two of them exchanged.
-/
import Derived.Test.YtcdaipkkddgbeaaQSoB
import Derived.Test.YtcdaipkkddgbeaaProg
import Derived.Lib.Hide
import Derived.Deep.QuietTactic
import Derived.BigQuiet
import Derived.BigRegion
namespace Go.Proofs.Ytcdaipkkddgbeaa
open Go.RowKit
def rwV (r : VT) : Value := .slice r.a.A r.l.length r.a.cap
/-- Block g holds n rows. -/
def HF (w : World) (g n : Nat) (f : Nat → VT) : Prop := ∃ (cs : Array Value) (t : TypeId), w.heap[g]? = some (.cells cs t (0, 0)) ∧ n ≤ cs.size ∧ ∀ i, i < n → cs[i]? = some (rwV (f i))
theorem HF.lt {w : World} {g n : Nat} {f : Nat → VT} (h : HF w g n f) : g < w.heap.size := by
  obtain ⟨cs, t, h1, _⟩ := h
  exact (Array.getElem?_eq_some_iff.1 h1).1
theorem HF.cell {w : World} {g n : Nat} {f : Nat → VT} (h : HF w g n f) {i : Nat} (hi : i < n) : w.cell? ⟨g, i, none⟩ = some (rwV (f i)) := by
  obtain ⟨cs, t, h1, h2, h3⟩ := h
  simp [World.cell?, h1, h3 i hi]
theorem HF.frozen {w : World} {g n : Nat} {f : Nat → VT} (h : HF w g n f) (i : Nat) : w.frozen? ⟨g, i, none⟩ = false := by
  obtain ⟨cs, t, h1, _⟩ := h
  simp [World.frozen?, h1]
theorem HF.set {w : World} {g n : Nat} {f : Nat → VT} (h : HF w g n f) {i : Nat} (hi : i < n) (x : VT) : HF (w.setCell ⟨g, i, none⟩ (rwV x)) g n (setAt f i x) := by
  obtain ⟨cs, t, h1, h2, h3⟩ := h
  refine ⟨cs.setIfInBounds i (rwV x), t, ?_, by simpa using h2, fun k hk => ?_⟩
  · simp [World.setCell, Array.getElem?_modify, h1]
  · unfold setAt
    by_cases e : k = i
    · subst e
      rw [if_pos rfl, Array.getElem?_setIfInBounds, if_pos rfl, if_pos (by omega)]
    · rw [if_neg e, Array.getElem?_setIfInBounds_ne (by omega)]
      exact h3 k hk
theorem HF.keep {w w' : World} {g n : Nat} {f : Nat → VT} (h : HF w g n f) (he : w'.heap[g]? = w.heap[g]?) : HF w' g n f := by
  obtain ⟨cs, t, h1, h2, h3⟩ := h
  exact ⟨cs, t, he.trans h1, h2, h3⟩
theorem HF.below {w w' : World} {g n : Nat} {f : Nat → VT} (h : HF w g n f) (hb : Below w.heap.size w w') : HF w' g n f := h.keep (hb.block g h.lt)
theorem HF.drew {w : World} {g n : Nat} {f : Nat → VT} (h : HF w g n f) (k : Nat) : HF (w.drewN k) g n f := h
theorem HF.congr {w : World} {g n : Nat} {f f' : Nat → VT} (h : HF w g n f) (he : ∀ i, i < n → f' i = f i) : HF w g n f' := by
  obtain ⟨cs, t, h1, h2, h3⟩ := h
  exact ⟨cs, t, h1, h2, fun i hi => by rw [he i hi]; exact h3 i hi⟩
theorem swp_set {α : Type} (f : Nat → α) (i j : Nat) (h : i ≠ j) : setAt (setAt f i (f j)) j (f i) = swp f i j := by
  funext k
  unfold setAt swp
  by_cases e1 : k = j
  · subst e1; rw [if_pos rfl, if_neg (fun e => h e.symm), if_pos rfl]
  · rw [if_neg e1]
    by_cases e2 : k = i
    · rw [if_pos e2, if_pos e2]
    · rw [if_neg e2, if_neg e2, if_neg e1]
/-- What a function that sorts in place leaves: the rows moved about between a and b, and all else as it was. -/
structure SoW (g n a b : Nat) (f : Nat → VT) (w : World) (f' : Nat → VT) (w' : World) : Prop where
  sw : Sw a b f f'
  ch : Ch g w w'
  hold : HF w' g n f'
theorem SoW.refl {g n : Nat} {f : Nat → VT} {w : World} (a b : Nat) (h : HF w g n f) : SoW g n a b f w f w := ⟨.refl, Ch.refl g w, h⟩
theorem SoW.trans {g n a b : Nat} {f f1 f2 : Nat → VT} {w w1 w2 : World} (h : SoW g n a b f w f1 w1) (h' : SoW g n a b f1 w1 f2 w2) : SoW g n a b f w f2 w2 := ⟨h.sw.trans h'.sw, h.ch.trans h'.ch, h'.hold⟩
theorem SoW.mono {g n a b a' b' : Nat} {f f1 : Nat → VT} {w w1 : World} (h : SoW g n a b f w f1 w1) (ha : a' ≤ a) (hb : b ≤ b') : SoW g n a' b' f w f1 w1 := ⟨h.sw.mono ha hb, h.ch, h.hold⟩
theorem SoW.below {g n a b : Nat} {f f1 : Nat → VT} {w w1 w2 : World} (h : SoW g n a b f w f1 w1) (hb : Below w1.heap.size w1 w2) : SoW g n a b f w f1 w2 := ⟨h.sw, h.ch.then_below hb, h.hold.below hb⟩
theorem SoW.drew {g n a b : Nat} {f f1 : Nat → VT} {w w1 : World} (h : SoW g n a b f w f1 w1) : SoW g n a b f w f1 w1.drew := ⟨h.sw, h.ch.drew, h.hold⟩
theorem SoW.swap {g n a b : Nat} {f f1 : Nat → VT} {w w1 : World} (h : SoW g n a b f w f1 w1) {i j : Nat} (hi : a ≤ i) (hi' : i < b) (hj : a ≤ j) (hj' : j < b) (hb : b ≤ n) (hij : i ≠ j) :
    SoW g n a b f w (swp f1 i j) ((w1.setCell ⟨g, i, none⟩ (rwV (f1 j))).setCell ⟨g, j, none⟩ (rwV (f1 i))) := by
  refine ⟨h.sw.step hi hi' hj hj', (h.ch.setCell _ _).setCell _ _, ?_⟩
  rw [← swp_set f1 i j hij]
  exact (h.hold.set (by omega) _).set (by omega) _
set_option maxRecDepth 100000 in
set_option maxHeartbeats 1000000 in
theorem swapRange_any (g n cap a b m : Nat) (f : Nat → VT) (cv : Value) (w : World) (h : HF w g n f) (hn : n ≤ 4611686018427387904) (hab : a + m ≤ b) (hbn : b + m ≤ n) :
    Calls Try.prog 65 #[.slice (some ⟨g, 0, none⟩) n cap, .int .i64 a, .int .i64 b, .int .i64 m, cv] w fun e w' => e = .returned (.tuple #[]) ∧ SoW g n a (b + m) f w (swr f a b m) w' := by
  have H0 := Lib.hid h
  clear h
  go_enter Try.func65, Try.ntmps65
  go_wp2
  go_loopw [10] (fun i wr => ∃ q : Nat, q ≤ m ∧ i = .int .i64 q ∧ SoW g n a (b + m) f w (swr f a b q) wr) (fun i _ => m - (intOf i).toNat)
  case atStart => exact ⟨0, Nat.zero_le _, rfl, by rw [swr_zero]; exact SoW.refl _ _ H0.out⟩
  case round =>
    obtain ⟨q, hq, rfl, hS⟩ := hrel
    by_cases hlt : q < m
    · have c1 := hS.hold.cell (i := a + q) (by omega)
      have c2 := hS.hold.cell (i := b + q) (by omega)
      have f1 := hS.hold.frozen (a + q)
      have f2 := hS.hold.frozen (b + q)
      unfold rwV at c1 c2
      have hS2 := Lib.hid (hS.swap (i := a + q) (j := b + q) (by omega) (by omega) (by omega) (by omega) (by omega) (by omega))
      have HS := Lib.hid hS
      clear hS
      have hne : ¬ a + q = b + q := by omega
      have hne2 : ¬ b + q = a + q := by omega
      go_wp2_with fail
      go_region
      go_wp2
      go_roundw
      case rel => exact ⟨q + 1, by omega, by go_num, by rw [← swr_step f a b q (by omega)]; exact hS2.out.drew⟩
      case measure => simp [intOf]; omega
    · obtain rfl : q = m := by omega
      have HS := Lib.hid hS
      clear hS
      go_wp2
      exact ⟨rfl, _, results_none rfl _ _ _, rfl, HS.out⟩
set_option maxRecDepth 100000 in
set_option maxHeartbeats 1000000 in
theorem rotate_any (g n cap a m b : Nat) (f : Nat → VT) (cv : Value) (w : World) (h : HF w g n f) (hn : n ≤ 4611686018427387904) (ham : a < m) (hmb : m < b) (hbn : b ≤ n) :
    Calls Try.prog 58 #[.slice (some ⟨g, 0, none⟩) n cap, .int .i64 a, .int .i64 m, .int .i64 b, cv] w fun e w' => e = .returned (.tuple #[]) ∧ SoW g n a b f w (rot f a m b) w' := by
  have H0 := Lib.hid h
  clear h
  go_enter Try.func58, Try.ntmps58
  go_wp2
  go_loopw [10, 11] (fun vi vj wr => ∃ (i j : Nat) (f' : Nat → VT), vi = .int .i64 i ∧ vj = .int .i64 j ∧ 0 < i ∧ 0 < j ∧ a + i ≤ m ∧ m + j ≤ b ∧ SoW g n a b f w f' wr ∧ rot f' (m - i) m (m + j) = rot f a m b) (fun vi vj _ => (intOf vi).toNat + (intOf vj).toNat)
  case atStart => exact ⟨m - a, b - m, f, by congr 1; omega, by congr 1; omega, by omega, by omega, by omega, by omega, SoW.refl _ _ H0.out, by rw [show m - (m - a) = a by omega, show m + (b - m) = b by omega]⟩
  case round =>
    obtain ⟨i, j, f', rfl, rfl, hi, hj, him, hjm, hS, hR⟩ := hrel
    have HS := Lib.hid hS
    have HR := Lib.hid hR
    clear hS hR
    have e1 : (m : Int) - (i : Int) = ((m - i : Nat) : Int) := by omega
    rcases Nat.lt_trichotomy j i with hlt | he | hlt
    · have hc := Lib.hid (swapRange_any g n cap (m - i) m j f' cv wr HS.out.hold hn (by omega) (by omega))
      have ne : ((i : Int) != (j : Int)) = true := by simp; omega
      have gt : (j : Int) < (i : Int) := by omega
      have e2 : (i : Int) - (j : Int) = ((i - j : Nat) : Int) := by omega
      go_wp2_with fail
      refine hc.out.mono ?_
      rintro e w2 ⟨rfl, hS2⟩
      have HS2 := Lib.hid hS2
      clear hc hS2
      go_wp2
      go_roundw
      case rel =>
        refine ⟨i - j, j, _, rfl, rfl, by omega, hj, by omega, hjm, HS.out.trans (HS2.out.mono (by omega) (by omega)), ?_⟩
        rw [← HR.out, ← rot_gt f' m i j (by omega) hlt, show m - (i - j) = m - i + j by omega]
      case measure => simp [intOf]; omega
    · subst he
      have hc := Lib.hid (swapRange_any g n cap (m - j) m j f' cv wr HS.out.hold hn (by omega) (by omega))
      go_wp2_with fail
      refine hc.out.mono ?_
      rintro e w2 ⟨rfl, hS2⟩
      have HS2 := Lib.hid hS2
      clear hc hS2
      go_wp2
      refine ⟨rfl, _, results_none rfl _ _ _, rfl, ?_⟩
      have := HS.out.trans (HS2.out.mono (by omega) (by omega))
      rw [rot_eq f' m j (by omega), HR.out] at this
      exact this
    · have hc := Lib.hid (swapRange_any g n cap (m - i) (m + j - i) i f' cv wr HS.out.hold hn (by omega) (by omega))
      have ne : ((i : Int) != (j : Int)) = true := by simp; omega
      have gt : ¬ (j : Int) < (i : Int) := by omega
      have e2 : (j : Int) - (i : Int) = ((j - i : Nat) : Int) := by omega
      have e3 : (m : Int) + (j : Int) - (i : Int) = ((m + j - i : Nat) : Int) := by omega
      go_wp2_with fail
      refine hc.out.mono ?_
      rintro e w2 ⟨rfl, hS2⟩
      have HS2 := Lib.hid hS2
      clear hc hS2
      go_wp2
      go_roundw
      case rel =>
        refine ⟨i, j - i, _, rfl, rfl, hi, by omega, him, by omega, HS.out.trans (HS2.out.mono (by omega) (by omega)), ?_⟩
        rw [← HR.out, ← rot_lt f' m i j (by omega) hlt]
      case measure => simp [intOf]; omega
end Go.Proofs.Ytcdaipkkddgbeaa
