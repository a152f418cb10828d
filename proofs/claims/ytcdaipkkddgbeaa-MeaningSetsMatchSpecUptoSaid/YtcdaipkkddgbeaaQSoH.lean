/-
  slices.SortStableFunc, at rows.
-/
import Derived.Test.YtcdaipkkddgbeaaQSoG
namespace Go.Proofs.Ytcdaipkkddgbeaa
open Go.RowKit
theorem symMerge_any (hc : CmpOk) (g n cap B : Nat) (hg : B ≤ g) (hn : n ≤ 2305843009213693952) : ∀ (d a m b : Nat) (f : Nat → VT) (w : World), b - a ≤ d → HF w g n f → RwOk B w n f → B ≤ w.heap.size → a < m → m < b → b ≤ n → SortedOn ltR f a m → SortedOn ltR f m b →
    Calls Try.prog 51 #[.slice (some ⟨g, 0, none⟩) n cap, .int .i64 a, .int .i64 m, .int .i64 b, cmpF] w (MgPost g n a b f w)
  | 0, a, m, b, f, w, hd, h, hr, hB, ham, hmb, hbn, h1, h2 => by omega
  | d + 1, a, m, b, f, w, hd, h, hr, hB, ham, hmb, hbn, h1, h2 => by
    by_cases e1 : a + 1 = m
    · exact symA_any hc g n cap a m b B f w h hr hB hg hn e1 hmb hbn h2
    · by_cases e2 : m + 1 = b
      · exact symB_any hc g n cap a m b B f w h hr hB hg hn (by omega) e2 hbn h1
      · exact symC_any hc g n cap a m b B f w h hr hB hg hn (by omega) (by omega) hbn h1 h2 fun a' m' b' f' w' k1 k2 k3 k4 k5 k6 k7 k8 k9 => symMerge_any hc g n cap B hg hn d a' m' b' f' w' (by omega) k1 k2 k3 k5 k6 k7 k8 k9
/-- Blocks of s rows are in order. -/
def Blk (f : Nat → VT) (n s : Nat) : Prop := ∀ t, SortedOn ltR f (t * s) (min ((t + 1) * s) n)
/-- Blocks of 2 s rows up to a place, of s rows from there on. -/
structure MIn (f : Nat → VT) (n s q : Nat) : Prop where
  done : ∀ t, t < q → SortedOn ltR f (t * (2 * s)) ((t + 1) * (2 * s))
  left : ∀ t, 2 * q ≤ t → SortedOn ltR f (t * s) (min ((t + 1) * s) n)
theorem Sw.sorted_out {f f' : Nat → VT} {a b lo hi : Nat} (h : Sw a b f f') (ho : hi ≤ a ∨ b ≤ lo) (hs : SortedOn ltR f lo hi) : SortedOn ltR f' lo hi := fun i j h1 h2 h3 => by
  rw [h.out (i := i) (by omega), h.out (i := j) (by omega)]
  exact hs i j h1 h2 h3
theorem MIn.step {f f' : Nat → VT} {n s q : Nat} (h : MIn f n s q) (hsw : Sw (q * (2 * s)) (q * (2 * s) + 2 * s) f f') (ho : SortedOn ltR f' (q * (2 * s)) (q * (2 * s) + 2 * s)) : MIn f' n s (q + 1) := by
  refine ⟨fun t ht => ?_, fun t ht => ?_⟩
  · by_cases e : t = q
    · subst e
      rw [Nat.add_mul, Nat.one_mul]
      exact ho
    · refine hsw.sorted_out (.inl ?_) (h.done t (by omega))
      exact Nat.mul_le_mul_right _ (by omega)
  · refine hsw.sorted_out (.inr ?_) (h.left t (by omega))
    have : (2 * q + 2) * s ≤ t * s := Nat.mul_le_mul_right _ (by omega)
    rw [Nat.add_mul, Nat.mul_assoc, Nat.mul_left_comm] at this
    omega
theorem MIn.fin {f f' : Nat → VT} {n s q : Nat} (h : MIn f n s q) (hq : q * (2 * s) ≤ n) (hn : n < q * (2 * s) + 2 * s) (hsw : Sw (q * (2 * s)) n f f') (ho : SortedOn ltR f' (q * (2 * s)) n) : Blk f' n (2 * s) := by
  intro t
  rcases Nat.lt_trichotomy t q with hlt | he | hgt
  · have h1 : (t + 1) * (2 * s) ≤ q * (2 * s) := Nat.mul_le_mul_right _ (by omega)
    rw [Nat.min_eq_left (by omega)]
    exact hsw.sorted_out (.inl h1) (h.done t hlt)
  · subst he
    rw [Nat.add_mul, Nat.one_mul, Nat.min_eq_right (by omega)]
    exact ho
  · have h1 : (q + 1) * (2 * s) ≤ t * (2 * s) := Nat.mul_le_mul_right _ (by omega)
    rw [Nat.add_mul, Nat.one_mul] at h1
    intro i j a1 a2 a3
    omega
/-- The blocks ahead of the first place that is not yet in order. -/
structure BIn (f : Nat → VT) (q : Nat) : Prop where
  done : ∀ t, t < q → SortedOn ltR f (t * 20) (t * 20 + 20)
theorem BIn.step {f f' : Nat → VT} {q : Nat} (h : BIn f q) (hsw : Sw (q * 20) (q * 20 + 20) f f') (ho : SortedOn ltR f' (q * 20) (q * 20 + 20)) : BIn f' (q + 1) := by
  refine ⟨fun t ht => ?_⟩
  by_cases e : t = q
  · subst e; exact ho
  · exact hsw.sorted_out (.inl (by omega)) (h.done t (by omega))
theorem BIn.fin {f f' : Nat → VT} {q n : Nat} (h : BIn f q) (hq : q * 20 ≤ n) (hn : n < q * 20 + 20) (hsw : Sw (q * 20) n f f') (ho : SortedOn ltR f' (q * 20) n) : Blk f' n 20 := by
  intro t
  rcases Nat.lt_trichotomy t q with hlt | he | hgt
  · rw [Nat.min_eq_left (by omega), Nat.add_mul, Nat.one_mul]
    exact hsw.sorted_out (.inl (by omega)) (h.done t hlt)
  · subst he
    rw [Nat.min_eq_right (by omega)]
    exact ho
  · intro i j a1 a2 a3
    omega
theorem Blk.all {f : Nat → VT} {n s : Nat} (h : Blk f n s) (hs : n ≤ s) : SortedOn ltR f 0 n := by
  have := h 0
  rw [Nat.zero_mul, Nat.zero_add, Nat.one_mul, Nat.min_eq_right hs] at this
  exact this
theorem Blk.start {f : Nat → VT} {n s : Nat} (h : Blk f n s) : MIn f n s 0 := ⟨fun t ht => by omega, fun t _ => h t⟩
end Go.Proofs.Ytcdaipkkddgbeaa
