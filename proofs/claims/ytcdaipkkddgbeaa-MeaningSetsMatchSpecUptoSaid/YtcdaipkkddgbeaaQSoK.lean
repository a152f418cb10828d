/-
  Comparisons of the library: cmp.Compare of texts, cmp.Or.
-/
import Derived.Test.YtcdaipkkddgbeaaQSoJ
import Derived.Laws.Cover1
namespace Go.Proofs.Ytcdaipkkddgbeaa
open Go.RowKit
theorem cmpL_self : ∀ l, cmpL l l = 0
  | [] => rfl
  | x :: l => by simp only [cmpL]; rw [cmpL_self l]; unfold ordI orC; simp
theorem cmpL_zero : ∀ {l r : List UInt8}, cmpL l r = 0 → l = r
  | [], [], _ => rfl
  | [], _ :: _, h => by simp [cmpL] at h
  | _ :: _, [], h => by simp [cmpL] at h
  | x :: l, y :: r, h => by
    simp only [cmpL] at h
    unfold orC ordI at h
    have hx := x.toNat_lt
    have hy := y.toNat_lt
    by_cases h1 : (x.toNat : Int) < (y.toNat : Int)
    · rw [if_pos h1] at h; simp at h
    · rw [if_neg h1] at h
      by_cases h2 : (y.toNat : Int) < (x.toNat : Int)
      · rw [if_pos h2] at h; simp at h
      · rw [if_neg h2] at h
        simp at h
        have e : x = y := UInt8.toNat_inj.1 (by omega)
        rw [e, cmpL_zero h]
theorem less_cmp : ∀ (l r : List UInt8), Op.bytesLess l r = decide (cmpL l r < 0)
  | [], [] => by simp [Op.bytesLess, cmpL]
  | [], _ :: _ => by simp [Op.bytesLess, cmpL]
  | _ :: _, [] => by simp [Op.bytesLess, cmpL]
  | x :: l, y :: r => by
    unfold Op.bytesLess
    simp only [cmpL]
    unfold orC ordI
    by_cases h1 : x < y
    · have h1' : (x.toNat : Int) < (y.toNat : Int) := by have := UInt8.lt_iff_toNat_lt.1 h1; omega
      simp [h1, h1']
    · have h1' : ¬ (x.toNat : Int) < (y.toNat : Int) := fun h => h1 (UInt8.lt_iff_toNat_lt.2 (by omega))
      by_cases h2 : x = y
      · subst h2
        simp [less_cmp l r]
      · have h2' : (y.toNat : Int) < (x.toNat : Int) := by
          have : x.toNat ≠ y.toNat := fun e => h2 (UInt8.toNat_inj.1 e)
          omega
        have hb : (x == y) = false := by simpa using h2
        simp [h1, h1', h2', hb]
theorem gtr_cmp (l r : List UInt8) : (!(Op.bytesLess l r || l == r)) = decide (0 < cmpL l r) := by
  rw [less_cmp]
  by_cases h0 : cmpL l r = 0
  · have := cmpL_zero h0
    subst this
    simp [h0]
  · have hne : (l == r) = false := by
      rw [beq_eq_false_iff_ne]
      intro e
      subst e
      exact h0 (cmpL_self l)
    rw [hne, Bool.or_false]
    by_cases h : cmpL l r < 0
    · simp [h]; omega
    · simp [h]; omega
set_option maxRecDepth 100000 in
set_option maxHeartbeats 1000000 in
theorem cmpStr_any (s t : ByteArray) (w : World) : Calls Try.prog 57 #[.string s, .string t] w fun e w' => e = .returned (.int .i64 (cmpL s.data.toList t.data.toList)) ∧ w' = w := by
  have hN : Hid (∀ (z : ByteArray) (W : World), Calls Try.prog 64 #[.string z] W fun e w' => e = .returned (.bool false) ∧ w' = W) := fun z W => by
    go_enter Try.func64, Try.ntmps64
    go_wp2
    go_ret
    exact ⟨by simp, rfl⟩
  have hlt := less_cmp s.data.toList t.data.toList
  have hgt := gtr_cmp s.data.toList t.data.toList
  have hsg := Sgn.cmpL s.data.toList t.data.toList
  rw [← ByteArray.toList_eq, ← ByteArray.toList_eq] at hlt hgt hsg ⊢
  generalize cmpL s.toList t.toList = R at *
  rcases hsg with rfl | rfl | rfl
  · have h1 : Op.bytesLess s.toList t.toList = true := by rw [hlt]; decide
    clear hlt hgt
    go_enter Try.func57, Try.ntmps57
    go_wp2_with (go_at_call 64; refine (hN.out _ _).mono ?_; rintro e w' ⟨rfl, rfl⟩)
    go_ret
    exact ⟨rfl, rfl⟩
  · have h1 : Op.bytesLess s.toList t.toList = false := by rw [hlt]; decide
    have h2 : (!(Op.bytesLess s.toList t.toList || s.toList == t.toList)) = false := by rw [hgt]; decide
    have h3 : (s.toList == t.toList) = true := by rw [h1] at h2; simpa using h2
    clear hlt hgt h2
    go_enter Try.func57, Try.ntmps57
    go_wp2_with (go_at_call 64; refine (hN.out _ _).mono ?_; rintro e w' ⟨rfl, rfl⟩)

    go_ret
    exact ⟨rfl, rfl⟩
  · have h1 : Op.bytesLess s.toList t.toList = false := by rw [hlt]; decide
    have h2 : (!(Op.bytesLess s.toList t.toList || s.toList == t.toList)) = true := by rw [hgt]; decide
    have h3 : (s.toList == t.toList) = false := by rw [h1] at h2; simpa using h2
    clear hlt hgt h2
    go_enter Try.func57, Try.ntmps57
    go_wp2_with (go_at_call 64; refine (hN.out _ _).mono ?_; rintro e w' ⟨rfl, rfl⟩)
    go_ret
    exact ⟨rfl, rfl⟩
end Go.Proofs.Ytcdaipkkddgbeaa
