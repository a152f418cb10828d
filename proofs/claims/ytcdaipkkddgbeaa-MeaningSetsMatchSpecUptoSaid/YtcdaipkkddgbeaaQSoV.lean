/-
  Package value: Compare. Package meaning: CompareRows, same.
-/
import Derived.Test.YtcdaipkkddgbeaaQSoD
import Derived.Test.YtcdaipkkddgbeaaQSoU
namespace Go.Proofs.Ytcdaipkkddgbeaa
open Go.RowKit
theorem orC_assoc (a b c : Int) : orC (orC a b) c = orC a (orC b c) := by unfold orC; by_cases h : a = 0 <;> simp [h]
theorem vCompare_any : ∀ (x y : VT) (B : Nat) (w : World), VT.In B w x → VT.In B w y → B ≤ w.heap.size →
    Calls Try.prog 37 #[.agg #[.int .i64 x.a.k, .int .i64 x.a.n, .int .i64 x.a.sc, .string x.a.s, .slice x.a.A x.l.length x.a.cap], .agg #[.int .i64 y.a.k, .int .i64 y.a.n, .int .i64 y.a.sc, .string y.a.s, .slice y.a.A y.l.length y.a.cap]] w fun e w' => e = .returned (.int .i64 (cmpV x y)) ∧ Below w.heap.size w w' := by
  refine VT.ind fun a l ih y B w hx hy hB => ?_
  obtain ⟨b, r⟩ := y
  rw [VT.a_node, VT.l_node, VT.a_node, VT.l_node]
  by_cases hk : a.k = b.k
  · have e0 : cmpV (.node a l) (.node b r) = if a.k = 0 then 0 else orC (headC a b) (cmpVs l r) := by
      unfold cmpV
      rw [← hk, show kC a.k a.k = 0 from by unfold kC; rw [if_pos rfl]]
      rfl
    rw [e0]
    cases hx with
    | mk k n sc s A cap l hk1 hn1 hsc1 hs1 hr1 hl1 =>
    cases hy with
    | mk k2 n2 sc2 t A2 cap2 r hk2 hn2 hsc2 hs2 hr2 hl2 =>
    simp only at hk ⊢
    have hre : ∀ W, Below w.heap.size w W → Calls Try.prog 48 #[.agg #[.int .i64 k, .int .i64 n, .int .i64 sc, .string s, .slice A l.length cap], .agg #[.int .i64 k2, .int .i64 n2, .int .i64 sc2, .string t, .slice A2 r.length cap2]] W fun e w' => e = .returned (.int .i64 (orC (ordI sc sc2) (orC (cmpL s.data.toList t.data.toList) (cmpVs l r)))) ∧ Below W.heap.size W w' := fun W hW =>
      rest_any k n sc k2 n2 sc2 s t A A2 l.length r.length cap cap2 (cmpVs l r) W fun W2 hW2 =>
        have hS := Same.mono (Same.of_below (hW.trans (hW2.mono hW.size))) hB
        compareFunc_any A A2 cap cap2 B l r W2 (VT.Rows.keep ⟨hr1, hl1⟩ hS) (VT.Rows.keep ⟨hr2, hl2⟩ hS) (by have := hW.size; have := hW2.size; omega) fun x y W3 hx a1 a2 a3 => ih x hx y B W3 a1 a2 a3
    by_cases h0 : k = 0
    · rw [if_pos h0]
      exact vcmp_null k n sc k2 n2 sc2 s t A A2 l.length r.length cap cap2 w hk h0
    · rw [if_neg h0]
      unfold headC
      simp only
      by_cases h3 : k = 3
      · subst h3
        subst hk
        rw [if_pos rfl]
        unfold decC
        have e : ∀ z c1 c2 c3 : Int, orC (orC (orC 0 z) (orC c1 c2)) c3 = orC z (orC c1 (orC c2 c3)) := fun z c1 c2 c3 => by rw [orC_assoc, orC_assoc, orC_assoc]; rfl
        have e00 : ordI 0 0 = 0 := by decide
        have e11 : ordI 1 1 = 0 := by decide
        have e01 : ordI 0 1 = -1 := by decide
        have e10 : ordI 1 0 = 1 := by decide
        cases i1 : inSc sc with
        | true =>
          cases i2 : inSc sc2 with
          | true =>
            rw [if_pos rfl, e00, e]
            exact vcmp_dec n sc n2 sc2 s t A A2 l.length r.length cap cap2 _ w hn1 hn2 i1 i2 hre
          | false =>
            have h := vcmp_one n sc n2 sc2 s t A A2 l.length r.length cap cap2 w (by rw [i1, i2]; decide)
            rw [i1, if_pos rfl] at h
            rw [if_pos rfl, if_neg (by decide), e01, orC_assoc, orC_assoc]
            exact h
        | false =>
          cases i2 : inSc sc2 with
          | true =>
            have h := vcmp_one n sc n2 sc2 s t A A2 l.length r.length cap cap2 w (by rw [i1, i2]; decide)
            rw [i1, if_neg (by decide)] at h
            rw [if_neg (by decide), if_pos rfl, e10, orC_assoc, orC_assoc]
            exact h
          | false =>
            rw [if_neg (by decide), e11, e]
            unfold mag
            rw [i1, i2, if_neg (by decide), if_neg (by decide)]
            exact vcmp_none n sc n2 sc2 s t A A2 l.length r.length cap cap2 _ w i1 i2 hre
      · rw [if_neg h3, orC_assoc, orC_assoc]
        exact vcmp_plain k n sc k2 n2 sc2 s t A A2 l.length r.length cap cap2 _ w hk h0 h3 hre
  · have e0 : cmpV (.node a l) (.node b r) = kC a.k b.k := by
      unfold cmpV orC
      rw [if_neg (fun h => hk (kC_zero h))]
    rw [e0]
    exact vcmp_diff _ _ _ _ _ _ _ _ _ _ _ _ _ _ w hk
set_option maxRecDepth 100000 in
set_option maxHeartbeats 1000000 in
theorem cmpOk : CmpOk := by
  intro r s B w hr hs hB
  have hcf := Lib.hid (compareFunc_any r.a.A s.a.A r.a.cap s.a.cap B r.l s.l w hr hs hB fun x y W _ h1 h2 h3 => vCompare_any x y B W h1 h2 h3)
  unfold rwV cmpR
  clear hr hs
  go_enter Try.func27, Try.ntmps27
  go_wp2_with (go_at_call 36; refine (hcf.out).mono ?_; rintro e w' ⟨rfl, hb⟩)
  go_ret
  exact ⟨rfl, hb⟩
set_option maxRecDepth 100000 in
set_option maxHeartbeats 1000000 in
theorem msame_any (r s : VT) (B : Nat) (w : World) (hr : VT.Rows B w r.a.A r.a.cap r.l) (hs : VT.Rows B w s.a.A s.a.cap s.l) (hB : B ≤ w.heap.size) :
    Calls Try.prog 28 #[rwV r, rwV s] w fun e w' => e = .returned (.bool (cmpR r s == 0)) ∧ Below w.heap.size w w' := by
  have hcf := Lib.hid (cmpOk r s B w hr hs hB)
  unfold rwV at *
  clear hr hs
  generalize cmpR r s = c at *
  go_enter Try.func28, Try.ntmps28
  go_wp2_with (go_at_call 27; refine (hcf.out).mono ?_; rintro e w' ⟨rfl, hb⟩)
  go_ret
  exact ⟨rfl, hb⟩
end Go.Proofs.Ytcdaipkkddgbeaa
