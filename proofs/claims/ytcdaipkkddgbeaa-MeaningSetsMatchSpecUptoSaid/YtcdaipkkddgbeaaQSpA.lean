/-
  Rows sorted in a list of their own: slices.Clone at rows; meaning.sorted.
-/
import Derived.Test.YtcdaipkkddgbeaaQGrw
import Derived.Test.YtcdaipkkddgbeaaQSoI
import Derived.Test.YtcdaipkkddgbeaaQSoV
import Derived.WalkLawsBesides
import Derived.WalkSpells
import Derived.Outline
import Derived.Lib.AppendZerosOnto
import Derived.Lib.SliceRun
import Derived.Lib.Walk
namespace Go.Proofs.Ytcdaipkkddgbeaa
open Go.RowKit
theorem crow_of {B : Nat} {w : World} {A : Option Addr} {cap : Nat} {l : List VT} (h : VT.RRow B w A cap l) : CRow rwV B w A cap l := ⟨h.1, h.2.1, h.2.2.2⟩
set_option maxRecDepth 100000 in
set_option maxHeartbeats 1000000 in
theorem cloneR_any (A : Option Addr) (cap : Nat) (l : List VT) (B : Nat) (w : World) (hr : CRow rwV B w A cap l) (hn : l.length ≤ 1048576) :
    Calls Try.prog 34 #[.slice A l.length cap] w fun e w' => ∃ v, e = .returned v ∧ w'.ownsRow w.heap.size 27 1 v l.length (l.map rwV) ∧ Below w.heap.size w w' := by
  obtain ⟨i0, hi, iz, isz, iby⟩ := info_parts infoVals
  have q : ∀ (w : World) (a : Option Addr) (n c n' c' : Nat), (binOp .eql 22 (.slice a n c) (.slice none n' c')).run Try.prog w = .ok (.bool a.isNone) w := fun w a n c n' c' => Lib.run_eql_slice_nil w _ _ a n c n' c' Try.underlying22
  cases A with
  | none =>
    have hl0 : l = [] := by
      cases l with
      | nil => rfl
      | cons y l => obtain ⟨ad, e, _⟩ := hr.2.2 0 y rfl; cases e
    subst hl0
    clear hr
    go_enter Try.func34, Try.ntmps34
    go_wp2
    go_ret
    exact ⟨_, rfl, World.ownsRow_nil _ _ _ _, Below.refl _ _⟩
  | some ad =>
    have hsrc := hr.src
    have hlen : (l.map rwV).length = l.length * 1 := by simp
    have h1' : ∀ u, u ∈ l.map rwV → u.oneCell' = true := fun u hu => by
      obtain ⟨x, hx, rfl⟩ := List.mem_map.1 hu
      rfl
    have Hsrc : Hid (∀ o, SrcAt (w.alloc o) (some ad) (l.map rwV)) := fun o => by
      rcases hsrc with h | ⟨ad', e, h⟩
      · exact .inl h
      · exact .inr ⟨ad', e, fun j u hu => cell_old (h j u hu) o⟩
    have Hlen := Lib.hid hlen
    have H1 := Lib.hid h1'
    have hb : Hid ((0 + l.length) * 24 ≤ 140737488355328) := by show _ ≤ _; omega
    have hm : Hid (0 + l.length ≤ maxLen) := by show _ ≤ _; unfold maxLen; omega
    clear hsrc hlen h1' hr
    go_enter Try.func34, Try.ntmps34
    go_wp2_with (at_builtin; refine wpList_append_row _ rfl _ _ 22 rfl w.heap.size 27 i0 _ 1 24 Try.underlying22 hi iz isz iby rfl (by decide) (.slice (some ⟨w.heap.size, 0, none⟩) 0 0) 0 [] rfl (World.ownsRow_made w #[] 0 (Nat.le_refl _) (Nat.zero_le _) rfl) (some ad) l.length cap (l.map rwV) rfl Hlen.out (Hsrc.out _) H1.out hm.out hb.out (by simp) ?_; intro v' w1 hown1 hg1 hm1)
    go_ret
    refine ⟨v', rfl, by simpa using hown1, ?_⟩
    exact ((Below.refl _ w).alloc (Nat.le_refl _) _).grown hg1 (by simp) (fun k hk => by cases hk; exact Nat.le_refl _)
set_option maxRecDepth 100000 in
set_option maxHeartbeats 1000000 in
theorem sortStable_nil (A : Option Addr) (cap : Nat) (w : World) :
    Calls Try.prog 35 #[.slice A 0 cap, cmpF] w fun e w' => e = .returned (.tuple #[]) ∧ w' = w := by
  have h1 : Hid (∀ W, Calls Try.prog 50 #[.slice A 0 cap, .int .i64 0, .int .i64 0, cmpF] W fun e w' => e = .returned (.tuple #[]) ∧ w' = W) := fun W => by
    go_enter Try.func50, Try.ntmps50
    go_wp2
    refine wp_loop_rounds 1 ?_
    rw [rounds_succ]
    go_wp2
    exact ⟨rfl, _, results_none rfl _ _ _, rfl, rfl⟩
  have h2 : Hid (∀ W, Calls Try.prog 42 #[.slice A 0 cap, .int .i64 0, cmpF] W fun e w' => e = .returned (.tuple #[]) ∧ w' = W) := fun W => by
    go_enter Try.func42, Try.ntmps42
    go_wp2
    refine wp_loop_rounds 1 ?_
    rw [rounds_succ]
    go_wp2_with (go_at_call 50; refine (h1.out _).mono ?_; rintro e w' ⟨rfl, rfl⟩)
    refine wp_loop_rounds 1 ?_
    rw [rounds_succ]
    go_wp2
    exact ⟨rfl, _, results_none rfl _ _ _, rfl, rfl⟩
  go_enter Try.func35, Try.ntmps35
  go_wp2_with (go_at_call 42; refine (h2.out _).mono ?_; rintro e w' ⟨rfl, rfl⟩)
  exact ⟨rfl, _, results_none rfl _ _ _, rfl, rfl⟩
end Go.Proofs.Ytcdaipkkddgbeaa
