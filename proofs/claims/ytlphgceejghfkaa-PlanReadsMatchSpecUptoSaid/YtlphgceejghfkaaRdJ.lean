/-
  plan.Reads, walked.
-/
import Derived.Test.YtlphgceejghfkaaRdI
namespace Go.Proofs.Ytlphgceejghfkaa
open Go.RowKit Go.Sort
theorem walk_all (g vb B : Nat) : ∀ f, f ≤ 1048576 → HE g vb B f ∧ HR g vb B f
  | 0, _ => ⟨fun e v w L S he hS hn => by have := e.n_pos; omega, fun d above pa v w L S hd hS hab hpn hn => by have := d.n_pos; omega⟩
  | f + 1, hf => by
    obtain ⟨hE, hR⟩ := walk_all g vb B f (by omega)
    exact ⟨wexpr_step g vb B f hf hE hR, wrel_step g vb B f hf hE hR⟩
/-- What comes back: slices of numbers. -/
def RdOut (L : List (List Int)) (w : World) (e : Ending) (w' : World) : Prop := ∃ (A : Option Addr) (cap : Nat) (xs : List Value), e = .returned (.slice A L.length cap) ∧ SrcAt w' A xs ∧ RR w' xs L ∧ Below w.heap.size w w'
set_option maxRecDepth 100000 in
set_option maxHeartbeats 2000000 in
theorem pReads_any (f : Nat) (hf : f ≤ 1048576) (d : DT) (S : Nat → Prop) (w : World) (hd : DT.In S w .rel d) (hS : ∀ k, S k → k < w.heap.size) (hn : d.n ≤ f) :
    Calls Try.prog 8 #[.agg d.c.toArray] w (RdOut (readsR f d (upTo (dLen d 4))) w) := by
  have hmf : ∀ (fn : Fn) (first cap : Array Value) (w : World), (Instr.makeFunc fn first cap).run Try.prog w = .ok (.func fn first cap) w := fun _ _ _ _ => rfl
  have hlen := hd.len
  have HiR : Hid ((Try.prog.info? 34).map (·.size) = some d.c.length) := by show _ = _; rw [hlen]; exact sizeRel
  have hL : (readsR f d (upTo (dLen d 4))).length ≤ 1048576 := by have := (reads_len f).1 d (upTo (dLen d 4)); omega
  obtain ⟨L, hLe⟩ : ∃ L, readsR f d (upTo (dLen d 4)) = L := ⟨_, rfl⟩
  have hW : Hid (∀ W v, WInv (w.heap.size + 2) (w.heap.size + 1) (w.heap.size + 1) W v [] → Below w.heap.size w W → Calls Try.prog 25 #[.pointer (some ⟨w.heap.size + 2, 0, none⟩), .agg d.c.toArray, .pointer none] W (WPost (w.heap.size + 2) (w.heap.size + 1) (w.heap.size + 1) v L W)) := fun W v hi hb => by
    have h := (walk_all (w.heap.size + 2) (w.heap.size + 1) (w.heap.size + 1) f hf).2 d none none v W [] S (hd.keep (fun k hk => hb.block k (hS k hk)) (fun _ h => h)) (fun k hk => by have := hS k hk; omega) rfl (fun p hp => by cases hp) hn hi (by show 0 + (readsR f d (upTo (dLen d 4))).length ≤ _; omega)
    rw [List.nil_append, show ownOf none d = upTo (dLen d 4) from rfl, hLe] at h
    exact h
  rw [hLe] at hL ⊢
  have Hcell : Hid (∀ o o2 j u, d.c[j]? = some u → (((w.alloc (.cells d.c.toArray 34)).alloc o).alloc o2).cell? ((⟨w.heap.size, 0, none⟩ : Addr).add j) = some u) := fun o o2 j u hu => cell_old (cell_old (new_cells w d.c 34 j u hu) o) o2
  clear hd hS hn hlen hLe
  go_enter Try.func8, Try.ntmps8
  go_upto_region 3 with (fail)
  go_wp2_with (refine wpList_load_st rfl 34 _ rfl _ Try.underlying34 rfl ⟨w.heap.size, 0, none⟩ d.c HiR.out rfl (Hcell.out _ _) ?_)
  generalize hW3 : World.alloc _ _ = W3
  have hb3 : Below w.heap.size w W3 := by rw [← hW3]; exact bel3 _ _ _ _
  have hi3 : WInv (w.heap.size + 2) (w.heap.size + 1) (w.heap.size + 1) W3 (.slice none 0 0) [] := by
    rw [← hW3]
    refine ⟨⟨0, ?_⟩, by omega, ?_, by omega, [], World.ownsRow_nil _ _ _ _, RR.nil _⟩
    · have h := heap_alloc_new ((w.alloc (.cells d.c.toArray 34)).alloc (.cells #[.slice none 0 0] 29)) (.cells #[.int .i64 0, .func (.func 18) #[] #[.pointer (some ⟨w.heap.size + 1, 0, none⟩)]] 64)
      simpa using h
    · rw [heap_alloc_old _ _ (by simp)]
      have h := heap_alloc_new (w.alloc (.cells d.c.toArray 34)) (.cells #[.slice none 0 0] 29)
      simpa using h
  refine (hW.out W3 _ hi3 hb3).mono ?_
  rintro e w4 ⟨rfl, v4, hw4, hp4⟩
  have hb4 : Below w.heap.size w w4 := ⟨hp4.os.trans hb3.os, hp4.tape.trans hb3.tape, hp4.output.trans hb3.output, Nat.le_trans hb3.size hp4.size, fun k hk => (hp4.low hi3 k (by omega)).trans (hb3.block k hk)⟩
  obtain ⟨_, _, hv1, _, xs, hv3, hv4⟩ := hw4
  obtain ⟨A4, cap4, rfl, hsrc, hc1, hc2, _⟩ := own_src hv3
  have c4 := cell_of_row _ _ 0 _ _ _ hv1
  simp at c4
  have hcl : Hid (∀ w', Calls Try.prog 26 #[.slice A4 L.length cap4] w' fun e w'' => e = .returned (.slice A4 L.length L.length) ∧ w'' = w') := fun w' => clipR_any A4 _ cap4 w' hc1 (by unfold maxLen at hc2; exact hc2)
  have Hv4 := Lib.hid hv4
  have Hsrc := Lib.hid hsrc
  clear hv1 hv3 hv4 hsrc hi3 hW3 hp4
  go_wp2_with (go_at_call 26; refine (hcl.out _).mono ?_; rintro e w5 ⟨rfl, rfl⟩)
  go_ret
  exact ⟨A4, _, xs, rfl, Hsrc.out, Hv4.out, hb4⟩
end Go.Proofs.Ytlphgceejghfkaa
