/-
  Package value: Copy. Copies in new memory.
  Package value: Copy, the walk.
-/
import Derived.Test.YtcdaipkkddgbeaaQApp
import Derived.Test.YtcdaipkkddgbeaaQSm0
import Derived.Test.YtcdaipkkddgbeaaProg
import Derived.Lib.Hide
import Derived.Deep.QuietTactic
import Derived.BigQuiet
import Derived.OwnWalk
namespace Go.Proofs.Ytcdaipkkddgbeaa
open Go.RowKit
/-- No list in it is long. -/
inductive VT.Sml : VT → Prop
  | mk (a : VP) (l : List VT) (hl : l.length ≤ 1048576) (hx : ∀ x, x ∈ l → VT.Sml x) : VT.Sml (.node a l)
theorem VT.Sml.inv {a : VP} {l : List VT} (h : VT.Sml (.node a l)) : l.length ≤ 1048576 ∧ ∀ x, x ∈ l → VT.Sml x := by
  cases h
  exact ⟨by assumption, by assumption⟩
def vCells (x : VT) : List Value := [.int .i64 x.a.k, .int .i64 x.a.n, .int .i64 x.a.sc, .string x.a.s, .slice x.a.A x.l.length x.a.cap]
def vAgg (x : VT) : Value := .agg #[.int .i64 x.a.k, .int .i64 x.a.n, .int .i64 x.a.sc, .string x.a.s, .slice x.a.A x.l.length x.a.cap]
/-- A copy in new memory is handed back. -/
def VCopied (v : VT) (w : World) (e : Ending) (w' : World) : Prop :=
  ∃ u : VT, e = .returned (.agg #[.int .i64 u.a.k, .int .i64 u.a.n, .int .i64 u.a.sc, .string u.a.s, .slice u.a.A u.l.length u.a.cap]) ∧ Below w.heap.size w w' ∧ VT.InS (New w.heap.size w') w' u ∧ VT.Sm v u
theorem vCells_len (l : List VT) : (l.flatMap vCells).length = l.length * 5 := by
  induction l with
  | nil => rfl
  | cons x l ih => rw [List.flatMap_cons, List.length_append, ih]; simp [vCells]; omega
theorem flat_at {α : Type} (f : α → List Value) (c : Nat) (hf : ∀ x, (f x).length = c) : ∀ (l : List α) (i : Nat) (x : α) (k : Nat), l[i]? = some x → k < c → (l.flatMap f)[i * c + k]? = (f x)[k]?
  | [], i, x, k, h, _ => by simp at h
  | y :: l, 0, x, k, h, hk => by
    simp at h
    subst h
    rw [List.flatMap_cons, Nat.zero_mul, Nat.zero_add, List.getElem?_append_left (by rw [hf]; exact hk)]
  | y :: l, i + 1, x, k, h, hk => by
    rw [List.flatMap_cons, List.getElem?_append_right (by rw [hf, Nat.add_mul]; omega), hf, show (i + 1) * c + k - c = i * c + k by rw [Nat.add_mul]; omega]
    exact flat_at f c hf l i x k (by simpa using h) hk
/-- Values that a row holds. -/
theorem own_values {w : World} {base n : Nat} {v : Value} {u : List VT} (h : w.ownsRow base 33 5 v n (u.flatMap vCells)) (hn : u.length = n) : ∃ (A : Option Addr) (cap : Nat), v = .slice A n cap ∧ n ≤ cap ∧ cap ≤ maxLen ∧ (A = none → n = 0 ∧ cap = 0) ∧
    ∀ (i : Nat) (x : VT), u[i]? = some x → ∃ ad : Addr, A = some ad ∧ ad.off = 0 ∧ ad.spot = none ∧ v.ownBlock = some ad.block ∧ base ≤ ad.block ∧ ad.block < w.heap.size ∧ x.At w (ad.add (i * 5)) := by
  rcases h.2 with ⟨rfl, rfl⟩ | ⟨g, cap, cur, rfl, hb, hg, h1, h2, h3, h4⟩
  · refine ⟨none, 0, rfl, Nat.le_refl _, Nat.zero_le _, fun _ => ⟨rfl, rfl⟩, fun i x hx => ?_⟩
    have := (List.getElem?_eq_some_iff.1 hx).1
    omega
  · refine ⟨some ⟨g, 0, none⟩, cap, rfl, h1, h2, (fun h => by cases h), fun i x hx => ⟨⟨g, 0, none⟩, rfl, rfl, rfl, rfl, hb, (Array.getElem?_eq_some_iff.1 hg).1, ?_⟩⟩
    have hc := fun k hk => h.cells (g := g) rfl (i * 5 + k) ((vCells x)[k]?.getD undef) (by
      rw [flat_at vCells 5 (fun _ => rfl) u i x k hx hk]
      rw [List.getElem?_eq_getElem (show k < (vCells x).length from hk)]
      rfl)
    have hadd : ∀ k, (⟨g, 0, none⟩ : Addr).add k = ⟨g, k, none⟩ := fun k => by unfold Addr.add; split <;> simp_all
    refine ⟨?_, ?_, ?_, ?_, ?_⟩
    · exact hc 0 (by omega)
    · have := hc 1 (by omega); rw [hadd] at this ⊢; exact this
    · have := hc 2 (by omega); rw [hadd] at this ⊢; exact this
    · have := hc 3 (by omega); rw [hadd] at this ⊢; exact this
    · have := hc 4 (by omega); rw [hadd] at this ⊢; exact this
set_option maxRecDepth 100000 in
theorem clipV_any (A : Option Addr) (n cap : Nat) (w : World) (h1 : n ≤ cap) (h2 : cap ≤ maxLen) (h0 : A = none → n = 0 ∧ cap = 0) :
    Calls Try.prog 25 #[.slice A n cap] w fun e w' => e = .returned (.slice A n n) ∧ w = w' := by
  unfold maxLen at h2
  cases A with
  | none =>
    obtain ⟨rfl, rfl⟩ := h0 rfl
    go_enter Try.func25, Try.ntmps25
    go_wp2
    go_ret
    exact ⟨rfl, rfl⟩
  | some ad =>
    clear h0
    go_enter Try.func25, Try.ntmps25
    go_wp2
    go_ret
    exact ⟨by simp, rfl⟩
theorem infoValue : (Try.prog.info? 33).map (fun i => (i.zero, i.size, i.bytes)) = some (some (.agg #[.int .i64 0, .int .i64 0, .int .i64 0, .string ByteArray.empty, .slice none 0 0]), 5, 64) := by kernel_rfl
end Go.Proofs.Ytcdaipkkddgbeaa
namespace Go.Proofs.Ytcdaipkkddgbeaa
open Go.RowKit
/-- What the loop has at its head: j values copied. -/
def CpRel (l : List VT) (B0 : Nat) (W0 : World) (len : Nat) (sv i : Value) (wr : World) : Prop :=
  ∃ (j : Nat) (u : List VT), j ≤ len ∧ i = .int .i64 j ∧ u.length = j ∧ wr.ownsRow B0 33 5 sv j (u.flatMap vCells) ∧ Below B0 W0 wr ∧
    (∀ (q : Nat) x y, l[q]? = some x → u[q]? = some y → VT.Sm x y) ∧ ∀ y, y ∈ u → VT.InS (Fresh B0 wr sv) wr y
theorem CpRel.step {l : List VT} {B0 : Nat} {W0 wr w2 w3 : World} {len j : Nat} {sv sv' : Value} {u : List VT} {x y : VT} (hB0 : W0.heap.size = B0) (hx : l[j]? = some x) (hj : j < len) (hu : u.length = j)
    (hown : wr.ownsRow B0 33 5 sv j (u.flatMap vCells)) (hb : Below B0 W0 wr) (hsm : ∀ (q : Nat) x y, l[q]? = some x → u[q]? = some y → VT.Sm x y) (hin : ∀ y, y ∈ u → VT.InS (Fresh B0 wr sv) wr y)
    (hb2 : Below wr.heap.size wr w2) (hlo : Nat) (hlo1 : wr.heap.size ≤ hlo) (hy : VT.InS (New hlo w2) w2 y) (hxy : VT.Sm x y) (o : Obj)
    (hown' : w3.ownsRow B0 33 5 sv' (j + 1) (u.flatMap vCells ++ vCells y)) (hg : (w2.alloc o).grownBy w3 sv.ownBlock) (hm : Moved (w2.alloc o) sv sv') :
    CpRel l B0 W0 len sv' (.int .i64 ((j : Int) + 1)) w3 := by
  have hz0 : B0 ≤ wr.heap.size := by rw [← hB0]; exact hb.size
  have hz2 := hb2.size
  have hz3 : w2.heap.size + 1 ≤ w3.heap.size := by have := hg.size; simpa using this
  have hol := hown.lt
  have hkeep : ∀ k, k < w2.heap.size → some k ≠ sv.ownBlock → w3.heap[k]? = w2.heap[k]? := fun k hk hne =>
    (hg.block k (by simp; omega) hne).trans (Below.heap_alloc w2 o k hk)
  have hnew : ∀ k, B0 ≤ k → k < w2.heap.size → some k ≠ sv.ownBlock → Fresh B0 w3 sv' k := fun k h1 h2 hne => by
    refine ⟨h1, by omega, ?_⟩
    rcases hm with hm | hm
    · rw [hm]; exact hne
    · intro e
      have := hm k e.symm
      simp at this
      omega
  refine ⟨j + 1, u ++ [y], by omega, by simp, by simp [hu], by rw [List.flatMap_append]; simpa using hown', ?_, ?_, ?_⟩
  · refine ⟨hg.os.trans (hb2.os.trans hb.os), hg.tape.trans (hb2.tape.trans hb.tape), hg.output.trans (hb2.output.trans hb.output), by have := hb.size; omega, fun k hk => ?_⟩
    rw [hkeep k (by omega) (fun e => by have := (hol k e.symm).1; omega), hb2.block k (by omega), hb.block k hk]
  · intro q a b ha hb'
    by_cases hq : q < u.length
    · rw [List.getElem?_append_left hq] at hb'
      exact hsm q a b ha hb'
    · rw [List.getElem?_append_right (by omega)] at hb'
      have : q = j := by
        have := (List.getElem?_eq_some_iff.1 hb').1
        simp at this
        omega
      subst this
      rw [hu] at hb'
      simp at hb'
      subst hb'
      rw [hx] at ha
      cases ha
      exact hxy
  · intro z hz
    rcases List.mem_append.1 hz with hz | hz
    · refine (hin z hz).keep (fun k hk => ?_) (fun k hk => hnew k hk.1 (by have := hk.2.1; omega) hk.2.2)
      rw [hkeep k (by have := hk.2.1; omega) hk.2.2, hb2.block k hk.2.1]
    · simp at hz
      subst hz
      have hne : ∀ k, New hlo w2 k → some k ≠ sv.ownBlock := fun k hk e => by have := (hol k e.symm).2; have := hk.1; omega
      exact hy.keep (fun k hk => hkeep k hk.2 (hne k hk)) (fun k hk => hnew k (by have := hk.1; omega) hk.2 (hne k hk))
theorem new_cells (w : World) (cs : Array Value) (t : TypeId) (j : Nat) (u : Value) (h : cs.toList[j]? = some u) : (w.alloc (.cells cs t)).cell? ((⟨w.heap.size, 0, none⟩ : Addr).add j) = some u := by
  have hadd : (⟨w.heap.size, 0, none⟩ : Addr).add j = ⟨w.heap.size, j, none⟩ := by unfold Addr.add; split <;> simp_all
  rw [hadd, cell_new, ← Array.getElem?_toList]
  exact h
theorem vCells_one (x : VT) : ∀ u, u ∈ vCells x → u.oneCell' = true := by
  intro u hu
  simp [vCells] at hu
  rcases hu with rfl | rfl | rfl | rfl | rfl <;> rfl
set_option maxRecDepth 100000 in
set_option maxHeartbeats 4000000 in
theorem vCopy_any : ∀ (v : VT) (B : Nat) (w : World), VT.In B w v → B ≤ w.heap.size → VT.Sml v →
    Calls Try.prog 24 #[.agg #[.int .i64 v.a.k, .int .i64 v.a.n, .int .i64 v.a.sc, .string v.a.s, .slice v.a.A v.l.length v.a.cap]] w (VCopied v w) := by
  refine VT.ind fun a l ih B w hin hB hsm => ?_
  obtain ⟨k, n, sc, s, A, cap⟩ := a
  obtain ⟨hk, hn, hsc, hs, hr, hl⟩ := hin.parts
  obtain ⟨hlen4, hsml⟩ := hsm.inv
  simp only [VT.a_node, VT.l_node] at hr hk hn hsc hs ⊢
  obtain ⟨len, hlen⟩ : ∃ len, l.length = len := ⟨_, rfl⟩
  rw [hlen] at hlen4 ⊢
  have hlen' := Lib.hid hlen
  clear hlen
  obtain ⟨i0, hi, iz, isz, iby⟩ := info_parts infoValue
  obtain ⟨W0, hW0⟩ : ∃ W0, (w.alloc (.cells #[.int .i64 k, .int .i64 n, .int .i64 sc, .string s, .slice A len cap] 33)).alloc (.cells #[.int .i64 0, .int .i64 0, .int .i64 0, .string ⟨#[]⟩, .slice none 0 0] 33) = W0 := ⟨_, rfl⟩
  have hbw : Below w.heap.size w W0 := by rw [← hW0]; exact bel2 _ _ _
  have hzW0 : W0.heap.size = w.heap.size + 2 := by rw [← hW0]; simp
  have p0 : W0.cell? ⟨w.heap.size, 0, none⟩ = some (.int .i64 k) := by rw [← hW0]; simp
  have p1 : W0.cell? ⟨w.heap.size, 1, none⟩ = some (.int .i64 n) := by rw [← hW0]; simp
  have p2 : W0.cell? ⟨w.heap.size, 2, none⟩ = some (.int .i64 sc) := by rw [← hW0]; simp
  have p3 : W0.cell? ⟨w.heap.size, 3, none⟩ = some (.string s) := by rw [← hW0]; simp
  have p4 : W0.cell? ⟨w.heap.size, 4, none⟩ = some (.slice A len cap) := by rw [← hW0]; simp
  have P0 : W0.heap[w.heap.size]? = some (.cells #[.int .i64 k, .int .i64 n, .int .i64 sc, .string s, .slice A len cap] 33 (0, 0)) := by rw [← hW0, Below.heap_alloc _ _ _ (by simp)]; exact heap_alloc_new w _
  have P1 : W0.heap[w.heap.size + 1]? = some (.cells #[.int .i64 0, .int .i64 0, .int .i64 0, .string ⟨#[]⟩, .slice none 0 0] 33 (0, 0)) := by
    rw [← hW0]
    have := heap_alloc_new (w.alloc (.cells #[.int .i64 k, .int .i64 n, .int .i64 sc, .string s, .slice A len cap] 33)) (.cells #[.int .i64 0, .int .i64 0, .int .i64 0, .string ⟨#[]⟩, .slice none 0 0] 33)
    simpa using this
  have HP0 := Lib.hid P0
  have HP1 := Lib.hid P1
  clear P0 P1
  have HW0 := Lib.hid hW0
  have Hr := Lib.hid hr
  have Hz := Lib.hid hzW0
  clear hW0 hr hzW0
  go_enter Try.func24, Try.ntmps24
  go_wp2
  rw [HW0.out]
  clear HW0
  go_loopw [3, 9] (fun sv i wr => CpRel l (w.heap.size + 2) W0 len sv i wr) (fun _ i _ => len - (intOf i).toNat)
  case atStart => exact ⟨0, [], Nat.zero_le _, rfl, rfl, World.ownsRow_nil _ _ _ _, Below.refl _ _, (fun q x y _ h => by simp at h), (fun y h => by simp at h)⟩
  case round =>
    obtain ⟨j, u, hj, rfl, hu, hown, hbr, hsm', hinu⟩ := hrel
    have hzr : w.heap.size + 2 ≤ wr.heap.size := by rw [← Hz.out]; exact hbr.size
    have hSr : Same B w wr := (Same.mono (Same.of_below hbw) hB).trans (Same.mono (Same.of_below hbr) (by omega))
    by_cases hlt : j < len
    · obtain ⟨x, ad, hx, rfl, hb, d0, d1, d2, d3, d4⟩ := (Hr.out.keep hSr).get (show j < l.length by rw [hlen'.out]; exact hlt)
      obtain ⟨o1, ho1⟩ : ∃ o1, Obj.cells #[.int .i64 x.a.k, .int .i64 x.a.n, .int .i64 x.a.sc, .string x.a.s, .slice x.a.A x.l.length x.a.cap] 33 = o1 := ⟨_, rfl⟩
      obtain ⟨W1, hW1⟩ : ∃ W1, wr.alloc o1 = W1 := ⟨_, rfl⟩
      have hbW1 : Below wr.heap.size wr W1 := by rw [← hW1]; exact bel1 _ _
      have hzW1 : W1.heap.size = wr.heap.size + 1 := by rw [← hW1]; simp
      have hic := Lib.hid (ih x (mem_of_get? hx) B W1 ((hl x (mem_of_get? hx)).keep (hSr.trans (Same.mono (Same.of_below hbW1) (by omega)))) (by omega) (hsml x (mem_of_get? hx)))
      have HW1 := Lib.hid hW1
      have Ho1 := Lib.hid ho1
      have Hx := Lib.hid hx
      have HzW1 := Lib.hid hzW1
      have Hu := Lib.hid hu
      have Hsm := Lib.hid hsm'
      have Hinu := Lib.hid hinu
      have Hown := Lib.hid hown
      clear hW1 ho1 hx ih hl hsml hzW1 hu hsm' hinu hown hin hsm hlen' Hr
      go_wp2_with fail
      rw [Ho1.out, HW1.out]
      refine hic.out.mono ?_
      rintro e w2 ⟨y, rfl, hb2, hy, hxy⟩
      have hbr2 : Below wr.heap.size wr w2 := hbW1.trans (hb2.mono (by have := HzW1.out; omega))
      have hz2 := hbr2.size
      have hownY := (own_below Hown.out hbr2)
      have h3 : Hid (j + 1 ≤ maxLen) := by show _ ≤ _; unfold maxLen; omega
      have h4 : Hid ((j + 1) * 64 ≤ 140737488355328) := by show _ ≤ _; omega
      have h5 : Hid (∀ o, w.heap.size + 2 ≤ (w2.alloc o).heap.size) := fun o => by simp; omega
      go_wp2_with (at_builtin; refine wpList_append_own2 _ rfl _ _ 27 rfl (w.heap.size + 2) 33 i0 _ 5 64 Try.underlying27 hi iz isz iby rfl (by decide) _ j (u.flatMap vCells) rfl (hownY.alloc _) ⟨w2.heap.size, 0, none⟩ 1 1 (vCells y) rfl (by decide) rfl (fun q u' h => new_cells _ _ _ q u' h) (vCells_one y) h3.out h4.out (h5.out _) ?_; intro sv' w3 hown3 hg3 hm3)
      have hst := CpRel.step Hz.out Hx.out hlt Hu.out Hown.out hbr Hsm.out Hinu.out hbr2 W1.heap.size (by have := HzW1.out; omega) hy hxy _ hown3 hg3 hm3
      have Hst := Lib.hid hst
      clear hst hown3 hg3 hm3 hownY
      go_wp2
      go_roundw
      case rel => exact Hst.out
      case measure => simp [intOf]; omega
    · obtain ⟨A', cap', rfl, ha, hb', hc', hat⟩ := own_values hown hu
      obtain rfl : j = len := by omega
      have clip := Lib.hid (clipV_any A' j cap' wr ha hb' hc')
      obtain ⟨W2, hW2⟩ : ∃ W2 : World, W2 = wr := ⟨_, rfl⟩
      have Q0 : wr.heap[w.heap.size]? = some (.cells #[.int .i64 k, .int .i64 n, .int .i64 sc, .string s, .slice A j cap] 33 (0, 0)) := (hbr.block _ (by omega)).trans HP0.out
      have cQ00 := cell_of_row wr (w.heap.size) 0 _ _ _ Q0
      have fQ00 : wr.frozen? ⟨w.heap.size, 0, none⟩ = false := by simp [World.frozen?, Q0]
      have cQ01 := cell_of_row wr (w.heap.size) 1 _ _ _ Q0
      have fQ01 : wr.frozen? ⟨w.heap.size, 1, none⟩ = false := by simp [World.frozen?, Q0]
      have cQ02 := cell_of_row wr (w.heap.size) 2 _ _ _ Q0
      have fQ02 : wr.frozen? ⟨w.heap.size, 2, none⟩ = false := by simp [World.frozen?, Q0]
      have cQ03 := cell_of_row wr (w.heap.size) 3 _ _ _ Q0
      have fQ03 : wr.frozen? ⟨w.heap.size, 3, none⟩ = false := by simp [World.frozen?, Q0]
      have cQ04 := cell_of_row wr (w.heap.size) 4 _ _ _ Q0
      have fQ04 : wr.frozen? ⟨w.heap.size, 4, none⟩ = false := by simp [World.frozen?, Q0]
      have Q1 : wr.heap[w.heap.size + 1]? = some (.cells #[.int .i64 0, .int .i64 0, .int .i64 0, .string ⟨#[]⟩, .slice none 0 0] 33 (0, 0)) := (hbr.block _ (by omega)).trans HP1.out
      have cQ10 := cell_of_row wr (w.heap.size + 1) 0 _ _ _ Q1
      have fQ10 : wr.frozen? ⟨w.heap.size + 1, 0, none⟩ = false := by simp [World.frozen?, Q1]
      have cQ11 := cell_of_row wr (w.heap.size + 1) 1 _ _ _ Q1
      have fQ11 : wr.frozen? ⟨w.heap.size + 1, 1, none⟩ = false := by simp [World.frozen?, Q1]
      have cQ12 := cell_of_row wr (w.heap.size + 1) 2 _ _ _ Q1
      have fQ12 : wr.frozen? ⟨w.heap.size + 1, 2, none⟩ = false := by simp [World.frozen?, Q1]
      have cQ13 := cell_of_row wr (w.heap.size + 1) 3 _ _ _ Q1
      have fQ13 : wr.frozen? ⟨w.heap.size + 1, 3, none⟩ = false := by simp [World.frozen?, Q1]
      have cQ14 := cell_of_row wr (w.heap.size + 1) 4 _ _ _ Q1
      have fQ14 : wr.frozen? ⟨w.heap.size + 1, 4, none⟩ = false := by simp [World.frozen?, Q1]
      simp at cQ00 cQ01 cQ02 cQ03 cQ04 cQ10 cQ11 cQ12 cQ13 cQ14
      clear Q0 Q1
      have Hsm := Lib.hid hsm'
      have Hinu := Lib.hid hinu
      have Hat := Lib.hid hat
      have Hu := Lib.hid hu
      clear ih hl hsml hsm' hinu hown hat hu
      go_wp2_with fail
      refine clip.out.mono ?_
      rintro e w' ⟨rfl, rfl⟩
      go_wp2
      refine bodyPost_ret (v := .agg #[.int .i64 k, .int .i64 n, .int .i64 sc, .string s, .slice A' j j]) (by simp [results, Try.results24, go_sem, *]) rfl ?_
      have hkeep : ∀ q, w.heap.size + 2 ≤ q → ((((((wr.setCell ⟨w.heap.size, 4, none⟩ (Value.slice A' j j)).setCell ⟨w.heap.size + 1, 0, none⟩ (Value.int IntKind.i64 k)).setCell ⟨w.heap.size + 1, 1, none⟩ (Value.int IntKind.i64 n)).setCell ⟨w.heap.size + 1, 2, none⟩ (Value.int IntKind.i64 sc)).setCell ⟨w.heap.size + 1, 3, none⟩ (Value.string s)).setCell ⟨w.heap.size + 1, 4, none⟩ (Value.slice A' j j)).heap[q]? = wr.heap[q]? := fun q hq => by
        rw [Below.heap_setCell _ _ _ _ (by simp; omega), Below.heap_setCell _ _ _ _ (by simp; omega), Below.heap_setCell _ _ _ _ (by simp; omega), Below.heap_setCell _ _ _ _ (by simp; omega), Below.heap_setCell _ _ _ _ (by simp; omega), Below.heap_setCell _ _ _ _ (by simp; omega)]
      have hbel : Below w.heap.size w ((((((wr.setCell ⟨w.heap.size, 4, none⟩ (Value.slice A' j j)).setCell ⟨w.heap.size + 1, 0, none⟩ (Value.int IntKind.i64 k)).setCell ⟨w.heap.size + 1, 1, none⟩ (Value.int IntKind.i64 n)).setCell ⟨w.heap.size + 1, 2, none⟩ (Value.int IntKind.i64 sc)).setCell ⟨w.heap.size + 1, 3, none⟩ (Value.string s)).setCell ⟨w.heap.size + 1, 4, none⟩ (Value.slice A' j j)) :=
        ((((((hbw.trans (hbr.mono (by omega))).setCell (by simp) _).setCell (by simp) _).setCell (by simp) _).setCell (by simp) _).setCell (by simp) _).setCell (by simp) _
      obtain ⟨W', hW'⟩ : ∃ W', ((((((wr.setCell ⟨w.heap.size, 4, none⟩ (Value.slice A' j j)).setCell ⟨w.heap.size + 1, 0, none⟩ (Value.int IntKind.i64 k)).setCell ⟨w.heap.size + 1, 1, none⟩ (Value.int IntKind.i64 n)).setCell ⟨w.heap.size + 1, 2, none⟩ (Value.int IntKind.i64 sc)).setCell ⟨w.heap.size + 1, 3, none⟩ (Value.string s)).setCell ⟨w.heap.size + 1, 4, none⟩ (Value.slice A' j j)) = W' := ⟨_, rfl⟩
      have hzW' : W'.heap.size = wr.heap.size := by rw [← hW']; simp [World.setCell]
      rw [hW'] at hkeep hbel ⊢
      refine ⟨.node ⟨k, n, sc, s, A', j⟩ u, by simp only [VT.a_node, VT.l_node]; rw [Hu.out], hbel, ?_, .mk _ _ _ _ rfl rfl rfl rfl (by rw [Hu.out, hlen'.out]) Hsm.out⟩
      refine .mk k n sc s A' j u hk hn hsc hs ⟨by rw [Hu.out]; exact Nat.le_refl _, Nat.le_trans ha hb', fun i x hx => ?_⟩ fun x hx => ?_
      · obtain ⟨ad, e1, _, _, _, e2, e3, e4⟩ := Hat.out i x hx
        exact ⟨ad, e1, ⟨by omega, by omega⟩, e4.keepS (S := fun q => w.heap.size + 2 ≤ q) hkeep (by rw [block_add]; exact e2)⟩
      · exact (Hinu.out x hx).keep (fun q hq => hkeep q hq.1) (fun q hq => ⟨by have := hq.1; omega, by have := hq.2.1; omega⟩)
end Go.Proofs.Ytcdaipkkddgbeaa
