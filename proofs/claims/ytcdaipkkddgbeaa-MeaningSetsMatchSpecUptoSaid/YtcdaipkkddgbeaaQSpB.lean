/-
  Package meaning: sorted.
-/
import Derived.Test.YtcdaipkkddgbeaaQSpA
namespace Go.Proofs.Ytcdaipkkddgbeaa
open Go.RowKit
/-- The first n of a function's values. -/
def lst {α : Type} (f : Nat → α) (n : Nat) : List α := (List.range n).map f
theorem lst_len {α : Type} (f : Nat → α) (n : Nat) : (lst f n).length = n := by simp [lst]
theorem lst_get {α : Type} (f : Nat → α) {n i : Nat} (h : i < n) : (lst f n)[i]? = some (f i) := by simp [lst, h]
theorem lst_get_lt {α : Type} {f : Nat → α} {n i : Nat} {x : α} (h : (lst f n)[i]? = some x) : i < n ∧ x = f i := by
  have hi : i < n := by
    have := (List.getElem?_eq_some_iff.1 h).1
    rwa [lst_len] at this
  rw [lst_get f hi] at h
  exact ⟨hi, (Option.some.inj h).symm⟩
theorem lst_count {α : Type} (p : α → Bool) (f : Nat → α) : ∀ n, (lst f n).countP p = cnt p f n
  | 0 => rfl
  | n + 1 => by
    have ih := lst_count p f n
    unfold lst at ih ⊢
    rw [List.range_succ, List.map_append, List.countP_append, ih]
    simp only [cnt, List.map_cons, List.map_nil, List.countP_cons, List.countP_nil]
    cases p (f n) <;> simp
theorem lst_of (l : List VT) (d : VT) : lst (fun i => l.getD i d) l.length = l := by
  apply List.ext_getElem?
  intro i
  by_cases hi : i < l.length
  · rw [lst_get _ hi, List.getD_eq_getElem?_getD, List.getElem?_eq_getElem hi]; rfl
  · rw [List.getElem?_eq_none (by rw [lst_len]; omega), List.getElem?_eq_none (by omega)]
/-- Rows in order. -/
def SortL (l : List VT) : Prop := ∀ (i j : Nat) x y, i ≤ j → l[i]? = some x → l[j]? = some y → 0 ≤ cmpR y x
theorem SortL.of {f : Nat → VT} {n : Nat} (h : SortedOn ltR f 0 n) : SortL (lst f n) := fun i j x y hij hx hy => by
  obtain ⟨_, rfl⟩ := lst_get_lt hx
  obtain ⟨hj, rfl⟩ := lst_get_lt hy
  have := h i j (Nat.zero_le _) hij hj
  unfold ltR at this
  rw [decide_eq_false_iff_not] at this
  omega
/-- What sorted comes to. -/
def SoPost (rows : List VT) (B : Nat) (w : World) (e : Ending) (w' : World) : Prop :=
  ∃ (A : Option Addr) (cap : Nat) (R : List VT), e = .returned (.slice A R.length cap) ∧ Below w.heap.size w w' ∧ R.length = rows.length ∧ SortL R ∧ (∀ p, R.countP p = rows.countP p) ∧ (∀ r, r ∈ R → r ∈ rows) ∧
    ∀ w'', Keeps w.heap.size w' w'' → Same B w w'' → VT.RRow w''.heap.size w'' A cap R
theorem ch_below {w w1 w2 : World} {g : Nat} (h : Ch g w1 w2) (hb : Below w.heap.size w w1) (hg : w.heap.size ≤ g) : Below w.heap.size w w2 :=
  ⟨h.os.trans hb.os, h.tape.trans hb.tape, h.output.trans hb.output, Nat.le_trans hb.size h.size, fun k hk => (h.block k (Nat.lt_of_lt_of_le hk hb.size) (by omega)).trans (hb.block k hk)⟩
theorem own_hf {w : World} {base n : Nat} {v : Value} {l : List VT} {t : TypeId} (h : w.ownsRow base t 1 v n (l.map rwV)) (hn : l.length = n) (h0 : 0 < n) (d : VT) :
    ∃ g cap, v = .slice (some ⟨g, 0, none⟩) n cap ∧ base ≤ g ∧ n ≤ cap ∧ cap ≤ maxLen ∧ HF w g n (fun i => l.getD i d) := by
  rcases h.2 with ⟨rfl, rfl⟩ | ⟨g, cap, cur, rfl, hb, hg, h1, h2, h3, h4⟩
  · omega
  · refine ⟨g, cap, rfl, hb, h1, h2, cur, t, hg, by omega, fun i hi => ?_⟩
    rw [Nat.mul_one] at h4
    have : (cur.toList.take n)[i]? = some (rwV (l.getD i d)) := by
      rw [h4, List.getElem?_map, List.getD_eq_getElem?_getD, List.getElem?_eq_getElem (by omega)]
      rfl
    rw [List.getElem?_take, if_pos hi, Array.getElem?_toList] at this
    exact this
theorem HF.rrow {w : World} {g n cap B : Nat} {f : Nat → VT} (h : HF w g n f) (hc : n ≤ cap) (hm : cap ≤ maxLen) (hr : RwOk B w n f) (hB : B ≤ w.heap.size) : VT.RRow w.heap.size w (some ⟨g, 0, none⟩) cap (lst f n) := by
  refine ⟨by rw [lst_len]; exact hc, hm, fun x hx => ?_, fun i x hx => ?_⟩
  · obtain ⟨i, hi⟩ := List.getElem?_of_mem hx
    obtain ⟨hin, rfl⟩ := lst_get_lt hi
    exact ⟨(hr i hin).1.more hB, fun y hy => ((hr i hin).2 y hy).more hB⟩
  · obtain ⟨hin, rfl⟩ := lst_get_lt hx
    refine ⟨⟨g, 0, none⟩, rfl, h.lt, ?_⟩
    have hadd : (⟨g, 0, none⟩ : Addr).add i = ⟨g, i, none⟩ := by unfold Addr.add; split <;> simp_all
    rw [hadd]
    exact h.cell hin
set_option maxRecDepth 100000 in
set_option maxHeartbeats 1000000 in
theorem msorted_any (A : Option Addr) (cap : Nat) (rows : List VT) (B : Nat) (w : World) (hr : VT.RRow B w A cap rows) (hB : B ≤ w.heap.size) (hn : rows.length ≤ 1048576) :
    Calls Try.prog 26 #[.slice A rows.length cap] w (SoPost rows B w) := by
  have hcl := Lib.hid (cloneR_any A cap rows B w (crow_of hr) hn)
  have Hr := Lib.hid hr
  clear hr
  obtain ⟨n, hn'⟩ : ∃ n, rows.length = n := ⟨_, rfl⟩
  rw [hn'] at hcl hn ⊢
  have Hn := Lib.hid hn'
  clear hn'
  go_enter Try.func26, Try.ntmps26
  go_wp2_with fail
  refine hcl.out.mono ?_
  rintro e w1 ⟨v, rfl, hown, hb⟩
  have Hb := Lib.hid hb
  by_cases h0 : n = 0
  · obtain ⟨A1, c1, rfl, hrow, hnil⟩ := own_list hown Hn.out
    have hrow := Lib.hid hrow
    have hso := Lib.hid (sortStable_nil A1 c1 w1)
    subst h0
    clear hown hnil hcl hb
    go_wp2_with (go_at_call 35; refine (hso.out).mono ?_; rintro e w' ⟨rfl, rfl⟩)
    go_ret
    have hz : rows = [] := List.length_eq_zero_iff.1 Hn.out
    subst hz
    exact ⟨A1, c1, [], rfl, Hb.out, rfl, (fun i j x y _ h => by simp at h), (fun p => rfl), (fun r h => by cases h), fun w'' _ _ => ⟨Nat.zero_le _, hrow.out.2.1, (fun x h => by cases h), (fun i x h => by simp at h)⟩⟩
  · obtain ⟨g, c1, rfl, hg, hc1, hm1, hhf⟩ := own_hf hown Hn.out (by omega) (.node ⟨0, 0, 0, ByteArray.empty, none, 0⟩ [])
    have hRw : RwOk B w1 n (fun i => rows.getD i (.node ⟨0, 0, 0, ByteArray.empty, none, 0⟩ [])) := fun i hi => by
      have hi2 : i < rows.length := by rw [Hn.out]; exact hi
      have := Hr.out.2.2.1 (rows[i]) (List.getElem_mem hi2)
      have e : rows.getD i (.node ⟨0, 0, 0, ByteArray.empty, none, 0⟩ []) = rows[i] := by rw [List.getD_eq_getElem?_getD, List.getElem?_eq_getElem hi2]; rfl
      simp only [e]
      exact this.keep (Same.mono (Same.of_below hb) hB)
    have hso := Lib.hid (sortStable_any cmpOk g n c1 B _ w1 hhf hRw (Nat.le_trans hB hb.size) (by omega) (by omega))
    have HRw := Lib.hid hRw
    clear hown hhf hcl hRw hb
    go_wp2_with fail
    refine hso.out.mono ?_
    rintro e w2 ⟨rfl, f', hS, hO⟩
    have HS := Lib.hid hS
    have HO := Lib.hid hO
    clear hS hO hso
    go_wp2
    go_ret
    refine ⟨some ⟨g, 0, none⟩, c1, lst f' n, (by rw [lst_len]; rfl), ch_below HS.out.ch Hb.out hg, (by rw [lst_len, Hn.out]), SortL.of HO.out, fun p => ?_, fun r hr => ?_, fun w'' hk hS => ?_⟩
    · rw [lst_count, HS.out.sw.cnt p (Nat.le_refl _), ← lst_count, ← Hn.out, lst_of]
    · obtain ⟨i, hi⟩ := List.getElem?_of_mem hr
      obtain ⟨hin, rfl⟩ := lst_get_lt hi
      refine HS.out.sw.all (fun r => r ∈ rows) (fun j _ hj => ?_) i (Nat.zero_le _) hin
      have hj2 : j < rows.length := by rw [Hn.out]; exact hj
      show rows.getD j _ ∈ rows
      rw [List.getD_eq_getElem?_getD, List.getElem?_eq_getElem hj2]
      exact List.getElem_mem hj2
    · have hh := HS.out.hold.keep (hk.1 g hg HS.out.hold.lt)
      have hBb := Hb.out.size
      have hz2 := HS.out.ch.size
      refine hh.rrow hc1 hm1 (B := B) (fun i hi => ?_) (by have := hk.2; omega)
      exact (HS.out.sw.all (fun r => VT.Rows B w'' r.a.A r.a.cap r.l) (fun j _ hj => by
        have := HRw.out j hj
        refine this.keep fun k hk2 => ?_
        exact (hS k hk2).trans (Hb.out.block k (by omega)).symm) i (Nat.zero_le _) hi)
end Go.Proofs.Ytcdaipkkddgbeaa
