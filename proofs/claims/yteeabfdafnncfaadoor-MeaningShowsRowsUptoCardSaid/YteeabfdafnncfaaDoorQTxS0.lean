/-
  Rows of texts that grow; and Join of them.
-/
import Derived.Test.YteeabfdafnncfaaDoorQApp
import Derived.Test.YteeabfdafnncfaaDoorQTxDb
import Derived.OwnWalk
namespace Go.Proofs.YteeabfdafnncfaaDoor
open Go.RowKit

/-- Every value in it is sound by itself. -/
inductive OkV : VT → Prop
  | mk (a : VP) (l : List VT) (h : aloneS a.k a.n a.sc a.s l.length = true) (hl : ∀ x, x ∈ l → OkV x) : OkV (.node a l)
theorem OkV.inv {a : VP} {l : List VT} (h : OkV (.node a l)) : aloneS a.k a.n a.sc a.s l.length = true ∧ ∀ x, x ∈ l → OkV x := by
  cases h
  exact ⟨by assumption, by assumption⟩
theorem ok_of_sd : ∀ (v : VT) (lv c : Int), (sdV lv c v).1 = true → OkV v := by
  refine VT.ind fun a l ih lv c h => ?_
  have hs : ∀ (r : List VT), (∀ x, x ∈ r → x ∈ l) → ∀ c, (sdVs (lv + 1) c r).1 = true → ∀ x, x ∈ r → OkV x := by
    intro r
    induction r with
    | nil => intro _ c _ x hx; cases hx
    | cons x r ihr =>
      intro hm c h y hy
      unfold sdVs at h
      split at h
      · rename_i h1
        rcases List.mem_cons.1 hy with rfl | hy
        · exact ih y (hm y (by simp)) _ _ h1
        · exact ihr (fun z hz => hm z (by simp [hz])) _ h y hy
      · rename_i h1; exact absurd h h1
  unfold sdV at h
  generalize (if a.k = 0 then c else c + 1) = c1 at h
  by_cases hn : lv > 4 ∨ c1 > 256 ∨ aloneS a.k a.n a.sc a.s l.length = false
  · rw [if_pos hn] at h; cases h
  · rw [if_neg hn] at h
    have ha : aloneS a.k a.n a.sc a.s l.length = true := by
      cases hh : aloneS a.k a.n a.sc a.s l.length
      · exact absurd (.inr (.inr hh)) hn
      · rfl
    exact .mk a l ha (hs l (fun _ h => h) _ h)

/-- Texts, as the cells of a row. -/
def strRow (L : List (List UInt8)) : List Value := L.map fun l => .string (bs l)
theorem infoStr : (Tryd.prog.info? 9).map (fun i => (i.zero, i.size, i.bytes)) = some (some (.string ⟨#[]⟩), 1, 16) := by kernel_rfl
theorem info_str : ∃ i, (Tryd.prog).info? 9 = some i ∧ i.zero = some (.string ⟨#[]⟩) ∧ i.size = 1 ∧ i.bytes = 16 := by
  have := infoStr
  rw [Option.map_eq_some_iff] at this
  obtain ⟨i, h1, h2⟩ := this
  simp only [Prod.mk.injEq] at h2
  exact ⟨i, h1, h2.1, h2.2.1, h2.2.2⟩
theorem strOwn_below {w w' : World} {B e size n : Nat} {v : Value} {xs : List Value} (h : w.ownsRow B e size v n xs) (hb : Below w.heap.size w w') : w'.ownsRow B e size v n xs := by
  refine ⟨h.1, ?_⟩
  rcases h.2 with hn | ⟨g, cap, cur, e1, e2, e3, rest⟩
  · exact .inl hn
  · exact .inr ⟨g, cap, cur, e1, e2, (hb.block g (Array.getElem?_eq_some_iff.1 e3).1).trans e3, rest⟩
theorem strNew (w : World) (o : Value) (t : TypeId) : ∀ (q : Nat) (u : Value), [o][q]? = some u → (w.alloc (.cells #[o] t)).cell? (({ block := w.heap.size, off := 0 } : Addr).add q) = some u := by
  intro q u h
  have hq : q = 0 := by
    have := (List.getElem?_eq_some_iff.1 h).1
    simp at this
    omega
  subst hq
  simp at h
  subst h
  simp [Addr.add]
/-- strings.Join of a row of texts. -/
theorem join_own {w : World} {base n : Nat} {v : Value} {L : List (List UInt8)} {sep : List UInt8} (h : w.ownsRow base 9 1 v n (strRow L)) (hn : L.length = n) (hsep : 1 ≤ sep.length) (hlen : (Lib.join L sep).length ≤ 140737488355000) :
    Calls Tryd.prog 8 #[v, .string (bs sep)] w fun e w' => e = .returned (.string (bs (Lib.join L sep))) ∧ Below w.heap.size w w' := by
  have hc := join_count L sep hsep
  rcases h.2 with ⟨rfl, rfl⟩ | ⟨g, cap, cur, rfl, hb, hg, h1, h2, h3, h4⟩
  · have hL : L = [] := List.eq_nil_of_length_eq_zero hn
    subst hL
    exact (Tryd.strings_Join_none none 0 (bs sep) w).mono fun e w' ⟨he, hw⟩ => ⟨he, by rw [hw]; exact Below.refl _ _⟩
  · have hx : (L.map bs).map (·.data.toList) = L := by
      rw [List.map_map]
      conv => rhs; rw [← List.map_id L]
      exact List.map_congr_left fun l _ => bs_list l
    have := Tryd.strings_Join g 0 cap (L.map bs) (bs sep) w (fun j x hx => by
      have := h.cells (g := g) rfl j (.string x) (by unfold strRow; rw [List.getElem?_map] at hx ⊢; cases hq : L[j]? with
        | none => rw [hq] at hx; cases hx
        | some y => rw [hq] at hx; cases hx; rfl)
      have hadd : (⟨g, 0, none⟩ : Addr).add j = ⟨g, 0 + j, none⟩ := by unfold Addr.add; split <;> simp_all
      rw [hadd] at this
      exact this) (Array.getElem?_eq_some_iff.1 hg).1 (by rw [List.length_map]; omega) (by rw [List.length_map, hn]; exact h1) (by rw [hx, bs_list]; omega)
    rw [List.length_map, hn, hx, bs_list] at this
    exact this
/-- A loop that appends the text of each value. -/
def StR (f : VT → List UInt8) (L : List VT) (B0 : Nat) (W1 : World) (size : Nat) (sv i : Value) (wr : World) : Prop :=
  ∃ j : Nat, j ≤ size ∧ i = .int .i64 j ∧ wr.ownsRow B0 9 1 sv j (strRow ((L.take j).map f)) ∧ Below B0 W1 wr
theorem StR.step {f : VT → List UInt8} {L : List VT} {B0 : Nat} {W1 wr w2 w3 : World} {size j : Nat} {sv sv' : Value} {x : VT} (hB0 : W1.heap.size = B0) (hx : L[j]? = some x) (hj : j < size) (hown : wr.ownsRow B0 9 1 sv j (strRow ((L.take j).map f))) (hb : Below B0 W1 wr)
    (hb2 : Below wr.heap.size wr w2) (o : Obj) (hown' : w3.ownsRow B0 9 1 sv' (j + 1) (strRow ((L.take j).map f) ++ [.string (bs (f x))])) (hg : (w2.alloc o).grownBy w3 sv.ownBlock) : StR f L B0 W1 size sv' (.int .i64 ((j : Int) + 1)) w3 := by
  have hol := hown.lt
  have hz2 := hb2.size
  have hz := hb.size
  refine ⟨j + 1, by omega, by simp, by rw [List.take_add_one, hx, List.map_append]; unfold strRow at hown' ⊢; rw [List.map_append]; simpa using hown', ?_⟩
  refine ⟨hg.os.trans (hb2.os.trans hb.os), hg.tape.trans (hb2.tape.trans hb.tape), hg.output.trans (hb2.output.trans hb.output), by have := hg.size; simp at this; omega, fun k hk => ?_⟩
  rw [hg.block k (by simp; omega) (fun e => by have := (hol k e.symm).1; omega), Below.heap_alloc _ _ _ (by omega), hb2.block k (by omega), hb.block k hk]
end Go.Proofs.YteeabfdafnncfaaDoor
