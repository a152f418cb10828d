/-
  Package meaning: rows as texts.
-/
import Derived.Test.YteeabfdafnncfaaDoorQData3
import Derived.Test.YteeabfdafnncfaaDoorQTxSb
namespace Go.Proofs.YteeabfdafnncfaaDoor
open Go.RowKit
/-- No text of the rows is too long. -/
def RowsFit (rows : List VT) : Prop := ∀ r, r ∈ rows → (rowL r.l).length ≤ 4398046511104
theorem RowsFit.one {rows : List VT} (h : RowsFit rows) {r x : VT} (hr : r ∈ rows) (hx : x ∈ r.l) : (txtA x).length ≤ 4398046511104 :=
  Nat.le_trans (join_mem_le (List.mem_map_of_mem hx)) (h r hr)
theorem RowsFit.count {rows : List VT} (h : RowsFit rows) {r : VT} (hr : r ∈ rows) : r.l.length ≤ 4398046511105 := by
  have h1 := h r hr
  unfold rowL at h1
  have h2 := join_count (r.l.map txtA) [32, 124, 32] (by decide)
  rw [List.length_map] at h2
  omega
/-- The texts of the rows lie behind A. -/
def StrAt (w : World) (A : Option Addr) (L : List (List UInt8)) : Prop := ∀ j x, L[j]? = some x → ∃ g, A = some ⟨g, 0, none⟩ ∧ g < w.heap.size ∧ w.cell? ⟨g, 0 + j, none⟩ = some (.string (bs x))
theorem StrAt.of_own {w : World} {base n : Nat} {v : Value} {L : List (List UInt8)} (h : w.ownsRow base 9 1 v n (strRow L)) (hn : L.length = n) :
    ∃ (A : Option Addr) (cap : Nat), v = .slice A n cap ∧ StrAt w A L ∧ n ≤ cap ∧ cap ≤ maxLen ∧ (A = none → n = 0 ∧ cap = 0) := by
  rcases h.2 with ⟨rfl, rfl⟩ | ⟨g, cap, cur, rfl, hb, hg, h1, h2, h3, h4⟩
  · refine ⟨none, 0, rfl, fun j x hx => ?_, Nat.le_refl _, Nat.zero_le _, fun _ => ⟨rfl, rfl⟩⟩
    have := (List.getElem?_eq_some_iff.1 hx).1
    omega
  · refine ⟨some ⟨g, 0, none⟩, cap, rfl, fun j x hx => ⟨g, rfl, (Array.getElem?_eq_some_iff.1 hg).1, ?_⟩, h1, h2, fun h => by cases h⟩
    have := h.cells (g := g) rfl j (.string (bs x)) (by unfold strRow; rw [List.getElem?_map, hx]; rfl)
    have hadd : (⟨g, 0, none⟩ : Addr).add j = ⟨g, 0 + j, none⟩ := by unfold Addr.add; split <;> simp_all
    rw [hadd] at this
    exact this
theorem StrAt.below {w w' : World} {A : Option Addr} {L : List (List UInt8)} (h : StrAt w A L) (hb : Below w.heap.size w w') : StrAt w' A L := fun j x hx => by
  obtain ⟨g, e, hg, hc⟩ := h j x hx
  exact ⟨g, e, Nat.lt_of_lt_of_le hg hb.size, (hb.cell (p := ⟨g, 0 + j, none⟩) hg).trans hc⟩
def rowT (r : VT) : List UInt8 := rowL r.l
def ShPost (rows : List VT) (w : World) (e : Ending) (w' : World) : Prop := ∃ (A : Option Addr) (cap : Nat), e = .returned (.slice A rows.length cap) ∧ Below w.heap.size w w' ∧ StrAt w' A (rows.map rowT)
set_option maxRecDepth 100000 in
set_option maxHeartbeats 1000000 in
theorem clipT_any (A : Option Addr) (n cap : Nat) (w : World) (h1 : n ≤ cap) (h2 : cap ≤ maxLen) (h3 : A = none → n = 0 ∧ cap = 0) :
    Calls Tryd.prog 9 #[.slice A n cap] w fun e w' => e = .returned (.slice A n n) ∧ w' = w := by
  unfold maxLen at h2
  cases A with
  | none =>
    obtain ⟨rfl, rfl⟩ := h3 rfl
    go_enter Tryd.func9, Tryd.ntmps9
    go_wp2
    go_ret
    exact ⟨rfl, rfl⟩
  | some ad =>
    clear h3
    go_enter Tryd.func9, Tryd.ntmps9
    go_wp2
    go_ret
    exact ⟨rfl, rfl⟩
end Go.Proofs.YteeabfdafnncfaaDoor
