/-
  The reference of package meaning: types that must be plain.
-/
import Derived.Test.YtcpbbagppkcilaaDoorMeanB
namespace Go.Proofs.YtcpbbagppkcilaaDoor
open Go.RowKit
/-- Two numbers in a block of their own. -/
def Two (w : World) (g : Nat) (a b : Int) : Prop := ∃ t, w.heap[g]? = some (.cells #[.int .i64 a, .int .i64 b] t (0, 0))
theorem Two.cell1 {w : World} {g : Nat} {a b : Int} (h : Two w g a b) : w.cell? ⟨g, 1, none⟩ = some (.int .i64 b) := by
  obtain ⟨t, h⟩ := h
  simp [World.cell?, h]
theorem Two.frozen1 {w : World} {g : Nat} {a b : Int} (h : Two w g a b) : w.frozen? ⟨g, 1, none⟩ = false := by
  obtain ⟨t, h⟩ := h
  simp [World.frozen?, h]
theorem Two.lt {w : World} {g : Nat} {a b : Int} (h : Two w g a b) : g < w.heap.size := by
  obtain ⟨t, h⟩ := h
  rcases Nat.lt_or_ge g w.heap.size with hlt | hge
  · exact hlt
  · rw [Array.getElem?_eq_none hge] at h; cases h
theorem Two.alloc {w : World} {g : Nat} {a b : Int} (h : Two w g a b) (o : Obj) : Two (w.alloc o) g a b := by
  have hl := h.lt
  obtain ⟨t, h⟩ := h
  exact ⟨t, (Below.heap_alloc w o g hl).trans h⟩
theorem Two.below {w w' : World} {g : Nat} {a b : Int} (h : Two w g a b) (hb : Below w.heap.size w w') : Two w' g a b := by
  have hl := h.lt
  obtain ⟨t, h⟩ := h
  exact ⟨t, (hb.block g hl).trans h⟩
theorem Two.set1 {w : World} {g : Nat} {a b : Int} (h : Two w g a b) (d : Int) : Two (w.setCell ⟨g, 1, none⟩ (.int .i64 d)) g a d := by
  obtain ⟨t, h⟩ := h
  refine ⟨t, ?_⟩
  simp [World.setCell, Array.getElem?_modify, h]
/-- The first fault stays. -/
def orF (b f : Int) : Int := if b = 0 then f else b
def FailPost (g : Nat) (w : World) (a b : Int) (e : Ending) (w' : World) : Prop := e = .returned (.tuple #[]) ∧ Ch g w w' ∧ Two w' g a b
set_option maxRecDepth 100000 in
theorem rfail_any (g : Nat) (a b f : Int) (w : World) (h : Two w g a b) :
    Calls Tryd.prog 88 #[.pointer (some ⟨g, 0, none⟩), .int .i64 f] w (FailPost g w a (orF b f)) := by
  have hc := h.cell1
  have hf := h.frozen1
  have hl := h.lt
  by_cases h0 : b = 0
  · have ho : orF b f = f := by unfold orF; rw [if_pos h0]
    rw [ho]
    have e0 : (b == 0) = true := by simpa using h0
    clear h0 ho
    go_enter Tryd.func88, Tryd.ntmps88
    go_wp2
    go_end0
    exact ⟨rfl, (Ch.refl g w).setCell _ _, h.set1 _⟩
  · have ho : orF b f = b := by unfold orF; rw [if_neg h0]
    rw [ho]
    have e0 : (b == 0) = false := by simpa using h0
    clear h0 ho
    go_enter Tryd.func88, Tryd.ntmps88
    go_wp2
    go_end0
    exact ⟨rfl, Ch.refl g w, h⟩
set_option maxRecDepth 100000 in
theorem rneed_any (g : Nat) (a b f : Int) (ok : Bool) (w : World) (h : Two w g a b) :
    Calls Tryd.prog 89 #[.pointer (some ⟨g, 0, none⟩), .bool ok, .int .i64 f] w (FailPost g w a (if ok = true then b else orF b f)) := by
  have hc := Lib.hid (rfail_any g a b f w h)
  cases ok
  · rw [if_neg (by simp)]
    go_enter Tryd.func89, Tryd.ntmps89
    go_wp2_with fail
    refine hc.out.mono ?_
    rintro e w' ⟨rfl, hch, h2⟩
    go_wp2
    go_end0
    exact ⟨rfl, hch, h2⟩
  · rw [if_pos rfl]
    go_enter Tryd.func89, Tryd.ntmps89
    go_wp2
    go_end0
    exact ⟨rfl, Ch.refl g w, h⟩
end Go.Proofs.YtcpbbagppkcilaaDoor
