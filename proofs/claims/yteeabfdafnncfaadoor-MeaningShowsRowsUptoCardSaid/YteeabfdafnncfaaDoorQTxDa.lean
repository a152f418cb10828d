/-
  Package value: the civil time of a moment.
-/
import Derived.Test.YteeabfdafnncfaaDoorQTxD
namespace Go.Proofs.YteeabfdafnncfaaDoor
open Go.RowKit
theorem cv_cells (w w1 w2 : World) (t : TypeId) (hb : Below (w.alloc (.cells #[.int .i64 0, .int .i64 0, .int .i64 0, .int .i64 0, .int .i64 0, .int .i64 0] t)).heap.size (w.alloc (.cells #[.int .i64 0, .int .i64 0, .int .i64 0, .int .i64 0, .int .i64 0, .int .i64 0] t)) w1) (hb2 : Below w1.heap.size w1 w2) :
    w2.cell? ⟨w.heap.size, 0, none⟩ = some (.int .i64 0) ∧ w2.cell? ⟨w.heap.size, 1, none⟩ = some (.int .i64 0) ∧ w2.cell? ⟨w.heap.size, 2, none⟩ = some (.int .i64 0) ∧ w2.cell? ⟨w.heap.size, 3, none⟩ = some (.int .i64 0) ∧ w2.cell? ⟨w.heap.size, 4, none⟩ = some (.int .i64 0) ∧ w2.cell? ⟨w.heap.size, 5, none⟩ = some (.int .i64 0) ∧ w2.frozen? ⟨w.heap.size, 0, none⟩ = false ∧ w2.frozen? ⟨w.heap.size, 1, none⟩ = false ∧ w2.frozen? ⟨w.heap.size, 2, none⟩ = false ∧ w2.frozen? ⟨w.heap.size, 3, none⟩ = false ∧ w2.frozen? ⟨w.heap.size, 4, none⟩ = false ∧ w2.frozen? ⟨w.heap.size, 5, none⟩ = false ∧ w.heap.size < w2.heap.size ∧ Below w.heap.size w w2 := by
  have h1 : w1.heap[w.heap.size]? = some (.cells #[.int .i64 0, .int .i64 0, .int .i64 0, .int .i64 0, .int .i64 0, .int .i64 0] t (0, 0)) := (hb.block _ (by simp)).trans (heap_alloc_new w _)
  have h2 : w.heap.size < w1.heap.size := by have := hb.size; simp at this; omega
  have h3 := (hb2.block _ h2).trans h1
  have h4 := hb2.size
  refine ⟨?_, ?_, ?_, ?_, ?_, ?_, ?_, ?_, ?_, ?_, ?_, ?_, by omega, ((((Below.refl _ w).alloc (Nat.le_refl _) _).trans (hb.mono (by simp))).trans (hb2.mono (by omega)))⟩ <;> simp [World.cell?, World.frozen?, h3]
set_option maxRecDepth 100000 in
set_option maxHeartbeats 6000000 in
theorem vcivil_any (m : Int) (w : World) (h0 : -62135596800 ≤ m) (h1 : m ≤ 253402300799) :
    Calls Tryd.prog 36 #[.int .i64 m] w fun e w' => e = .returned (.agg #[.int .i64 (yI (m / 86400)), .int .i64 (moI (m / 86400)), .int .i64 (dI (m / 86400)), .int .i64 (m % 86400 / 3600), .int .i64 (m % 86400 % 3600 / 60), .int .i64 (m % 86400 % 60)]) ∧ Below w.heap.size w w' := by
  have hF := Lib.hid fun W => vfloor_any m 86400 W (by omega) (by omega) (.inl rfl)
  have hD := Lib.hid fun W => vdate_any (m / 86400) W (by omega) (by omega)
  have b0 : 0 ≤ m % 86400 := by omega
  have b1 : m % 86400 < 86400 := by omega
  generalize m % 86400 = s at *
  generalize m / 86400 = d at *
  generalize yI d = Y at *
  generalize moI d = M at *
  generalize dI d = G at *
  clear h0 h1
  have hc := Lib.hid fun (W1 W2 : World) h1 h2 => cv_cells w W1 W2 52 h1 h2
  go_enter Tryd.func36, Tryd.ntmps36
  go_wp2_with (go_at_call 51; refine (hF.out _).mono ?_; rintro e w' ⟨rfl, hb⟩)
  refine (hD.out _).mono ?_
  rintro e w2 ⟨rfl, hb2⟩
  obtain ⟨k0, k1, k2, k3, k4, k5, m0, m1, m2, m3, m4, m5, k7, k8⟩ := hc.out _ _ hb hb2
  clear hb hb2
  go_wp2
  clear hc hF hD
  refine bodyPost_ret (v := .agg #[.int .i64 Y, .int .i64 M, .int .i64 G, .int .i64 (s / 3600), .int .i64 (s % 3600 / 60), .int .i64 (s % 60)]) (by simp only [results, Tryd.results36]; simp [go_sem, k0, k1, k2, k3, k4, k5]) rfl ?_
  refine ⟨rfl, ?_⟩
  exact (((((k8.setCell (Nat.le_refl _) _).setCell (Nat.le_refl _) _).setCell (Nat.le_refl _) _).setCell (Nat.le_refl _) _).setCell (Nat.le_refl _) _).setCell (Nat.le_refl _) _
end Go.Proofs.YteeabfdafnncfaaDoor
