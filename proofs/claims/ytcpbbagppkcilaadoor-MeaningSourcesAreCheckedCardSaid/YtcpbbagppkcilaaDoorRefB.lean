/-
  The reference of package value: what is wrong with one level of a type.
-/
import Derived.Test.YtcpbbagppkcilaaDoorRefA
namespace Go.Proofs.YtcpbbagppkcilaaDoor
open Go.RowKit
set_option maxRecDepth 100000 in
set_option maxHeartbeats 1000000 in
theorem shape_far (k sc : Int) (A : Option Addr) (len cap : Nat) (w : World) (hk : withinB k 1 7 = false) :
    Calls Tryd.prog 98 #[.agg #[.int .i64 k, .int .i64 sc, .slice A len cap]] w fun e w' => e = .returned (.int .i64 3) ∧ Below w.heap.size w w' := by
  have hw := Lib.hid hk
  clear hk
  go_enter Tryd.func98, Tryd.ntmps98
  go_wp2_with (go_at_call 80; refine (rwithin_any _ _ _ _).mono ?_; rintro e w' ⟨rfl, rfl⟩; rw [hw.out])
  go_ret
  exact ⟨rfl, (by repeat (first | exact Below.refl _ _ | assumption | apply Below.drew | (refine Below.alloc ?_ ?_ _; rotate_left; (first | exact Nat.le_refl _ | (simp; done) | (simp; omega)))))⟩
set_option maxRecDepth 100000 in
set_option maxHeartbeats 1000000 in
theorem shape_scale (k sc : Int) (A : Option Addr) (len cap : Nat) (w : World) (hk : withinB k 1 7 = true) (hs : scaleB k sc = false) :
    Calls Tryd.prog 98 #[.agg #[.int .i64 k, .int .i64 sc, .slice A len cap]] w fun e w' => e = .returned (.int .i64 1) ∧ Below w.heap.size w w' := by
  have hw := Lib.hid hk
  clear hk
  unfold scaleB at hs
  by_cases h3 : k = 3
  · subst h3
    have hw2 := Lib.hid (show withinB sc 0 12 = false by simpa using hs)
    clear hs
    go_enter Tryd.func98, Tryd.ntmps98
    go_wp2_with (go_at_call 80; refine (rwithin_any _ _ _ _).mono ?_; rintro e w' ⟨rfl, rfl⟩; (first | rw [hw.out] | rw [hw2.out]))
    go_ret
    exact ⟨rfl, (by repeat (first | exact Below.refl _ _ | assumption | apply Below.drew | (refine Below.alloc ?_ ?_ _; rotate_left; (first | exact Nat.le_refl _ | (simp; done) | (simp; omega)))))⟩
  · have e3 : (k == 3) = false := by simpa using h3
    have n3 : (k != 3) = true := by simpa using h3
    have n0 : (sc != 0) = true := by simpa [h3] using hs
    clear hs h3
    go_enter Tryd.func98, Tryd.ntmps98
    go_wp2_with (go_at_call 80; refine (rwithin_any _ _ _ _).mono ?_; rintro e w' ⟨rfl, rfl⟩; rw [hw.out])
    go_ret
    exact ⟨rfl, (by repeat (first | exact Below.refl _ _ | assumption | apply Below.drew | (refine Below.alloc ?_ ?_ _; rotate_left; (first | exact Nat.le_refl _ | (simp; done) | (simp; omega)))))⟩
set_option maxRecDepth 100000 in
set_option maxHeartbeats 2000000 in
theorem shape_leaf0 (k sc : Int) (A : Option Addr) (cap : Nat) (w : World) (hk : withinB k 1 7 = true) (hs : scaleB k sc = true) (h6 : k ≠ 6) (h7 : k ≠ 7) :
    Calls Tryd.prog 98 #[.agg #[.int .i64 k, .int .i64 sc, .slice A 0 cap]] w fun e w' => e = .returned (.int .i64 0) ∧ Below w.heap.size w w' := by
  have hw := Lib.hid hk
  have hlf := Lib.hid (show leafB k = true by simp [leafB, h6, h7])
  have e6 : (k == 6) = false := by simpa using h6
  have e7 : (k == 7) = false := by simpa using h7
  have n7 : (k != 7) = true := by simpa using h7
  clear hk h6 h7
  unfold scaleB at hs
  by_cases h3 : k = 3
  · subst h3
    have hw2 := Lib.hid (show withinB sc 0 12 = true by simpa using hs)
    clear hs
    go_enter Tryd.func98, Tryd.ntmps98
    go_wp2_with (first | (go_at_call 80; refine (rwithin_any _ _ _ _).mono ?_; rintro e w' ⟨rfl, rfl⟩; (first | rw [hw.out] | rw [hw2.out])) | (go_at_call 97; refine (rLeaf_any _ _).mono ?_; rintro e w' ⟨rfl, rfl⟩; rw [hlf.out]))
    go_ret
    exact ⟨rfl, (by repeat (first | exact Below.refl _ _ | assumption | apply Below.drew | (refine Below.alloc ?_ ?_ _; rotate_left; (first | exact Nat.le_refl _ | (simp; done) | (simp; omega)))))⟩
  · have e3 : (k == 3) = false := by simpa using h3
    have n3 : (k != 3) = true := by simpa using h3
    have n0 : (sc != 0) = false := by simpa [h3] using hs
    clear hs h3
    go_enter Tryd.func98, Tryd.ntmps98
    go_wp2_with (first | (go_at_call 80; refine (rwithin_any _ _ _ _).mono ?_; rintro e w' ⟨rfl, rfl⟩; rw [hw.out]) | (go_at_call 97; refine (rLeaf_any _ _).mono ?_; rintro e w' ⟨rfl, rfl⟩; rw [hlf.out]))
    go_ret
    exact ⟨rfl, (by repeat (first | exact Below.refl _ _ | assumption | apply Below.drew | (refine Below.alloc ?_ ?_ _; rotate_left; (first | exact Nat.le_refl _ | (simp; done) | (simp; omega)))))⟩
set_option maxRecDepth 100000 in
set_option maxHeartbeats 2000000 in
theorem shape_leaf1 (k sc : Int) (A : Option Addr) (len cap : Nat) (w : World) (hl : len ≤ maxLen) (h0 : 0 < len) (hk : withinB k 1 7 = true) (hs : scaleB k sc = true) (h6 : k ≠ 6) (h7 : k ≠ 7) :
    Calls Tryd.prog 98 #[.agg #[.int .i64 k, .int .i64 sc, .slice A len cap]] w fun e w' => e = .returned (.int .i64 1) ∧ Below w.heap.size w w' := by
  unfold maxLen at hl
  have hw := Lib.hid hk
  have hlf := Lib.hid (show leafB k = true by simp [leafB, h6, h7])
  have e6 : (k == 6) = false := by simpa using h6
  have e7 : (k == 7) = false := by simpa using h7
  have n7 : (k != 7) = true := by simpa using h7
  clear hk h6 h7
  unfold scaleB at hs
  by_cases h3 : k = 3
  · subst h3
    have hw2 := Lib.hid (show withinB sc 0 12 = true by simpa using hs)
    clear hs
    go_enter Tryd.func98, Tryd.ntmps98
    go_wp2_with (first | (go_at_call 80; refine (rwithin_any _ _ _ _).mono ?_; rintro e w' ⟨rfl, rfl⟩; (first | rw [hw.out] | rw [hw2.out])) | (go_at_call 97; refine (rLeaf_any _ _).mono ?_; rintro e w' ⟨rfl, rfl⟩; rw [hlf.out]))
    go_ret
    exact ⟨rfl, (by repeat (first | exact Below.refl _ _ | assumption | apply Below.drew | (refine Below.alloc ?_ ?_ _; rotate_left; (first | exact Nat.le_refl _ | (simp; done) | (simp; omega)))))⟩
  · have e3 : (k == 3) = false := by simpa using h3
    have n3 : (k != 3) = true := by simpa using h3
    have n0 : (sc != 0) = false := by simpa [h3] using hs
    clear hs h3
    go_enter Tryd.func98, Tryd.ntmps98
    go_wp2_with (first | (go_at_call 80; refine (rwithin_any _ _ _ _).mono ?_; rintro e w' ⟨rfl, rfl⟩; rw [hw.out]) | (go_at_call 97; refine (rLeaf_any _ _).mono ?_; rintro e w' ⟨rfl, rfl⟩; rw [hlf.out]))
    go_ret
    exact ⟨rfl, (by repeat (first | exact Below.refl _ _ | assumption | apply Below.drew | (refine Below.alloc ?_ ?_ _; rotate_left; (first | exact Nat.le_refl _ | (simp; done) | (simp; omega)))))⟩
set_option maxRecDepth 100000 in
set_option maxHeartbeats 2000000 in
theorem shape_list_many (A : Option Addr) (len cap : Nat) (w : World) (hl : len ≤ maxLen) (h1 : len ≠ 1) :
    Calls Tryd.prog 98 #[.agg #[.int .i64 6, .int .i64 0, .slice A len cap]] w fun e w' => e = .returned (.int .i64 1) ∧ Below w.heap.size w w' := by
  unfold maxLen at hl
  have hw := Lib.hid (show withinB 6 1 7 = true by rfl)
  have n1 : ((len : Int) != 1) = true := by simp; omega
  clear h1
  go_enter Tryd.func98, Tryd.ntmps98
  go_wp2_with (first | (go_at_call 80; refine (rwithin_any _ _ _ _).mono ?_; rintro e w' ⟨rfl, rfl⟩; rw [hw.out]))
  go_ret
  exact ⟨rfl, (by repeat (first | exact Below.refl _ _ | assumption | apply Below.drew | (refine Below.alloc ?_ ?_ _; rotate_left; (first | exact Nat.le_refl _ | (simp; done) | (simp; omega)))))⟩
set_option maxRecDepth 100000 in
set_option maxHeartbeats 2000000 in
theorem shape_list_none (ad : Addr) (cap : Nat) (s : ByteArray) (w : World) (hb : ad.block < w.heap.size) (c1 : w.cell? ⟨ad.block, ad.off + 1, none⟩ = some (.string s)) (he : s.toList = []) :
    Calls Tryd.prog 98 #[.agg #[.int .i64 6, .int .i64 0, .slice (some ad) 1 cap]] w fun e w' => e = .returned (.int .i64 0) ∧ Below w.heap.size w w' := by
  have hw := Lib.hid (show withinB 6 1 7 = true by rfl)
  have hlf := Lib.hid (show leafB 6 = false by rfl)
  have ha : ad.add 0 = ad := rfl
  have c1' : ∀ o, (w.alloc o).cell? ⟨ad.block, ad.off + 1, none⟩ = some (.string s) := fun o => (World.cell?_alloc_lt w o ⟨ad.block, ad.off + 1, none⟩ hb).trans c1
  go_enter Tryd.func98, Tryd.ntmps98
  go_wp2_with (first | (go_at_call 80; refine (rwithin_any _ _ _ _).mono ?_; rintro e w' ⟨rfl, rfl⟩; rw [hw.out]) | (go_at_call 97; refine (rLeaf_any _ _).mono ?_; rintro e w' ⟨rfl, rfl⟩; rw [hlf.out]))
  go_ret
  exact ⟨rfl, (by repeat (first | exact Below.refl _ _ | assumption | apply Below.drew | (refine Below.alloc ?_ ?_ _; rotate_left; (first | exact Nat.le_refl _ | (simp; done) | (simp; omega)))))⟩
set_option maxRecDepth 100000 in
set_option maxHeartbeats 2000000 in
theorem shape_list_named (ad : Addr) (cap : Nat) (s : ByteArray) (w : World) (hb : ad.block < w.heap.size) (c1 : w.cell? ⟨ad.block, ad.off + 1, none⟩ = some (.string s)) (he : s.toList ≠ []) :
    Calls Tryd.prog 98 #[.agg #[.int .i64 6, .int .i64 0, .slice (some ad) 1 cap]] w fun e w' => e = .returned (.int .i64 1) ∧ Below w.heap.size w w' := by
  have hw := Lib.hid (show withinB 6 1 7 = true by rfl)
  have hlf := Lib.hid (show leafB 6 = false by rfl)
  have ha : ad.add 0 = ad := rfl
  have hne : (!s.toList.isEmpty) = true := by simpa using he
  clear he
  have c1' : ∀ o, (w.alloc o).cell? ⟨ad.block, ad.off + 1, none⟩ = some (.string s) := fun o => (World.cell?_alloc_lt w o ⟨ad.block, ad.off + 1, none⟩ hb).trans c1
  go_enter Tryd.func98, Tryd.ntmps98
  go_wp2_with (first | (go_at_call 80; refine (rwithin_any _ _ _ _).mono ?_; rintro e w' ⟨rfl, rfl⟩; rw [hw.out]) | (go_at_call 97; refine (rLeaf_any _ _).mono ?_; rintro e w' ⟨rfl, rfl⟩; rw [hlf.out]))
  go_ret
  exact ⟨rfl, (by repeat (first | exact Below.refl _ _ | assumption | apply Below.drew | (refine Below.alloc ?_ ?_ _; rotate_left; (first | exact Nat.le_refl _ | (simp; done) | (simp; omega)))))⟩
end Go.Proofs.YtcpbbagppkcilaaDoor
