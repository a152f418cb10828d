/-
  Package meaning: plain types.
  Lists of types that must be plain: their first error.
-/
import Derived.Test.YtkadahfknccjfaaGreatDoorQData3
import Derived.Test.YtkadahfknccjfaaGreatDoorQLib2
import Derived.Test.YtkadahfknccjfaaGreatDoorQValD
namespace Go.Proofs.YtkadahfknccjfaaGreatDoor
open Go.RowKit
mutual
/-- Has a type neither Ids nor fields that are needed? -/
def plT : FT → Bool
  | .node _ l => plTs l
def plTs : List FT → Bool
  | [] => true
  | x :: r => ((x.a.id == 0) && !x.a.nd && plT x) && plTs r
end
def plF (x : FT) : Bool := (x.a.id == 0) && !x.a.nd && plT x
theorem plTs_cons (x : FT) (r : List FT) : plTs (x :: r) = (plF x && plTs r) := by rw [plTs]; rfl
set_option maxRecDepth 100000 in
set_option maxHeartbeats 1000000 in
theorem mPlain1_any (x : FT) (W : World)
    (hc : ∀ o, Calls Tryz.prog 51 #[.agg #[.int .i64 x.a.k, .int .i64 x.a.sc, .slice x.a.A x.l.length x.a.cap]] (W.alloc o) fun e w' => e = .returned (.bool (plT x)) ∧ Below (W.alloc o).heap.size (W.alloc o) w') :
    Calls Tryz.prog 72 #[.agg #[.int .i64 x.a.id, .string x.a.nm, .bool x.a.nd, .int .i64 x.a.k, .int .i64 x.a.sc, .slice x.a.A x.l.length x.a.cap]] W fun e w' => e = .returned (.bool !plF x) ∧ Below W.heap.size W w' := by
  have Hc := Lib.hid hc
  clear hc
  obtain ⟨R, hR⟩ : ∃ R, plF x = R := ⟨_, rfl⟩
  rw [hR]
  unfold plF at hR
  by_cases hid : x.a.id = 0
  · have n0 : (x.a.id != 0) = false := by simpa using hid
    have hR1 : (!x.a.nd && plT x) = R := by rw [← hR, hid]; simp
    clear hR hid
    cases hnd : x.a.nd
    · have HR := Lib.hid (show plT x = R by rw [← hR1, hnd]; simp)
      clear hR1
      go_enter Tryz.func72, Tryz.ntmps72
      go_wp2_with fail
      refine (Hc.out _).mono ?_
      rintro e w' ⟨rfl, hb⟩
      go_wp2
      go_ret
      exact ⟨by rw [← HR.out]; simp, (bel1 _ _).trans (hb.mono (by simp))⟩
    · have HR := Lib.hid (show false = R by rw [← hR1, hnd]; simp)
      clear hR1
      go_enter Tryz.func72, Tryz.ntmps72
      go_wp2
      go_ret
      exact ⟨by rw [← HR.out]; rfl, bel1 _ _⟩
  · have n0 : (x.a.id != 0) = true := by simpa using hid
    have HR := Lib.hid (show false = R by rw [← hR]; simp [hid])
    clear hR hid
    go_enter Tryz.func72, Tryz.ntmps72
    go_wp2
    go_ret
    exact ⟨by rw [← HR.out]; rfl, bel1 _ _⟩
def PlSt (w : World) (l : List FT) (R : Bool) (j : Nat) (W : World) : Prop := Below w.heap.size w W ∧ plTs (l.drop j) = R
def PlFin (w : World) (R : Bool) (W : World) : Prop := Below w.heap.size w W ∧ R = false
set_option maxRecDepth 100000 in
set_option maxHeartbeats 1000000 in
theorem mPlain_any : ∀ (t : FT) (B : Nat) (w : World), FT.In B w t → B ≤ w.heap.size →
    Calls Tryz.prog 51 #[.agg #[.int .i64 t.a.k, .int .i64 t.a.sc, .slice t.a.A t.l.length t.a.cap]] w fun e w' => e = .returned (.bool (plT t)) ∧ Below w.heap.size w w' := by
  refine FT.ind fun a l ih B w hin hB => ?_
  obtain ⟨id, nm, nd, k, sc, A, cap⟩ := a
  obtain ⟨_, _, _, _, hr, hl⟩ := hin.parts
  simp only [FT.a_node, FT.l_node] at hr ⊢
  obtain ⟨R, hR⟩ : ∃ R, plT (.node ⟨id, nm, nd, k, sc, A, cap⟩ l) = R := ⟨_, rfl⟩
  rw [hR]
  rw [plT] at hR
  obtain ⟨len, hlen⟩ : ∃ len, l.length = len := ⟨_, rfl⟩
  rw [hlen]
  have hlen' := Lib.hid hlen
  clear hlen
  obtain ⟨W0, hW0⟩ : ∃ W0, w.alloc (.cells #[.int .i64 k, .int .i64 sc, .slice A len cap] 50) = W0 := ⟨_, rfl⟩
  have hbw : Below w.heap.size w W0 := by rw [← hW0]; exact bel1 _ _
  have hz0 : w.heap.size ≤ W0.heap.size := hbw.size
  have hS0 := Same.mono (Same.of_below hbw) hB
  have hct := ctF_any 72 #[] (enters_of Tryz.func72 (by kernel_rfl) rfl) l A cap len B W0 (hr.keep hS0) hlen' (PlSt W0 l R) (PlFin W0 R) ⟨Below.refl _ _, hR⟩ (fun j W h => Same.mono (Same.of_below h.1) (by omega))
    (fun j x W hx hst => by
      obtain ⟨hbW, hRj⟩ := hst
      have hSW : Same B W0 W := Same.mono (Same.of_below hbW) (by omega)
      have hzW := hbW.size
      rw [drop_of_get? hx, plTs_cons] at hRj
      have hcall := mPlain1_any x W (fun o => ih x (mem_of_get? hx) B (W.alloc o) ((hl x (mem_of_get? hx)).keep (hS0.trans (hSW.alloc (by omega) o))) (by simp; omega))
      refine hcall.mono fun e w' ⟨he, hb⟩ => ?_
      have hb' := hbW.trans (hb.mono hzW)
      cases hf : plF x
      · rw [hf] at he hRj
        exact .inl ⟨he, hb', by rw [← hRj]; rfl⟩
      · rw [hf] at he hRj
        exact .inr ⟨he, hb', by rw [← hRj]; rfl⟩)
  have Hct := Lib.hid hct
  have HW0 := Lib.hid hW0
  clear hct hW0 ih hr hl hin hS0 hR
  go_enter Tryz.func51, Tryz.ntmps51
  go_wp2_with fail
  rw [HW0.out]
  refine Hct.out.mono ?_
  rintro e w1 (⟨rfl, hb1, hr1⟩ | ⟨rfl, hb1, hr1⟩)
  · have HR := Lib.hid hr1
    clear hr1
    go_wp2
    go_ret
    exact ⟨by rw [HR.out]; rfl, hbw.trans (hb1.mono (by omega))⟩
  · have HR : Hid (R = true) := by rw [← hr1, List.drop_eq_nil_of_le (by rw [hlen'.out]; omega)]; rw [plTs]; exact rfl
    clear hr1
    go_wp2
    go_ret
    exact ⟨by rw [HR.out]; rfl, hbw.trans (hb1.mono (by omega))⟩
/-- What is wrong with a type that must be plain. -/
def plainS (t : FT) : Int := if ctS t ≠ 0 then ctS t else if plT t = false then 1 else 0
end Go.Proofs.YtkadahfknccjfaaGreatDoor
namespace Go.Proofs.YtkadahfknccjfaaGreatDoor
open Go.RowKit
/-- The first error of types that must be plain. -/
def plainsS : List FT → Int
  | [] => 0
  | x :: r => if plainS x ≠ 0 then plainS x else plainsS r
end Go.Proofs.YtkadahfknccjfaaGreatDoor
