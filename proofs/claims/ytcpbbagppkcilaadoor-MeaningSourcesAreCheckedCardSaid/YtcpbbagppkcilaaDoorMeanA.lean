/-
  Package meaning: plain types.
-/
import Derived.Test.YtcpbbagppkcilaaDoorLib
import Derived.Test.YtcpbbagppkcilaaDoorValD
namespace Go.Proofs.YtcpbbagppkcilaaDoor
open Go.RowKit
mutual
/-- Has a type neither Ids nor fields that are needed? -/
def plT : FT → Bool
  | .node _ l => plTs l
def plTs : List FT → Bool
  | [] => true
  | x :: r => ((x.a.id == 0) && !x.a.nd && plT x) && plTs r
end
def plF (x : FT) : Bool := (x.a.id == 0) && !x.a.nd && plT x
theorem plTs_cons (x : FT) (r : List FT) : plTs (x :: r) = (plF x && plTs r) := by rw [plTs]; rfl
set_option maxRecDepth 100000 in
set_option maxHeartbeats 1000000 in
theorem mPlain1_any (x : FT) (W : World)
    (hc : ∀ o, Calls Tryd.prog 46 #[.agg #[.int .i64 x.a.k, .int .i64 x.a.sc, .slice x.a.A x.l.length x.a.cap]] (W.alloc o) fun e w' => e = .returned (.bool (plT x)) ∧ Below (W.alloc o).heap.size (W.alloc o) w') :
    Calls Tryd.prog 71 #[.agg #[.int .i64 x.a.id, .string x.a.nm, .bool x.a.nd, .int .i64 x.a.k, .int .i64 x.a.sc, .slice x.a.A x.l.length x.a.cap]] W fun e w' => e = .returned (.bool !plF x) ∧ Below W.heap.size W w' := by
  have Hc := Lib.hid hc
  clear hc
  obtain ⟨R, hR⟩ : ∃ R, plF x = R := ⟨_, rfl⟩
  rw [hR]
  unfold plF at hR
  by_cases hid : x.a.id = 0
  · have n0 : (x.a.id != 0) = false := by simpa using hid
    have hR1 : (!x.a.nd && plT x) = R := by rw [← hR, hid]; simp
    clear hR hid
    cases hnd : x.a.nd
    · have HR := Lib.hid (show plT x = R by rw [← hR1, hnd]; simp)
      clear hR1
      go_enter Tryd.func71, Tryd.ntmps71
      go_wp2_with fail
      refine (Hc.out _).mono ?_
      rintro e w' ⟨rfl, hb⟩
      go_wp2
      go_ret
      exact ⟨by rw [← HR.out]; simp, (bel1 _ _).trans (hb.mono (by simp))⟩
    · have HR := Lib.hid (show false = R by rw [← hR1, hnd]; simp)
      clear hR1
      go_enter Tryd.func71, Tryd.ntmps71
      go_wp2
      go_ret
      exact ⟨by rw [← HR.out]; rfl, bel1 _ _⟩
  · have n0 : (x.a.id != 0) = true := by simpa using hid
    have HR := Lib.hid (show false = R by rw [← hR]; simp [hid])
    clear hR hid
    go_enter Tryd.func71, Tryd.ntmps71
    go_wp2
    go_ret
    exact ⟨by rw [← HR.out]; rfl, bel1 _ _⟩
def PlSt (w : World) (l : List FT) (R : Bool) (j : Nat) (W : World) : Prop := Below w.heap.size w W ∧ plTs (l.drop j) = R
def PlFin (w : World) (R : Bool) (W : World) : Prop := Below w.heap.size w W ∧ R = false
set_option maxRecDepth 100000 in
set_option maxHeartbeats 1000000 in
theorem mPlain_any : ∀ (t : FT) (B : Nat) (w : World), FT.In B w t → B ≤ w.heap.size →
    Calls Tryd.prog 46 #[.agg #[.int .i64 t.a.k, .int .i64 t.a.sc, .slice t.a.A t.l.length t.a.cap]] w fun e w' => e = .returned (.bool (plT t)) ∧ Below w.heap.size w w' := by
  refine FT.ind fun a l ih B w hin hB => ?_
  obtain ⟨id, nm, nd, k, sc, A, cap⟩ := a
  obtain ⟨_, _, _, _, hr, hl⟩ := hin.parts
  simp only [FT.a_node, FT.l_node] at hr ⊢
  obtain ⟨R, hR⟩ : ∃ R, plT (.node ⟨id, nm, nd, k, sc, A, cap⟩ l) = R := ⟨_, rfl⟩
  rw [hR]
  rw [plT] at hR
  obtain ⟨len, hlen⟩ : ∃ len, l.length = len := ⟨_, rfl⟩
  rw [hlen]
  have hlen' := Lib.hid hlen
  clear hlen
  obtain ⟨W0, hW0⟩ : ∃ W0, w.alloc (.cells #[.int .i64 k, .int .i64 sc, .slice A len cap] 24) = W0 := ⟨_, rfl⟩
  have hbw : Below w.heap.size w W0 := by rw [← hW0]; exact bel1 _ _
  have hz0 : w.heap.size ≤ W0.heap.size := hbw.size
  have hS0 := Same.mono (Same.of_below hbw) hB
  have hct := ctF_any 71 #[] (enters_of Tryd.func71 (by kernel_rfl) rfl) l A cap len B W0 (hr.keep hS0) hlen' (PlSt W0 l R) (PlFin W0 R) ⟨Below.refl _ _, hR⟩ (fun j W h => Same.mono (Same.of_below h.1) (by omega))
    (fun j x W hx hst => by
      obtain ⟨hbW, hRj⟩ := hst
      have hSW : Same B W0 W := Same.mono (Same.of_below hbW) (by omega)
      have hzW := hbW.size
      rw [drop_of_get? hx, plTs_cons] at hRj
      have hcall := mPlain1_any x W (fun o => ih x (mem_of_get? hx) B (W.alloc o) ((hl x (mem_of_get? hx)).keep (hS0.trans (hSW.alloc (by omega) o))) (by simp; omega))
      refine hcall.mono fun e w' ⟨he, hb⟩ => ?_
      have hb' := hbW.trans (hb.mono hzW)
      cases hf : plF x
      · rw [hf] at he hRj
        exact .inl ⟨he, hb', by rw [← hRj]; rfl⟩
      · rw [hf] at he hRj
        exact .inr ⟨he, hb', by rw [← hRj]; rfl⟩)
  have Hct := Lib.hid hct
  have HW0 := Lib.hid hW0
  clear hct hW0 ih hr hl hin hS0 hR
  go_enter Tryd.func46, Tryd.ntmps46
  go_wp2_with fail
  rw [HW0.out]
  refine Hct.out.mono ?_
  rintro e w1 (⟨rfl, hb1, hr1⟩ | ⟨rfl, hb1, hr1⟩)
  · have HR := Lib.hid hr1
    clear hr1
    go_wp2
    go_ret
    exact ⟨by rw [HR.out]; rfl, hbw.trans (hb1.mono (by omega))⟩
  · have HR : Hid (R = true) := by rw [← hr1, List.drop_eq_nil_of_le (by rw [hlen'.out]; omega)]; rw [plTs]; exact rfl
    clear hr1
    go_wp2
    go_ret
    exact ⟨by rw [HR.out]; rfl, hbw.trans (hb1.mono (by omega))⟩
/-- What is wrong with a type that must be plain. -/
def plainS (t : FT) : Int := if ctS t ≠ 0 then ctS t else if plT t = false then 1 else 0
set_option maxRecDepth 100000 in
set_option maxHeartbeats 1000000 in
theorem mplainType_any (t : FT) (B : Nat) (w : World) (hin : FT.In B w t) (hB : B ≤ w.heap.size) :
    Calls Tryd.prog 65 #[.agg #[.int .i64 t.a.k, .int .i64 t.a.sc, .slice t.a.A t.l.length t.a.cap]] w fun e w' => e = .returned (.int .i64 (plainS t)) ∧ Below w.heap.size w w' := by
  obtain ⟨W0, hW0⟩ : ∃ W0, w.alloc (.cells #[.int .i64 t.a.k, .int .i64 t.a.sc, .slice t.a.A t.l.length t.a.cap] 24) = W0 := ⟨_, rfl⟩
  have hbw : Below w.heap.size w W0 := by rw [← hW0]; exact bel1 _ _
  have hz0 : w.heap.size < W0.heap.size := by rw [← hW0]; simp
  have p0 : W0.cell? ⟨w.heap.size, 0, none⟩ = some (.int .i64 t.a.k) := by rw [← hW0]; simp
  have p1 : W0.cell? ⟨w.heap.size, 1, none⟩ = some (.int .i64 t.a.sc) := by rw [← hW0]; simp
  have p2 : W0.cell? ⟨w.heap.size, 2, none⟩ = some (.slice t.a.A t.l.length t.a.cap) := by rw [← hW0]; simp
  have hS0 := Same.mono (Same.of_below hbw) hB
  have hin0 := hin.keep hS0
  have hct := Lib.hid (vCheckType_any t B W0 hin0 (by omega))
  obtain ⟨R, hR⟩ : ∃ R, plainS t = R := ⟨_, rfl⟩
  rw [hR]
  unfold plainS at hR
  have HW0 := Lib.hid hW0
  clear hW0 hin hS0
  by_cases h0 : ctS t = 0
  · rw [h0, if_neg (by simp)] at hR
    have H0 := Lib.hid h0
    clear h0
    go_enter Tryd.func65, Tryd.ntmps65
    go_wp2_with fail
    rw [HW0.out]
    refine hct.out.mono ?_
    rintro e w1 ⟨rfl, hb1⟩
    rw [H0.out]
    have hz1 : W0.heap.size ≤ w1.heap.size := hb1.size
    have q0 := (hb1.cell (p := ⟨w.heap.size, 0, none⟩) hz0).trans p0
    have q1 := (hb1.cell (p := ⟨w.heap.size, 1, none⟩) hz0).trans p1
    have q2 := (hb1.cell (p := ⟨w.heap.size, 2, none⟩) hz0).trans p2
    have hpl := Lib.hid (mPlain_any t B w1 (hin0.keep (Same.mono (Same.of_below hb1) (by omega))) (by omega))
    clear p0 p1 p2 HW0 hct
    cases hp : plT t
    · have HR := Lib.hid (show 1 = R by rw [← hR, hp, if_pos rfl])
      have Hp := Lib.hid hp
      clear hp hR
      go_wp2_with fail
      refine hpl.out.mono ?_
      rintro e w2 ⟨rfl, hb2⟩
      rw [Hp.out]
      go_wp2
      go_ret
      exact ⟨by rw [← HR.out]; rfl, hbw.trans ((hb1.trans (hb2.mono (by omega))).mono (by omega))⟩
    · have HR := Lib.hid (show 0 = R by rw [← hR, hp, if_neg (by simp)])
      have Hp := Lib.hid hp
      clear hp hR
      go_wp2_with fail
      refine hpl.out.mono ?_
      rintro e w2 ⟨rfl, hb2⟩
      rw [Hp.out]
      go_wp2
      go_ret
      exact ⟨by rw [← HR.out]; rfl, hbw.trans ((hb1.trans (hb2.mono (by omega))).mono (by omega))⟩
  · rw [if_pos h0] at hR
    have n0 : (ctS t != 0) = true := by simpa using h0
    have HR := Lib.hid hR
    clear h0 hR
    go_enter Tryd.func65, Tryd.ntmps65
    go_wp2_with fail
    rw [HW0.out]
    refine hct.out.mono ?_
    rintro e w1 ⟨rfl, hb1⟩
    go_wp2
    go_ret
    exact ⟨by rw [← HR.out]; rfl, hbw.trans (hb1.mono (by omega))⟩
end Go.Proofs.YtcpbbagppkcilaaDoor
