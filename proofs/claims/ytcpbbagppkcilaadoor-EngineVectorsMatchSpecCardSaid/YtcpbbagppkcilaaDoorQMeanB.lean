/-
  Package meaning: plain types.
  Package meaning: lists of types that must be plain.
-/
import Derived.Test.YtcpbbagppkcilaaDoorQData3
import Derived.Test.YtcpbbagppkcilaaDoorQLib2
import Derived.Test.YtcpbbagppkcilaaDoorQValD
namespace Go.Proofs.YtcpbbagppkcilaaDoor
open Go.RowKit
mutual
/-- Has a type neither Ids nor fields that are needed? -/
def plT : FT → Bool
  | .node _ l => plTs l
def plTs : List FT → Bool
  | [] => true
  | x :: r => ((x.a.id == 0) && !x.a.nd && plT x) && plTs r
end
def plF (x : FT) : Bool := (x.a.id == 0) && !x.a.nd && plT x
theorem plTs_cons (x : FT) (r : List FT) : plTs (x :: r) = (plF x && plTs r) := by rw [plTs]; rfl
set_option maxRecDepth 100000 in
set_option maxHeartbeats 1000000 in
theorem mPlain1_any (x : FT) (W : World)
    (hc : ∀ o, Calls Tryd.prog 46 #[.agg #[.int .i64 x.a.k, .int .i64 x.a.sc, .slice x.a.A x.l.length x.a.cap]] (W.alloc o) fun e w' => e = .returned (.bool (plT x)) ∧ Below (W.alloc o).heap.size (W.alloc o) w') :
    Calls Tryd.prog 71 #[.agg #[.int .i64 x.a.id, .string x.a.nm, .bool x.a.nd, .int .i64 x.a.k, .int .i64 x.a.sc, .slice x.a.A x.l.length x.a.cap]] W fun e w' => e = .returned (.bool !plF x) ∧ Below W.heap.size W w' := by
  have Hc := Lib.hid hc
  clear hc
  obtain ⟨R, hR⟩ : ∃ R, plF x = R := ⟨_, rfl⟩
  rw [hR]
  unfold plF at hR
  by_cases hid : x.a.id = 0
  · have n0 : (x.a.id != 0) = false := by simpa using hid
    have hR1 : (!x.a.nd && plT x) = R := by rw [← hR, hid]; simp
    clear hR hid
    cases hnd : x.a.nd
    · have HR := Lib.hid (show plT x = R by rw [← hR1, hnd]; simp)
      clear hR1
      go_enter Tryd.func71, Tryd.ntmps71
      go_wp2_with fail
      refine (Hc.out _).mono ?_
      rintro e w' ⟨rfl, hb⟩
      go_wp2
      go_ret
      exact ⟨by rw [← HR.out]; simp, (bel1 _ _).trans (hb.mono (by simp))⟩
    · have HR := Lib.hid (show false = R by rw [← hR1, hnd]; simp)
      clear hR1
      go_enter Tryd.func71, Tryd.ntmps71
      go_wp2
      go_ret
      exact ⟨by rw [← HR.out]; rfl, bel1 _ _⟩
  · have n0 : (x.a.id != 0) = true := by simpa using hid
    have HR := Lib.hid (show false = R by rw [← hR]; simp [hid])
    clear hR hid
    go_enter Tryd.func71, Tryd.ntmps71
    go_wp2
    go_ret
    exact ⟨by rw [← HR.out]; rfl, bel1 _ _⟩
def PlSt (w : World) (l : List FT) (R : Bool) (j : Nat) (W : World) : Prop := Below w.heap.size w W ∧ plTs (l.drop j) = R
def PlFin (w : World) (R : Bool) (W : World) : Prop := Below w.heap.size w W ∧ R = false
set_option maxRecDepth 100000 in
set_option maxHeartbeats 1000000 in
theorem mPlain_any : ∀ (t : FT) (B : Nat) (w : World), FT.In B w t → B ≤ w.heap.size →
    Calls Tryd.prog 46 #[.agg #[.int .i64 t.a.k, .int .i64 t.a.sc, .slice t.a.A t.l.length t.a.cap]] w fun e w' => e = .returned (.bool (plT t)) ∧ Below w.heap.size w w' := by
  refine FT.ind fun a l ih B w hin hB => ?_
  obtain ⟨id, nm, nd, k, sc, A, cap⟩ := a
  obtain ⟨_, _, _, _, hr, hl⟩ := hin.parts
  simp only [FT.a_node, FT.l_node] at hr ⊢
  obtain ⟨R, hR⟩ : ∃ R, plT (.node ⟨id, nm, nd, k, sc, A, cap⟩ l) = R := ⟨_, rfl⟩
  rw [hR]
  rw [plT] at hR
  obtain ⟨len, hlen⟩ : ∃ len, l.length = len := ⟨_, rfl⟩
  rw [hlen]
  have hlen' := Lib.hid hlen
  clear hlen
  obtain ⟨W0, hW0⟩ : ∃ W0, w.alloc (.cells #[.int .i64 k, .int .i64 sc, .slice A len cap] 24) = W0 := ⟨_, rfl⟩
  have hbw : Below w.heap.size w W0 := by rw [← hW0]; exact bel1 _ _
  have hz0 : w.heap.size ≤ W0.heap.size := hbw.size
  have hS0 := Same.mono (Same.of_below hbw) hB
  have hct := ctF_any 71 #[] (enters_of Tryd.func71 (by kernel_rfl) rfl) l A cap len B W0 (hr.keep hS0) hlen' (PlSt W0 l R) (PlFin W0 R) ⟨Below.refl _ _, hR⟩ (fun j W h => Same.mono (Same.of_below h.1) (by omega))
    (fun j x W hx hst => by
      obtain ⟨hbW, hRj⟩ := hst
      have hSW : Same B W0 W := Same.mono (Same.of_below hbW) (by omega)
      have hzW := hbW.size
      rw [drop_of_get? hx, plTs_cons] at hRj
      have hcall := mPlain1_any x W (fun o => ih x (mem_of_get? hx) B (W.alloc o) ((hl x (mem_of_get? hx)).keep (hS0.trans (hSW.alloc (by omega) o))) (by simp; omega))
      refine hcall.mono fun e w' ⟨he, hb⟩ => ?_
      have hb' := hbW.trans (hb.mono hzW)
      cases hf : plF x
      · rw [hf] at he hRj
        exact .inl ⟨he, hb', by rw [← hRj]; rfl⟩
      · rw [hf] at he hRj
        exact .inr ⟨he, hb', by rw [← hRj]; rfl⟩)
  have Hct := Lib.hid hct
  have HW0 := Lib.hid hW0
  clear hct hW0 ih hr hl hin hS0 hR
  go_enter Tryd.func46, Tryd.ntmps46
  go_wp2_with fail
  rw [HW0.out]
  refine Hct.out.mono ?_
  rintro e w1 (⟨rfl, hb1, hr1⟩ | ⟨rfl, hb1, hr1⟩)
  · have HR := Lib.hid hr1
    clear hr1
    go_wp2
    go_ret
    exact ⟨by rw [HR.out]; rfl, hbw.trans (hb1.mono (by omega))⟩
  · have HR : Hid (R = true) := by rw [← hr1, List.drop_eq_nil_of_le (by rw [hlen'.out]; omega)]; rw [plTs]; exact rfl
    clear hr1
    go_wp2
    go_ret
    exact ⟨by rw [HR.out]; rfl, hbw.trans (hb1.mono (by omega))⟩
/-- What is wrong with a type that must be plain. -/
def plainS (t : FT) : Int := if ctS t ≠ 0 then ctS t else if plT t = false then 1 else 0
set_option maxRecDepth 100000 in
set_option maxHeartbeats 1000000 in
theorem mplainType_any (t : FT) (B : Nat) (w : World) (hin : FT.In B w t) (hB : B ≤ w.heap.size) :
    Calls Tryd.prog 65 #[.agg #[.int .i64 t.a.k, .int .i64 t.a.sc, .slice t.a.A t.l.length t.a.cap]] w fun e w' => e = .returned (.int .i64 (plainS t)) ∧ Below w.heap.size w w' := by
  obtain ⟨W0, hW0⟩ : ∃ W0, w.alloc (.cells #[.int .i64 t.a.k, .int .i64 t.a.sc, .slice t.a.A t.l.length t.a.cap] 24) = W0 := ⟨_, rfl⟩
  have hbw : Below w.heap.size w W0 := by rw [← hW0]; exact bel1 _ _
  have hz0 : w.heap.size < W0.heap.size := by rw [← hW0]; simp
  have p0 : W0.cell? ⟨w.heap.size, 0, none⟩ = some (.int .i64 t.a.k) := by rw [← hW0]; simp
  have p1 : W0.cell? ⟨w.heap.size, 1, none⟩ = some (.int .i64 t.a.sc) := by rw [← hW0]; simp
  have p2 : W0.cell? ⟨w.heap.size, 2, none⟩ = some (.slice t.a.A t.l.length t.a.cap) := by rw [← hW0]; simp
  have hS0 := Same.mono (Same.of_below hbw) hB
  have hin0 := hin.keep hS0
  have hct := Lib.hid (vCheckType_any t B W0 hin0 (by omega))
  obtain ⟨R, hR⟩ : ∃ R, plainS t = R := ⟨_, rfl⟩
  rw [hR]
  unfold plainS at hR
  have HW0 := Lib.hid hW0
  clear hW0 hin hS0
  by_cases h0 : ctS t = 0
  · rw [h0, if_neg (by simp)] at hR
    have H0 := Lib.hid h0
    clear h0
    go_enter Tryd.func65, Tryd.ntmps65
    go_wp2_with fail
    rw [HW0.out]
    refine hct.out.mono ?_
    rintro e w1 ⟨rfl, hb1⟩
    rw [H0.out]
    have hz1 : W0.heap.size ≤ w1.heap.size := hb1.size
    have q0 := (hb1.cell (p := ⟨w.heap.size, 0, none⟩) hz0).trans p0
    have q1 := (hb1.cell (p := ⟨w.heap.size, 1, none⟩) hz0).trans p1
    have q2 := (hb1.cell (p := ⟨w.heap.size, 2, none⟩) hz0).trans p2
    have hpl := Lib.hid (mPlain_any t B w1 (hin0.keep (Same.mono (Same.of_below hb1) (by omega))) (by omega))
    clear p0 p1 p2 HW0 hct
    cases hp : plT t
    · have HR := Lib.hid (show 1 = R by rw [← hR, hp, if_pos rfl])
      have Hp := Lib.hid hp
      clear hp hR
      go_wp2_with fail
      refine hpl.out.mono ?_
      rintro e w2 ⟨rfl, hb2⟩
      rw [Hp.out]
      go_wp2
      go_ret
      exact ⟨by rw [← HR.out]; rfl, hbw.trans ((hb1.trans (hb2.mono (by omega))).mono (by omega))⟩
    · have HR := Lib.hid (show 0 = R by rw [← hR, hp, if_neg (by simp)])
      have Hp := Lib.hid hp
      clear hp hR
      go_wp2_with fail
      refine hpl.out.mono ?_
      rintro e w2 ⟨rfl, hb2⟩
      rw [Hp.out]
      go_wp2
      go_ret
      exact ⟨by rw [← HR.out]; rfl, hbw.trans ((hb1.trans (hb2.mono (by omega))).mono (by omega))⟩
  · rw [if_pos h0] at hR
    have n0 : (ctS t != 0) = true := by simpa using h0
    have HR := Lib.hid hR
    clear h0 hR
    go_enter Tryd.func65, Tryd.ntmps65
    go_wp2_with fail
    rw [HW0.out]
    refine hct.out.mono ?_
    rintro e w1 ⟨rfl, hb1⟩
    go_wp2
    go_ret
    exact ⟨by rw [← HR.out]; rfl, hbw.trans (hb1.mono (by omega))⟩
end Go.Proofs.YtcpbbagppkcilaaDoor
namespace Go.Proofs.YtcpbbagppkcilaaDoor
open Go.RowKit
/-- The first error of types that must be plain. -/
def plainsS : List FT → Int
  | [] => 0
  | x :: r => if plainS x ≠ 0 then plainS x else plainsS r
set_option maxRecDepth 100000 in
set_option maxHeartbeats 1000000 in
theorem mplainTypes_any (A : Option Addr) (cap len : Nat) (l : List FT) (B : Nat) (w : World) (hr : FT.TRow B w A cap l) (hB : B ≤ w.heap.size) (hlen : Hid (l.length = len)) :
    Calls Tryd.prog 38 #[.slice A len cap] w fun e w' => e = .returned (.int .i64 (plainsS l)) ∧ Below w.heap.size w w' := by
  have hll : len ≤ 9223372036854775807 := by rw [← hlen.out]; exact Nat.le_trans hr.1 hr.2.1
  obtain ⟨R, hR⟩ : ∃ R, plainsS l = R := ⟨_, rfl⟩
  rw [hR]
  have HR := Lib.hid hR
  clear hR
  go_enter Tryd.func38, Tryd.ntmps38
  go_wp2
  go_loopw [8] (fun i wr => ∃ j : Nat, j ≤ len ∧ i = .int .i64 j ∧ Below w.heap.size w wr ∧ Hid (plainsS (l.drop j) = R)) (fun i _ => len - (intOf i).toNat)
  case atStart => exact ⟨0, Nat.zero_le _, rfl, Below.refl _ _, HR⟩
  case round =>
    obtain ⟨j, hj, rfl, hbr, HRj⟩ := hrel
    by_cases hlt : j < len
    · have hSr := Same.mono (Same.of_below hbr) hB
      obtain ⟨x, ad, hx, rfl, hb, d0, d1, d2⟩ := (hr.keep hSr).get (show j < l.length by rw [hlen.out]; exact hlt)
      have hzr := hbr.size
      have hic := Lib.hid (fun o => mplainType_any x B (wr.alloc o) ((hr.2.2.1 x (mem_of_get? hx)).keep (hSr.alloc (by omega) o)) (by simp; omega))
      have HR2 := HRj.out
      rw [drop_of_get? hx] at HR2
      unfold plainsS at HR2
      have hal : ∀ o, Below w.heap.size w (wr.alloc o) := fun o => hbr.alloc hzr o
      have hal := Lib.hid hal
      by_cases h0 : plainS x = 0
      · have H0 := Lib.hid h0
        have HR3 := Lib.hid (show plainsS (l.drop (j + 1)) = R by rw [← HR2, if_neg (by simp [h0])])
        clear h0 HR2 HRj hr hx
        go_wp2_with fail
        refine (hic.out _).mono ?_
        rintro e w' ⟨rfl, hb2⟩
        rw [H0.out]
        go_wp2
        go_roundw
        case rel => exact ⟨j + 1, by omega, by go_num, (hal.out _).trans (hb2.mono (by simp; omega)), HR3⟩
        case measure => simp [intOf]; omega
      · have n0 : (plainS x != 0) = true := by simpa using h0
        have HR3 := Lib.hid (show plainS x = R by rw [← HR2, if_pos h0])
        clear h0 HR2 HRj hr hx
        go_wp2_with fail
        refine (hic.out _).mono ?_
        rintro e w' ⟨rfl, hb2⟩
        go_wp2
        go_ret
        exact ⟨by rw [← HR3.out]; rfl, (hal.out _).trans (hb2.mono (by simp; omega))⟩
    · have HR3 : Hid (0 = R) := by have := HRj.out; rw [List.drop_eq_nil_of_le (by rw [hlen.out]; omega)] at this; exact this
      go_wp2
      go_ret
      exact ⟨by rw [← HR3.out]; rfl, hbr⟩
end Go.Proofs.YtcpbbagppkcilaaDoor
