/-
  Vectors: their form, by package engine (texts).
  Vectors: their form, by package engine (another kind).
  Vectors: their form, by package engine (another kind).
-/
import Derived.Test.YtkadahfknccjfaaGreatDoorQVecDa
namespace Go.Proofs.YtkadahfknccjfaaGreatDoor
open Go.RowKit
set_option maxRecDepth 100000 in
set_option maxHeartbeats 4000000 in
theorem eformed4 (v : VecT) (size B : Nat) (w : World) (hv : VecT.In B w v) (hB : B ≤ w.heap.size) (hs : size ≤ 1024) (hkK : kindS v.t.a.k = 4) :
    Calls Tryz.prog 66 #[.agg #[.int .i64 v.t.a.k, .int .i64 v.t.a.sc, .slice v.t.a.A v.t.l.length v.t.a.cap, .slice v.NA v.ns.length v.ncap, .slice v.IA v.is.length v.icap, .slice v.SA v.ss.length v.scap, .slice v.VA v.vs.length v.vcap], .int .i64 (size : Int)] w fun e w' => e = .returned (.bool (formS v size)) ∧ Below w.heap.size w w' := by
  obtain ⟨R, hR⟩ : ∃ R, formS v size = R := ⟨_, rfl⟩
  rw [hR]
  unfold formS at hR
  rw [hkK] at hR
  obtain ⟨V, hV⟩ : ∃ V, v = V := ⟨_, rfl⟩
  obtain ⟨t, NA, ncap, ns, IA, icap, is, SA, scap, ss, VA, vcap, vs⟩ := v
  obtain ⟨⟨id, nm, nd, k, sc, A, cap⟩, fl⟩ := t
  obtain ⟨ht, hns, hnb, his, hib, hss, hsb, hvs⟩ := hv
  simp only [FT.a_node, FT.l_node] at hkK hns hnb his hib hss hsb hvs hR ⊢
  rw [hV] at hR
  have hnl : ns.length ≤ 9223372036854775807 := Nat.le_trans hns.1 hns.2.1
  have hil : is.length ≤ 9223372036854775807 := Nat.le_trans his.1 his.2.1
  have hsl : ss.length ≤ 9223372036854775807 := Nat.le_trans hss.1 hss.2.1
  have hvl : vs.length ≤ 9223372036854775807 := Nat.le_trans hvs.1.1 hvs.1.2.1
  obtain ⟨nsl, ensl⟩ : ∃ n, ns.length = n := ⟨_, rfl⟩
  obtain ⟨isl, eisl⟩ : ∃ n, is.length = n := ⟨_, rfl⟩
  obtain ⟨ssl, essl⟩ : ∃ n, ss.length = n := ⟨_, rfl⟩
  obtain ⟨vsl, evsl⟩ : ∃ n, vs.length = n := ⟨_, rfl⟩
  obtain ⟨fll, efll⟩ : ∃ n, fl.length = n := ⟨_, rfl⟩
  rw [ensl] at hnl hR ⊢
  rw [eisl] at hil hR ⊢
  rw [essl] at hsl hR ⊢
  rw [evsl] at hvl hR ⊢
  rw [efll]
  rw [if_neg (show ¬ (4 : Int) = 2 by decide), if_pos trivial, if_neg (show ¬ (4 : Int) = 6 by decide)] at hR
  obtain ⟨W0, hW0⟩ : ∃ W0, w.alloc (.cells #[.int .i64 k, .int .i64 sc, .slice A fll cap, .slice NA nsl ncap, .slice IA isl icap, .slice SA ssl scap, .slice VA vsl vcap] 54) = W0 := ⟨_, rfl⟩
  have hbw : Below w.heap.size w W0 := by rw [← hW0]; exact bel1 _ _
  have hz0 : W0.heap.size = w.heap.size + 1 := by rw [← hW0]; simp
  have P0 : W0.heap[w.heap.size]? = some (.cells #[.int .i64 k, .int .i64 sc, .slice A fll cap, .slice NA nsl ncap, .slice IA isl icap, .slice SA ssl scap, .slice VA vsl vcap] 54 (0, 0)) := by rw [← hW0]; exact heap_alloc_new w _
  have hk : Hid (∀ W, Below W0.heap.size W0 W → W.cell? ⟨w.heap.size, 0, none⟩ = some (.int .i64 k) ∧ W.cell? ⟨w.heap.size, 1, none⟩ = some (.int .i64 sc) ∧ W.cell? ⟨w.heap.size, 2, none⟩ = some (.slice A fll cap) ∧ W.cell? ⟨w.heap.size, 3, none⟩ = some (.slice NA nsl ncap) ∧ W.cell? ⟨w.heap.size, 4, none⟩ = some (.slice IA isl icap) ∧ W.cell? ⟨w.heap.size, 5, none⟩ = some (.slice SA ssl scap) ∧ W.cell? ⟨w.heap.size, 6, none⟩ = some (.slice VA vsl vcap)) := fun W h => by
    have Q0 := (h.block w.heap.size (by omega)).trans P0
    exact ⟨cell_of_row W w.heap.size 0 _ _ _ Q0, cell_of_row W w.heap.size 1 _ _ _ Q0, cell_of_row W w.heap.size 2 _ _ _ Q0, cell_of_row W w.heap.size 3 _ _ _ Q0, cell_of_row W w.heap.size 4 _ _ _ Q0, cell_of_row W w.heap.size 5 _ _ _ Q0, cell_of_row W w.heap.size 6 _ _ _ Q0⟩
  have hkd := Lib.hid (ekind_any k sc A fll cap W0)
  have HV := Lib.hid hV
  have HW0 := Lib.hid hW0
  have Hz0 := Lib.hid hz0
  have He1 := Lib.hid ensl
  have He2 := Lib.hid eisl
  have He3 := Lib.hid essl
  have He4 := Lib.hid evsl
  clear hW0 hz0 P0 ensl eisl essl evsl efll hV
  go_enter Tryz.func66, Tryz.ntmps66
  go_wp2_with fail
  rw [HW0.out]
  refine hkd.out.mono ?_
  rintro e w1 ⟨rfl, hb1⟩
  obtain ⟨p0, p1, p2, p3, p4, p5, p6⟩ := hk.out w1 hb1
  have hbF : Below w.heap.size w w1 := hbw.trans (hb1.mono (by have := Hz0.out; omega))
  -- the lengths
  by_cases q1 : isl = 0
  rotate_left
  · have n1 : ((isl : Int) != ((0 : Nat) : Int)) = true := by simp; omega
    have HR : Hid (false = R) := by show false = R; rw [← hR, show (isl == 0) = false by simpa using q1]; rfl
    clear hR
    go_wp2
    go_ret
    exact ⟨by rw [← HR.out]; rfl, hbF⟩
  have q1' := q1.symm
  subst q1'
  by_cases q2 : ssl = size
  rotate_left
  · have n2 : ((ssl : Int) != ((size : Nat) : Int)) = true := by simp; omega
    have HR : Hid (false = R) := by show false = R; rw [← hR, show (ssl == size) = false by simpa using q2]; simp
    clear hR
    go_wp2
    go_ret
    exact ⟨by rw [← HR.out]; rfl, hbF⟩
  have q2' := q2.symm
  subst q2'
  by_cases q3 : vsl = 0
  rotate_left
  · have n3 : ((vsl : Int) != ((0 : Nat) : Int)) = true := by simp; omega
    have HR : Hid (false = R) := by show false = R; rw [← hR, show (vsl == 0) = false by simpa using q3]; simp
    clear hR
    go_wp2
    go_ret
    exact ⟨by rw [← HR.out]; rfl, hbF⟩
  have q3' := q3.symm
  subst q3'
  by_cases q4 : nsl = (size + 63) / 64
  rotate_left
  · have n4 : ((nsl : Int) != ((size : Int) + 63) / 64) = true := by simp; omega
    have HR : Hid (false = R) := by show false = R; rw [← hR, show (nsl == (size + 63) / 64) = false by simpa using q4]; simp
    clear hR
    go_wp2
    go_ret
    exact ⟨by rw [← HR.out]; rfl, hbF⟩
  have hR2 : (lastB ns size && okFrom V size size) = R := by
    rw [← hR, show (nsl == (size + 63) / 64) = true by simpa using q4]
    simp
  clear hR
  have n4 : ((nsl : Int) != ((size : Int) + 64 - 1) / 64) = false := by simp; omega
  have Q4 := Lib.hid q4
  clear q4
  by_cases hz : size % 64 = 0
  · have z1 : decide (0 < (size : Int) % 64) = false := by simp; omega
    have HR : Hid (okFrom V size size = R) := by
      show _ = R
      rw [← hR2]
      unfold lastB
      rw [show (size % 64 == 0) = true by simpa using hz]
      rfl
    clear hR2 hz
    go_wp2
    go_loopw [69] (fun i wr => ∃ j : Nat, j ≤ size ∧ i = .int .i64 j ∧ Below W0.heap.size W0 wr ∧ Hid (okFrom V size (size - j) = R)) (fun i _ => size - (intOf i).toNat)
    case atStart => exact ⟨0, Nat.zero_le _, rfl, hb1, by rw [Nat.sub_zero]; exact HR⟩
    case round =>
      obtain ⟨j, hj, rfl, hbr, HRj⟩ := hrel
      clear p0 p1 p2 p3 p4 p5 p6
      obtain ⟨p0, p1, p2, p3, p4, p5, p6⟩ := hk.out wr hbr
      have hbwr : Below w.heap.size w wr := hbw.trans (hbr.mono (by have := Hz0.out; omega))
      by_cases hlt : j < size
      · have hSr : Same B w wr := Same.mono (Same.of_below hbwr) hB
        have hj64 : j / 64 < nsl := by have := Q4.out; omega
        obtain ⟨nx, nad, hnx, hNA, _, hnc⟩ := (hns.keep hSr).get (show j / 64 < ns.length by rw [He1.out]; exact hj64)
        cases hNA
        obtain ⟨hn0, hn1⟩ := hnb nx (mem_of_get? hnx)
        have hnu : nullB ns j = (bits BinOp.and IntKind.u64 (nx / 2 ^ (j % 64)) 1 == 1) := by unfold nullB; rw [getD_of hnx]
        have hs0 : 0 < size := by omega
        have HR2 := HRj.out
        rw [okFrom_step V size j hlt] at HR2
        obtain ⟨sx, sad, hsx, rfl, _, hsc⟩ := (hss.keep hSr).get (show j < ss.length by rw [He3.out]; exact hlt)
        have hok : okAt V j = (!(bits BinOp.and IntKind.u64 (nx / 2 ^ (j % 64)) 1 == 1) || sx.toList.isEmpty) := by
          rw [← HV.out]
          show okI (nullB ns j) (kindS k) _ (ss.getD j ⟨#[]⟩) _ = _
          rw [hkK]
          unfold okI
          rw [if_pos rfl, hnu, getD_of hsx]
        rw [hok] at HR2
        clear hok hnu hsx hnx hns hss hnb hsb his hib hvs ht HRj
        cases hnull : (bits BinOp.and IntKind.u64 (nx / 2 ^ (j % 64)) 1 == 1)
        · have HR3 : Hid (okFrom V size (size - (j + 1)) = R) := by show _ = R; rw [← HR2, hnull]; simp
          clear HR2
          by_cases hse : sx.size = 0
          · have he : sx.toList = [] := toList_empty hse
            clear hse
            go_wp2
            go_roundw
            case rel => exact ⟨j + 1, by omega, by go_num, hbr, HR3⟩
            case measure => simp [intOf]; omega
          · have he : sx.toList.isEmpty = false := toList_isEmpty hse
            clear hse
            go_wp2
            go_roundw
            case rel => exact ⟨j + 1, by omega, by go_num, hbr, HR3⟩
            case measure => simp [intOf]; omega
        · by_cases hse : sx.size = 0
          · have he : sx.toList = [] := toList_empty hse
            have HR3 : Hid (okFrom V size (size - (j + 1)) = R) := by show _ = R; rw [← HR2, hnull, he]; simp
            clear HR2 hse
            go_wp2
            go_roundw
            case rel => exact ⟨j + 1, by omega, by go_num, hbr, HR3⟩
            case measure => simp [intOf]; omega
          · have he : sx.toList.isEmpty = false := toList_isEmpty hse
            have HR3 : Hid (false = R) := by show false = R; rw [← HR2, hnull, he]; simp
            clear HR2 hse
            go_wp2
            go_ret
            exact ⟨by rw [← HR3.out]; rfl, hbwr⟩
      · have HR3 : Hid (true = R) := by
          show true = R
          have := HRj.out
          rw [show size - j = 0 by omega] at this
          exact this
        go_wp2
        go_ret
        exact ⟨by rw [← HR3.out]; rfl, hbwr⟩
  · have z1 : decide (0 < (size : Int) % 64) = true := by simp; omega
    have hw0 : (size + 63) / 64 - 1 < nsl := by have := Q4.out; omega
    obtain ⟨lx, lad, hlx, rfl, _, hlc⟩ := (hns.keep (Same.mono (Same.of_below hbF) hB)).get (show (size + 63) / 64 - 1 < ns.length by rw [He1.out]; exact hw0)
    obtain ⟨hl0, hl1⟩ := hnb lx (mem_of_get? hlx)
    have hwi : (((size : Int) + 63) / 64 - 1).toNat = (size + 63) / 64 - 1 := by omega
    have hla : lastB ns size = (lx / 2 ^ (size % 64) == 0) := by
      unfold lastB
      rw [show (size % 64 == 0) = false by simpa using hz, getD_of hlx]
      rfl
    rw [hla] at hR2
    cases hlast : (lx / 2 ^ (size % 64) == 0)
    · have HR : Hid (false = R) := by show false = R; rw [← hR2, hlast]; rfl
      have hl2 : (lx / 2 ^ (size % 64) != 0) = true := by rw [bne, hlast]; rfl
      clear hR2 hla hlx hlast
      go_wp2
      go_ret
      exact ⟨by rw [← HR.out]; rfl, hbF⟩
    · have HR : Hid (okFrom V size size = R) := by show _ = R; rw [← hR2, hlast]; rfl
      have hl2 : (lx / 2 ^ (size % 64) != 0) = false := by rw [bne, hlast]; rfl
      clear hR2 hla hlx hlast
      go_wp2
      clear hlc hl2 hl0 hl1 hwi hw0
      try rw [show (size + 64 - 1) / 64 - 1 = (size + 63) / 64 - 1 from rfl]
      go_loopw [69] (fun i wr => ∃ j : Nat, j ≤ size ∧ i = .int .i64 j ∧ Below W0.heap.size W0 wr ∧ Hid (okFrom V size (size - j) = R)) (fun i _ => size - (intOf i).toNat)
      case atStart => exact ⟨0, Nat.zero_le _, rfl, hb1, by rw [Nat.sub_zero]; exact HR⟩
      case round =>
        obtain ⟨j, hj, rfl, hbr, HRj⟩ := hrel
        clear p0 p1 p2 p3 p4 p5 p6
        obtain ⟨p0, p1, p2, p3, p4, p5, p6⟩ := hk.out wr hbr
        have hbwr : Below w.heap.size w wr := hbw.trans (hbr.mono (by have := Hz0.out; omega))
        by_cases hlt : j < size
        · have hSr : Same B w wr := Same.mono (Same.of_below hbwr) hB
          have hj64 : j / 64 < nsl := by have := Q4.out; omega
          obtain ⟨nx, nad, hnx, hNA, _, hnc⟩ := (hns.keep hSr).get (show j / 64 < ns.length by rw [He1.out]; exact hj64)
          cases hNA
          obtain ⟨hn0, hn1⟩ := hnb nx (mem_of_get? hnx)
          have hnu : nullB ns j = (bits BinOp.and IntKind.u64 (nx / 2 ^ (j % 64)) 1 == 1) := by unfold nullB; rw [getD_of hnx]
          have hs0 : 0 < size := by omega
          have HR2 := HRj.out
          rw [okFrom_step V size j hlt] at HR2
          obtain ⟨sx, sad, hsx, rfl, _, hsc⟩ := (hss.keep hSr).get (show j < ss.length by rw [He3.out]; exact hlt)
          have hok : okAt V j = (!(bits BinOp.and IntKind.u64 (nx / 2 ^ (j % 64)) 1 == 1) || sx.toList.isEmpty) := by
            rw [← HV.out]
            show okI (nullB ns j) (kindS k) _ (ss.getD j ⟨#[]⟩) _ = _
            rw [hkK]
            unfold okI
            rw [if_pos rfl, hnu, getD_of hsx]
          rw [hok] at HR2
          clear hok hnu hsx hnx hns hss hnb hsb his hib hvs ht HRj
          cases hnull : (bits BinOp.and IntKind.u64 (nx / 2 ^ (j % 64)) 1 == 1)
          · have HR3 : Hid (okFrom V size (size - (j + 1)) = R) := by show _ = R; rw [← HR2, hnull]; simp
            clear HR2
            by_cases hse : sx.size = 0
            · have he : sx.toList = [] := toList_empty hse
              clear hse
              go_wp2
              go_roundw
              case rel => exact ⟨j + 1, by omega, by go_num, hbr, HR3⟩
              case measure => simp [intOf]; omega
            · have he : sx.toList.isEmpty = false := toList_isEmpty hse
              clear hse
              go_wp2
              go_roundw
              case rel => exact ⟨j + 1, by omega, by go_num, hbr, HR3⟩
              case measure => simp [intOf]; omega
          · by_cases hse : sx.size = 0
            · have he : sx.toList = [] := toList_empty hse
              have HR3 : Hid (okFrom V size (size - (j + 1)) = R) := by show _ = R; rw [← HR2, hnull, he]; simp
              clear HR2 hse
              go_wp2
              go_roundw
              case rel => exact ⟨j + 1, by omega, by go_num, hbr, HR3⟩
              case measure => simp [intOf]; omega
            · have he : sx.toList.isEmpty = false := toList_isEmpty hse
              have HR3 : Hid (false = R) := by show false = R; rw [← HR2, hnull, he]; simp
              clear HR2 hse
              go_wp2
              go_ret
              exact ⟨by rw [← HR3.out]; rfl, hbwr⟩
        · have HR3 : Hid (true = R) := by
            show true = R
            have := HRj.out
            rw [show size - j = 0 by omega] at this
            exact this
          go_wp2
          go_ret
          exact ⟨by rw [← HR3.out]; rfl, hbwr⟩
end Go.Proofs.YtkadahfknccjfaaGreatDoor
namespace Go.Proofs.YtkadahfknccjfaaGreatDoor
open Go.RowKit
set_option maxRecDepth 100000 in
set_option maxHeartbeats 4000000 in
theorem eformed2 (v : VecT) (size B : Nat) (w : World) (hv : VecT.In B w v) (hB : B ≤ w.heap.size) (hs : size ≤ 1024) (hkK : kindS v.t.a.k = 2) :
    Calls Tryz.prog 66 #[.agg #[.int .i64 v.t.a.k, .int .i64 v.t.a.sc, .slice v.t.a.A v.t.l.length v.t.a.cap, .slice v.NA v.ns.length v.ncap, .slice v.IA v.is.length v.icap, .slice v.SA v.ss.length v.scap, .slice v.VA v.vs.length v.vcap], .int .i64 (size : Int)] w fun e w' => e = .returned (.bool (formS v size)) ∧ Below w.heap.size w w' := by
  obtain ⟨R, hR⟩ : ∃ R, formS v size = R := ⟨_, rfl⟩
  rw [hR]
  unfold formS at hR
  rw [hkK] at hR
  obtain ⟨V, hV⟩ : ∃ V, v = V := ⟨_, rfl⟩
  obtain ⟨t, NA, ncap, ns, IA, icap, is, SA, scap, ss, VA, vcap, vs⟩ := v
  obtain ⟨⟨id, nm, nd, k, sc, A, cap⟩, fl⟩ := t
  obtain ⟨ht, hns, hnb, his, hib, hss, hsb, hvs⟩ := hv
  simp only [FT.a_node, FT.l_node] at hkK hns hnb his hib hss hsb hvs hR ⊢
  rw [hV] at hR
  have hnl : ns.length ≤ 9223372036854775807 := Nat.le_trans hns.1 hns.2.1
  have hil : is.length ≤ 9223372036854775807 := Nat.le_trans his.1 his.2.1
  have hsl : ss.length ≤ 9223372036854775807 := Nat.le_trans hss.1 hss.2.1
  have hvl : vs.length ≤ 9223372036854775807 := Nat.le_trans hvs.1.1 hvs.1.2.1
  obtain ⟨nsl, ensl⟩ : ∃ n, ns.length = n := ⟨_, rfl⟩
  obtain ⟨isl, eisl⟩ : ∃ n, is.length = n := ⟨_, rfl⟩
  obtain ⟨ssl, essl⟩ : ∃ n, ss.length = n := ⟨_, rfl⟩
  obtain ⟨vsl, evsl⟩ : ∃ n, vs.length = n := ⟨_, rfl⟩
  obtain ⟨fll, efll⟩ : ∃ n, fl.length = n := ⟨_, rfl⟩
  rw [ensl] at hnl hR ⊢
  rw [eisl] at hil hR ⊢
  rw [essl] at hsl hR ⊢
  rw [evsl] at hvl hR ⊢
  rw [efll]
  rw [if_pos trivial, if_neg (show ¬ (2 : Int) = 4 by decide), if_neg (show ¬ (2 : Int) = 6 by decide)] at hR
  obtain ⟨W0, hW0⟩ : ∃ W0, w.alloc (.cells #[.int .i64 k, .int .i64 sc, .slice A fll cap, .slice NA nsl ncap, .slice IA isl icap, .slice SA ssl scap, .slice VA vsl vcap] 54) = W0 := ⟨_, rfl⟩
  have hbw : Below w.heap.size w W0 := by rw [← hW0]; exact bel1 _ _
  have hz0 : W0.heap.size = w.heap.size + 1 := by rw [← hW0]; simp
  have P0 : W0.heap[w.heap.size]? = some (.cells #[.int .i64 k, .int .i64 sc, .slice A fll cap, .slice NA nsl ncap, .slice IA isl icap, .slice SA ssl scap, .slice VA vsl vcap] 54 (0, 0)) := by rw [← hW0]; exact heap_alloc_new w _
  have hk : Hid (∀ W, Below W0.heap.size W0 W → W.cell? ⟨w.heap.size, 0, none⟩ = some (.int .i64 k) ∧ W.cell? ⟨w.heap.size, 1, none⟩ = some (.int .i64 sc) ∧ W.cell? ⟨w.heap.size, 2, none⟩ = some (.slice A fll cap) ∧ W.cell? ⟨w.heap.size, 3, none⟩ = some (.slice NA nsl ncap) ∧ W.cell? ⟨w.heap.size, 4, none⟩ = some (.slice IA isl icap) ∧ W.cell? ⟨w.heap.size, 5, none⟩ = some (.slice SA ssl scap) ∧ W.cell? ⟨w.heap.size, 6, none⟩ = some (.slice VA vsl vcap)) := fun W h => by
    have Q0 := (h.block w.heap.size (by omega)).trans P0
    exact ⟨cell_of_row W w.heap.size 0 _ _ _ Q0, cell_of_row W w.heap.size 1 _ _ _ Q0, cell_of_row W w.heap.size 2 _ _ _ Q0, cell_of_row W w.heap.size 3 _ _ _ Q0, cell_of_row W w.heap.size 4 _ _ _ Q0, cell_of_row W w.heap.size 5 _ _ _ Q0, cell_of_row W w.heap.size 6 _ _ _ Q0⟩
  have hkd := Lib.hid (ekind_any k sc A fll cap W0)
  have HV := Lib.hid hV
  have HW0 := Lib.hid hW0
  have Hz0 := Lib.hid hz0
  have He1 := Lib.hid ensl
  have He2 := Lib.hid eisl
  have He3 := Lib.hid essl
  have He4 := Lib.hid evsl
  clear hW0 hz0 P0 ensl eisl essl evsl efll hV
  go_enter Tryz.func66, Tryz.ntmps66
  go_wp2_with fail
  rw [HW0.out]
  refine hkd.out.mono ?_
  rintro e w1 ⟨rfl, hb1⟩
  obtain ⟨p0, p1, p2, p3, p4, p5, p6⟩ := hk.out w1 hb1
  have hbF : Below w.heap.size w w1 := hbw.trans (hb1.mono (by have := Hz0.out; omega))
  -- the lengths
  by_cases q1 : isl = size
  rotate_left
  · have n1 : ((isl : Int) != ((size : Nat) : Int)) = true := by simp; omega
    have HR : Hid (false = R) := by show false = R; rw [← hR, show (isl == size) = false by simpa using q1]; rfl
    clear hR
    go_wp2
    go_ret
    exact ⟨by rw [← HR.out]; rfl, hbF⟩
  have q1' := q1.symm
  subst q1'
  by_cases q2 : ssl = 0
  rotate_left
  · have n2 : ((ssl : Int) != ((0 : Nat) : Int)) = true := by simp; omega
    have HR : Hid (false = R) := by show false = R; rw [← hR, show (ssl == 0) = false by simpa using q2]; simp
    clear hR
    go_wp2
    go_ret
    exact ⟨by rw [← HR.out]; rfl, hbF⟩
  have q2' := q2.symm
  subst q2'
  by_cases q3 : vsl = 0
  rotate_left
  · have n3 : ((vsl : Int) != ((0 : Nat) : Int)) = true := by simp; omega
    have HR : Hid (false = R) := by show false = R; rw [← hR, show (vsl == 0) = false by simpa using q3]; simp
    clear hR
    go_wp2
    go_ret
    exact ⟨by rw [← HR.out]; rfl, hbF⟩
  have q3' := q3.symm
  subst q3'
  by_cases q4 : nsl = (size + 63) / 64
  rotate_left
  · have n4 : ((nsl : Int) != ((size : Int) + 63) / 64) = true := by simp; omega
    have HR : Hid (false = R) := by show false = R; rw [← hR, show (nsl == (size + 63) / 64) = false by simpa using q4]; simp
    clear hR
    go_wp2
    go_ret
    exact ⟨by rw [← HR.out]; rfl, hbF⟩
  have hR2 : (lastB ns size && okFrom V size size) = R := by
    rw [← hR, show (nsl == (size + 63) / 64) = true by simpa using q4]
    simp
  clear hR
  have n4 : ((nsl : Int) != ((size : Int) + 64 - 1) / 64) = false := by simp; omega
  have Q4 := Lib.hid q4
  clear q4
  by_cases hz : size % 64 = 0
  · have z1 : decide (0 < (size : Int) % 64) = false := by simp; omega
    have HR : Hid (okFrom V size size = R) := by
      show _ = R
      rw [← hR2]
      unfold lastB
      rw [show (size % 64 == 0) = true by simpa using hz]
      rfl
    clear hR2 hz
    go_wp2
    go_loopw [69] (fun i wr => ∃ j : Nat, j ≤ size ∧ i = .int .i64 j ∧ Below W0.heap.size W0 wr ∧ Hid (okFrom V size (size - j) = R)) (fun i _ => size - (intOf i).toNat)
    case atStart => exact ⟨0, Nat.zero_le _, rfl, hb1, by rw [Nat.sub_zero]; exact HR⟩
    case round =>
      obtain ⟨j, hj, rfl, hbr, HRj⟩ := hrel
      clear p0 p1 p2 p3 p4 p5 p6
      obtain ⟨p0, p1, p2, p3, p4, p5, p6⟩ := hk.out wr hbr
      have hbwr : Below w.heap.size w wr := hbw.trans (hbr.mono (by have := Hz0.out; omega))
      by_cases hlt : j < size
      · have hSr : Same B w wr := Same.mono (Same.of_below hbwr) hB
        have hj64 : j / 64 < nsl := by have := Q4.out; omega
        obtain ⟨nx, nad, hnx, hNA, _, hnc⟩ := (hns.keep hSr).get (show j / 64 < ns.length by rw [He1.out]; exact hj64)
        cases hNA
        obtain ⟨hn0, hn1⟩ := hnb nx (mem_of_get? hnx)
        have hnu : nullB ns j = (bits BinOp.and IntKind.u64 (nx / 2 ^ (j % 64)) 1 == 1) := by unfold nullB; rw [getD_of hnx]
        have hs0 : 0 < size := by omega
        have HR2 := HRj.out
        rw [okFrom_step V size j hlt] at HR2
        obtain ⟨ix, iad, hix, rfl, _, hic⟩ := (his.keep hSr).get (show j < is.length by rw [He2.out]; exact hlt)
        have hok : okAt V j = (!(bits BinOp.and IntKind.u64 (nx / 2 ^ (j % 64)) 1 == 1) || (ix == 0)) := by
          rw [← HV.out]
          show okI (nullB ns j) (kindS k) _ _ (is.getD j 0) = _
          rw [hkK]
          unfold okI
          rw [if_neg (by decide), if_neg (by decide), hnu, getD_of hix]
        rw [hok] at HR2
        clear hok hnu hix hnx hns hss hnb hsb his hib hvs ht HRj
        cases hnull : (bits BinOp.and IntKind.u64 (nx / 2 ^ (j % 64)) 1 == 1)
        · have HR3 : Hid (okFrom V size (size - (j + 1)) = R) := by show _ = R; rw [← HR2, hnull]; simp
          clear HR2
          cases he : (ix == 0)
          all_goals
            go_wp2
            go_roundw
            case rel => exact ⟨j + 1, by omega, by go_num, hbr, HR3⟩
            case measure => simp [intOf]; omega
        · cases he : (ix == 0)
          · have HR3 : Hid (false = R) := by show false = R; rw [← HR2, hnull, he]; simp
            clear HR2
            go_wp2
            go_ret
            exact ⟨by rw [← HR3.out]; rfl, hbwr⟩
          · have HR3 : Hid (okFrom V size (size - (j + 1)) = R) := by show _ = R; rw [← HR2, hnull, he]; simp
            clear HR2
            go_wp2
            go_roundw
            case rel => exact ⟨j + 1, by omega, by go_num, hbr, HR3⟩
            case measure => simp [intOf]; omega
      · have HR3 : Hid (true = R) := by
          show true = R
          have := HRj.out
          rw [show size - j = 0 by omega] at this
          exact this
        go_wp2
        go_ret
        exact ⟨by rw [← HR3.out]; rfl, hbwr⟩
  · have z1 : decide (0 < (size : Int) % 64) = true := by simp; omega
    have hw0 : (size + 63) / 64 - 1 < nsl := by have := Q4.out; omega
    obtain ⟨lx, lad, hlx, rfl, _, hlc⟩ := (hns.keep (Same.mono (Same.of_below hbF) hB)).get (show (size + 63) / 64 - 1 < ns.length by rw [He1.out]; exact hw0)
    obtain ⟨hl0, hl1⟩ := hnb lx (mem_of_get? hlx)
    have hwi : (((size : Int) + 63) / 64 - 1).toNat = (size + 63) / 64 - 1 := by omega
    have hla : lastB ns size = (lx / 2 ^ (size % 64) == 0) := by
      unfold lastB
      rw [show (size % 64 == 0) = false by simpa using hz, getD_of hlx]
      rfl
    rw [hla] at hR2
    cases hlast : (lx / 2 ^ (size % 64) == 0)
    · have HR : Hid (false = R) := by show false = R; rw [← hR2, hlast]; rfl
      have hl2 : (lx / 2 ^ (size % 64) != 0) = true := by rw [bne, hlast]; rfl
      clear hR2 hla hlx hlast
      go_wp2
      go_ret
      exact ⟨by rw [← HR.out]; rfl, hbF⟩
    · have HR : Hid (okFrom V size size = R) := by show _ = R; rw [← hR2, hlast]; rfl
      have hl2 : (lx / 2 ^ (size % 64) != 0) = false := by rw [bne, hlast]; rfl
      clear hR2 hla hlx hlast
      go_wp2
      clear hlc hl2 hl0 hl1 hwi hw0
      try rw [show (size + 64 - 1) / 64 - 1 = (size + 63) / 64 - 1 from rfl]
      go_loopw [69] (fun i wr => ∃ j : Nat, j ≤ size ∧ i = .int .i64 j ∧ Below W0.heap.size W0 wr ∧ Hid (okFrom V size (size - j) = R)) (fun i _ => size - (intOf i).toNat)
      case atStart => exact ⟨0, Nat.zero_le _, rfl, hb1, by rw [Nat.sub_zero]; exact HR⟩
      case round =>
        obtain ⟨j, hj, rfl, hbr, HRj⟩ := hrel
        clear p0 p1 p2 p3 p4 p5 p6
        obtain ⟨p0, p1, p2, p3, p4, p5, p6⟩ := hk.out wr hbr
        have hbwr : Below w.heap.size w wr := hbw.trans (hbr.mono (by have := Hz0.out; omega))
        by_cases hlt : j < size
        · have hSr : Same B w wr := Same.mono (Same.of_below hbwr) hB
          have hj64 : j / 64 < nsl := by have := Q4.out; omega
          obtain ⟨nx, nad, hnx, hNA, _, hnc⟩ := (hns.keep hSr).get (show j / 64 < ns.length by rw [He1.out]; exact hj64)
          cases hNA
          obtain ⟨hn0, hn1⟩ := hnb nx (mem_of_get? hnx)
          have hnu : nullB ns j = (bits BinOp.and IntKind.u64 (nx / 2 ^ (j % 64)) 1 == 1) := by unfold nullB; rw [getD_of hnx]
          have hs0 : 0 < size := by omega
          have HR2 := HRj.out
          rw [okFrom_step V size j hlt] at HR2
          obtain ⟨ix, iad, hix, rfl, _, hic⟩ := (his.keep hSr).get (show j < is.length by rw [He2.out]; exact hlt)
          have hok : okAt V j = (!(bits BinOp.and IntKind.u64 (nx / 2 ^ (j % 64)) 1 == 1) || (ix == 0)) := by
            rw [← HV.out]
            show okI (nullB ns j) (kindS k) _ _ (is.getD j 0) = _
            rw [hkK]
            unfold okI
            rw [if_neg (by decide), if_neg (by decide), hnu, getD_of hix]
          rw [hok] at HR2
          clear hok hnu hix hnx hns hss hnb hsb his hib hvs ht HRj
          cases hnull : (bits BinOp.and IntKind.u64 (nx / 2 ^ (j % 64)) 1 == 1)
          · have HR3 : Hid (okFrom V size (size - (j + 1)) = R) := by show _ = R; rw [← HR2, hnull]; simp
            clear HR2
            cases he : (ix == 0)
            all_goals
              go_wp2
              go_roundw
              case rel => exact ⟨j + 1, by omega, by go_num, hbr, HR3⟩
              case measure => simp [intOf]; omega
          · cases he : (ix == 0)
            · have HR3 : Hid (false = R) := by show false = R; rw [← HR2, hnull, he]; simp
              clear HR2
              go_wp2
              go_ret
              exact ⟨by rw [← HR3.out]; rfl, hbwr⟩
            · have HR3 : Hid (okFrom V size (size - (j + 1)) = R) := by show _ = R; rw [← HR2, hnull, he]; simp
              clear HR2
              go_wp2
              go_roundw
              case rel => exact ⟨j + 1, by omega, by go_num, hbr, HR3⟩
              case measure => simp [intOf]; omega
        · have HR3 : Hid (true = R) := by
            show true = R
            have := HRj.out
            rw [show size - j = 0 by omega] at this
            exact this
          go_wp2
          go_ret
          exact ⟨by rw [← HR3.out]; rfl, hbwr⟩
end Go.Proofs.YtkadahfknccjfaaGreatDoor
namespace Go.Proofs.YtkadahfknccjfaaGreatDoor
open Go.RowKit
set_option maxRecDepth 100000 in
set_option maxHeartbeats 4000000 in
theorem eformed6 (v : VecT) (size B : Nat) (w : World) (hv : VecT.In B w v) (hB : B ≤ w.heap.size) (hs : size ≤ 1024) (hkK : kindS v.t.a.k = 6) :
    Calls Tryz.prog 66 #[.agg #[.int .i64 v.t.a.k, .int .i64 v.t.a.sc, .slice v.t.a.A v.t.l.length v.t.a.cap, .slice v.NA v.ns.length v.ncap, .slice v.IA v.is.length v.icap, .slice v.SA v.ss.length v.scap, .slice v.VA v.vs.length v.vcap], .int .i64 (size : Int)] w fun e w' => e = .returned (.bool (formS v size)) ∧ Below w.heap.size w w' := by
  obtain ⟨R, hR⟩ : ∃ R, formS v size = R := ⟨_, rfl⟩
  rw [hR]
  unfold formS at hR
  rw [hkK] at hR
  obtain ⟨V, hV⟩ : ∃ V, v = V := ⟨_, rfl⟩
  obtain ⟨t, NA, ncap, ns, IA, icap, is, SA, scap, ss, VA, vcap, vs⟩ := v
  obtain ⟨⟨id, nm, nd, k, sc, A, cap⟩, fl⟩ := t
  obtain ⟨ht, hns, hnb, his, hib, hss, hsb, hvs⟩ := hv
  simp only [FT.a_node, FT.l_node] at hkK hns hnb his hib hss hsb hvs hR ⊢
  rw [hV] at hR
  have hnl : ns.length ≤ 9223372036854775807 := Nat.le_trans hns.1 hns.2.1
  have hil : is.length ≤ 9223372036854775807 := Nat.le_trans his.1 his.2.1
  have hsl : ss.length ≤ 9223372036854775807 := Nat.le_trans hss.1 hss.2.1
  have hvl : vs.length ≤ 9223372036854775807 := Nat.le_trans hvs.1.1 hvs.1.2.1
  obtain ⟨nsl, ensl⟩ : ∃ n, ns.length = n := ⟨_, rfl⟩
  obtain ⟨isl, eisl⟩ : ∃ n, is.length = n := ⟨_, rfl⟩
  obtain ⟨ssl, essl⟩ : ∃ n, ss.length = n := ⟨_, rfl⟩
  obtain ⟨vsl, evsl⟩ : ∃ n, vs.length = n := ⟨_, rfl⟩
  obtain ⟨fll, efll⟩ : ∃ n, fl.length = n := ⟨_, rfl⟩
  rw [ensl] at hnl hR ⊢
  rw [eisl] at hil hR ⊢
  rw [essl] at hsl hR ⊢
  rw [evsl] at hvl hR ⊢
  rw [efll]
  rw [if_neg (show ¬ (6 : Int) = 2 by decide), if_neg (show ¬ (6 : Int) = 4 by decide), if_pos trivial] at hR
  obtain ⟨W0, hW0⟩ : ∃ W0, w.alloc (.cells #[.int .i64 k, .int .i64 sc, .slice A fll cap, .slice NA nsl ncap, .slice IA isl icap, .slice SA ssl scap, .slice VA vsl vcap] 54) = W0 := ⟨_, rfl⟩
  have hbw : Below w.heap.size w W0 := by rw [← hW0]; exact bel1 _ _
  have hz0 : W0.heap.size = w.heap.size + 1 := by rw [← hW0]; simp
  have P0 : W0.heap[w.heap.size]? = some (.cells #[.int .i64 k, .int .i64 sc, .slice A fll cap, .slice NA nsl ncap, .slice IA isl icap, .slice SA ssl scap, .slice VA vsl vcap] 54 (0, 0)) := by rw [← hW0]; exact heap_alloc_new w _
  have hk : Hid (∀ W, Below W0.heap.size W0 W → W.cell? ⟨w.heap.size, 0, none⟩ = some (.int .i64 k) ∧ W.cell? ⟨w.heap.size, 1, none⟩ = some (.int .i64 sc) ∧ W.cell? ⟨w.heap.size, 2, none⟩ = some (.slice A fll cap) ∧ W.cell? ⟨w.heap.size, 3, none⟩ = some (.slice NA nsl ncap) ∧ W.cell? ⟨w.heap.size, 4, none⟩ = some (.slice IA isl icap) ∧ W.cell? ⟨w.heap.size, 5, none⟩ = some (.slice SA ssl scap) ∧ W.cell? ⟨w.heap.size, 6, none⟩ = some (.slice VA vsl vcap)) := fun W h => by
    have Q0 := (h.block w.heap.size (by omega)).trans P0
    exact ⟨cell_of_row W w.heap.size 0 _ _ _ Q0, cell_of_row W w.heap.size 1 _ _ _ Q0, cell_of_row W w.heap.size 2 _ _ _ Q0, cell_of_row W w.heap.size 3 _ _ _ Q0, cell_of_row W w.heap.size 4 _ _ _ Q0, cell_of_row W w.heap.size 5 _ _ _ Q0, cell_of_row W w.heap.size 6 _ _ _ Q0⟩
  have hkd := Lib.hid (ekind_any k sc A fll cap W0)
  have HV := Lib.hid hV
  have HW0 := Lib.hid hW0
  have Hz0 := Lib.hid hz0
  have He1 := Lib.hid ensl
  have He2 := Lib.hid eisl
  have He3 := Lib.hid essl
  have He4 := Lib.hid evsl
  clear hW0 hz0 P0 ensl eisl essl evsl efll hV
  go_enter Tryz.func66, Tryz.ntmps66
  go_wp2_with fail
  rw [HW0.out]
  refine hkd.out.mono ?_
  rintro e w1 ⟨rfl, hb1⟩
  obtain ⟨p0, p1, p2, p3, p4, p5, p6⟩ := hk.out w1 hb1
  have hbF : Below w.heap.size w w1 := hbw.trans (hb1.mono (by have := Hz0.out; omega))
  -- the lengths
  by_cases q1 : isl = 0
  rotate_left
  · have n1 : ((isl : Int) != ((0 : Nat) : Int)) = true := by simp; omega
    have HR : Hid (false = R) := by show false = R; rw [← hR, show (isl == 0) = false by simpa using q1]; rfl
    clear hR
    go_wp2
    go_ret
    exact ⟨by rw [← HR.out]; rfl, hbF⟩
  have q1' := q1.symm
  subst q1'
  by_cases q2 : ssl = 0
  rotate_left
  · have n2 : ((ssl : Int) != ((0 : Nat) : Int)) = true := by simp; omega
    have HR : Hid (false = R) := by show false = R; rw [← hR, show (ssl == 0) = false by simpa using q2]; simp
    clear hR
    go_wp2
    go_ret
    exact ⟨by rw [← HR.out]; rfl, hbF⟩
  have q2' := q2.symm
  subst q2'
  by_cases q3 : vsl = size
  rotate_left
  · have n3 : ((vsl : Int) != ((size : Nat) : Int)) = true := by simp; omega
    have HR : Hid (false = R) := by show false = R; rw [← hR, show (vsl == size) = false by simpa using q3]; simp
    clear hR
    go_wp2
    go_ret
    exact ⟨by rw [← HR.out]; rfl, hbF⟩
  have q3' := q3.symm
  subst q3'
  by_cases q4 : nsl = (size + 63) / 64
  rotate_left
  · have n4 : ((nsl : Int) != ((size : Int) + 63) / 64) = true := by simp; omega
    have HR : Hid (false = R) := by show false = R; rw [← hR, show (nsl == (size + 63) / 64) = false by simpa using q4]; simp
    clear hR
    go_wp2
    go_ret
    exact ⟨by rw [← HR.out]; rfl, hbF⟩
  have hR2 : (lastB ns size && okFrom V size size) = R := by
    rw [← hR, show (nsl == (size + 63) / 64) = true by simpa using q4]
    simp
  clear hR
  have n4 : ((nsl : Int) != ((size : Int) + 64 - 1) / 64) = false := by simp; omega
  have Q4 := Lib.hid q4
  clear q4
  by_cases hz : size % 64 = 0
  · have z1 : decide (0 < (size : Int) % 64) = false := by simp; omega
    have HR : Hid (okFrom V size size = R) := by
      show _ = R
      rw [← hR2]
      unfold lastB
      rw [show (size % 64 == 0) = true by simpa using hz]
      rfl
    clear hR2 hz
    go_wp2
    go_loopw [69] (fun i wr => ∃ j : Nat, j ≤ size ∧ i = .int .i64 j ∧ Below W0.heap.size W0 wr ∧ Hid (okFrom V size (size - j) = R)) (fun i _ => size - (intOf i).toNat)
    case atStart => exact ⟨0, Nat.zero_le _, rfl, hb1, by rw [Nat.sub_zero]; exact HR⟩
    case round =>
      obtain ⟨j, hj, rfl, hbr, HRj⟩ := hrel
      clear p0 p1 p2 p3 p4 p5 p6
      obtain ⟨p0, p1, p2, p3, p4, p5, p6⟩ := hk.out wr hbr
      have hbwr : Below w.heap.size w wr := hbw.trans (hbr.mono (by have := Hz0.out; omega))
      by_cases hlt : j < size
      · have hSr : Same B w wr := Same.mono (Same.of_below hbwr) hB
        have hj64 : j / 64 < nsl := by have := Q4.out; omega
        obtain ⟨nx, nad, hnx, hNA, _, hnc⟩ := (hns.keep hSr).get (show j / 64 < ns.length by rw [He1.out]; exact hj64)
        cases hNA
        obtain ⟨hn0, hn1⟩ := hnb nx (mem_of_get? hnx)
        have hnu : nullB ns j = (bits BinOp.and IntKind.u64 (nx / 2 ^ (j % 64)) 1 == 1) := by unfold nullB; rw [getD_of hnx]
        have hs0 : 0 < size := by omega
        have HR2 := HRj.out
        rw [okFrom_step V size j hlt] at HR2
        obtain ⟨vx, vad, hvx, rfl, _, x0, x1, x2, x3, x4⟩ := (hvs.1.keep hSr).get (show j < vs.length by rw [He4.out]; exact hlt)
        have hvxl : vx.l.length ≤ 9223372036854775807 := by
          have hin := hvs.2 vx (mem_of_get? hvx)
          obtain ⟨va, vl⟩ := vx
          have := hin.parts.2.2.2.2.1
          exact Nat.le_trans this.1 this.2.1
        have hze' := ezero_any vx.a.k vx.a.n vx.a.sc vx.a.s vx.a.A vx.l.length vx.a.cap wr hvxl
        obtain ⟨Z, hZ⟩ : ∃ Z, zeroB vx.a.k vx.a.n vx.a.sc vx.a.s vx.l.length = Z := ⟨_, rfl⟩
        rw [hZ] at hze'
        have hze := Lib.hid hze'
        have hok : okAt V j = (if (bits BinOp.and IntKind.u64 (nx / 2 ^ (j % 64)) 1 == 1) = true then Z else !(vx.a.k == 0)) := by
          rw [← HV.out]
          show okI (nullB ns j) (kindS k) (vs.getD j zeroV) _ _ = _
          rw [hkK]
          unfold okI
          rw [if_neg (by decide), if_pos rfl, hnu, getD_of hvx, hZ]
        rw [hok] at HR2
        clear hok hnu hvx hnx hns hss hnb hsb his hib hvs ht HRj hZ hvxl hze'
        cases hnull : (bits BinOp.and IntKind.u64 (nx / 2 ^ (j % 64)) 1 == 1)
        · cases he : (vx.a.k == 0)
          · have HR3 : Hid (okFrom V size (size - (j + 1)) = R) := by show _ = R; rw [← HR2, hnull, he]; simp
            clear HR2
            go_wp2_with fail
            refine hze.out.mono ?_
            rintro e w9 ⟨rfl, hb9⟩
            have hb90 : Below W0.heap.size W0 w9 := hbr.trans (hb9.mono hbr.size)
            have hbw9 : Below w.heap.size w w9 := hbwr.trans (hb9.mono hbwr.size)
            have y0 := (hb9.cell (cell_lt x0)).trans x0
            clear p0 p1 p2 p3 p4 p5 p6
            obtain ⟨p0, p1, p2, p3, p4, p5, p6⟩ := hk.out w9 hb90
            go_wp2
            go_roundw
            case rel => exact ⟨j + 1, by omega, by go_num, hb90, HR3⟩
            case measure => simp [intOf]; omega
          · have HR3 : Hid (false = R) := by show false = R; rw [← HR2, hnull, he]; simp
            clear HR2
            go_wp2_with fail
            refine hze.out.mono ?_
            rintro e w9 ⟨rfl, hb9⟩
            have hb90 : Below W0.heap.size W0 w9 := hbr.trans (hb9.mono hbr.size)
            have hbw9 : Below w.heap.size w w9 := hbwr.trans (hb9.mono hbwr.size)
            have y0 := (hb9.cell (cell_lt x0)).trans x0
            clear p0 p1 p2 p3 p4 p5 p6
            obtain ⟨p0, p1, p2, p3, p4, p5, p6⟩ := hk.out w9 hb90
            go_wp2
            go_ret
            exact ⟨by rw [← HR3.out]; rfl, hbw9⟩
        · cases Z
          · have HR3 : Hid (false = R) := by show false = R; rw [← HR2, hnull]; simp
            clear HR2
            go_wp2_with fail
            refine hze.out.mono ?_
            rintro e w9 ⟨rfl, hb9⟩
            have hb90 : Below W0.heap.size W0 w9 := hbr.trans (hb9.mono hbr.size)
            have hbw9 : Below w.heap.size w w9 := hbwr.trans (hb9.mono hbwr.size)
            have y0 := (hb9.cell (cell_lt x0)).trans x0
            clear p0 p1 p2 p3 p4 p5 p6
            obtain ⟨p0, p1, p2, p3, p4, p5, p6⟩ := hk.out w9 hb90
            go_wp2
            go_ret
            exact ⟨by rw [← HR3.out]; rfl, hbw9⟩
          · have HR3 : Hid (okFrom V size (size - (j + 1)) = R) := by show _ = R; rw [← HR2, hnull]; simp
            clear HR2
            go_wp2_with fail
            refine hze.out.mono ?_
            rintro e w9 ⟨rfl, hb9⟩
            have hb90 : Below W0.heap.size W0 w9 := hbr.trans (hb9.mono hbr.size)
            have hbw9 : Below w.heap.size w w9 := hbwr.trans (hb9.mono hbwr.size)
            have y0 := (hb9.cell (cell_lt x0)).trans x0
            clear p0 p1 p2 p3 p4 p5 p6
            obtain ⟨p0, p1, p2, p3, p4, p5, p6⟩ := hk.out w9 hb90
            go_wp2
            go_roundw
            case rel => exact ⟨j + 1, by omega, by go_num, hb90, HR3⟩
            case measure => simp [intOf]; omega
      · have HR3 : Hid (true = R) := by
          show true = R
          have := HRj.out
          rw [show size - j = 0 by omega] at this
          exact this
        go_wp2
        go_ret
        exact ⟨by rw [← HR3.out]; rfl, hbwr⟩
  · have z1 : decide (0 < (size : Int) % 64) = true := by simp; omega
    have hw0 : (size + 63) / 64 - 1 < nsl := by have := Q4.out; omega
    obtain ⟨lx, lad, hlx, rfl, _, hlc⟩ := (hns.keep (Same.mono (Same.of_below hbF) hB)).get (show (size + 63) / 64 - 1 < ns.length by rw [He1.out]; exact hw0)
    obtain ⟨hl0, hl1⟩ := hnb lx (mem_of_get? hlx)
    have hwi : (((size : Int) + 63) / 64 - 1).toNat = (size + 63) / 64 - 1 := by omega
    have hla : lastB ns size = (lx / 2 ^ (size % 64) == 0) := by
      unfold lastB
      rw [show (size % 64 == 0) = false by simpa using hz, getD_of hlx]
      rfl
    rw [hla] at hR2
    cases hlast : (lx / 2 ^ (size % 64) == 0)
    · have HR : Hid (false = R) := by show false = R; rw [← hR2, hlast]; rfl
      have hl2 : (lx / 2 ^ (size % 64) != 0) = true := by rw [bne, hlast]; rfl
      clear hR2 hla hlx hlast
      go_wp2
      go_ret
      exact ⟨by rw [← HR.out]; rfl, hbF⟩
    · have HR : Hid (okFrom V size size = R) := by show _ = R; rw [← hR2, hlast]; rfl
      have hl2 : (lx / 2 ^ (size % 64) != 0) = false := by rw [bne, hlast]; rfl
      clear hR2 hla hlx hlast
      go_wp2
      clear hlc hl2 hl0 hl1 hwi hw0
      try rw [show (size + 64 - 1) / 64 - 1 = (size + 63) / 64 - 1 from rfl]
      go_loopw [69] (fun i wr => ∃ j : Nat, j ≤ size ∧ i = .int .i64 j ∧ Below W0.heap.size W0 wr ∧ Hid (okFrom V size (size - j) = R)) (fun i _ => size - (intOf i).toNat)
      case atStart => exact ⟨0, Nat.zero_le _, rfl, hb1, by rw [Nat.sub_zero]; exact HR⟩
      case round =>
        obtain ⟨j, hj, rfl, hbr, HRj⟩ := hrel
        clear p0 p1 p2 p3 p4 p5 p6
        obtain ⟨p0, p1, p2, p3, p4, p5, p6⟩ := hk.out wr hbr
        have hbwr : Below w.heap.size w wr := hbw.trans (hbr.mono (by have := Hz0.out; omega))
        by_cases hlt : j < size
        · have hSr : Same B w wr := Same.mono (Same.of_below hbwr) hB
          have hj64 : j / 64 < nsl := by have := Q4.out; omega
          obtain ⟨nx, nad, hnx, hNA, _, hnc⟩ := (hns.keep hSr).get (show j / 64 < ns.length by rw [He1.out]; exact hj64)
          cases hNA
          obtain ⟨hn0, hn1⟩ := hnb nx (mem_of_get? hnx)
          have hnu : nullB ns j = (bits BinOp.and IntKind.u64 (nx / 2 ^ (j % 64)) 1 == 1) := by unfold nullB; rw [getD_of hnx]
          have hs0 : 0 < size := by omega
          have HR2 := HRj.out
          rw [okFrom_step V size j hlt] at HR2
          obtain ⟨vx, vad, hvx, rfl, _, x0, x1, x2, x3, x4⟩ := (hvs.1.keep hSr).get (show j < vs.length by rw [He4.out]; exact hlt)
          have hvxl : vx.l.length ≤ 9223372036854775807 := by
            have hin := hvs.2 vx (mem_of_get? hvx)
            obtain ⟨va, vl⟩ := vx
            have := hin.parts.2.2.2.2.1
            exact Nat.le_trans this.1 this.2.1
          have hze' := ezero_any vx.a.k vx.a.n vx.a.sc vx.a.s vx.a.A vx.l.length vx.a.cap wr hvxl
          obtain ⟨Z, hZ⟩ : ∃ Z, zeroB vx.a.k vx.a.n vx.a.sc vx.a.s vx.l.length = Z := ⟨_, rfl⟩
          rw [hZ] at hze'
          have hze := Lib.hid hze'
          have hok : okAt V j = (if (bits BinOp.and IntKind.u64 (nx / 2 ^ (j % 64)) 1 == 1) = true then Z else !(vx.a.k == 0)) := by
            rw [← HV.out]
            show okI (nullB ns j) (kindS k) (vs.getD j zeroV) _ _ = _
            rw [hkK]
            unfold okI
            rw [if_neg (by decide), if_pos rfl, hnu, getD_of hvx, hZ]
          rw [hok] at HR2
          clear hok hnu hvx hnx hns hss hnb hsb his hib hvs ht HRj hZ hvxl hze'
          cases hnull : (bits BinOp.and IntKind.u64 (nx / 2 ^ (j % 64)) 1 == 1)
          · cases he : (vx.a.k == 0)
            · have HR3 : Hid (okFrom V size (size - (j + 1)) = R) := by show _ = R; rw [← HR2, hnull, he]; simp
              clear HR2
              go_wp2_with fail
              refine hze.out.mono ?_
              rintro e w9 ⟨rfl, hb9⟩
              have hb90 : Below W0.heap.size W0 w9 := hbr.trans (hb9.mono hbr.size)
              have hbw9 : Below w.heap.size w w9 := hbwr.trans (hb9.mono hbwr.size)
              have y0 := (hb9.cell (cell_lt x0)).trans x0
              clear p0 p1 p2 p3 p4 p5 p6
              obtain ⟨p0, p1, p2, p3, p4, p5, p6⟩ := hk.out w9 hb90
              go_wp2
              go_roundw
              case rel => exact ⟨j + 1, by omega, by go_num, hb90, HR3⟩
              case measure => simp [intOf]; omega
            · have HR3 : Hid (false = R) := by show false = R; rw [← HR2, hnull, he]; simp
              clear HR2
              go_wp2_with fail
              refine hze.out.mono ?_
              rintro e w9 ⟨rfl, hb9⟩
              have hb90 : Below W0.heap.size W0 w9 := hbr.trans (hb9.mono hbr.size)
              have hbw9 : Below w.heap.size w w9 := hbwr.trans (hb9.mono hbwr.size)
              have y0 := (hb9.cell (cell_lt x0)).trans x0
              clear p0 p1 p2 p3 p4 p5 p6
              obtain ⟨p0, p1, p2, p3, p4, p5, p6⟩ := hk.out w9 hb90
              go_wp2
              go_ret
              exact ⟨by rw [← HR3.out]; rfl, hbw9⟩
          · cases Z
            · have HR3 : Hid (false = R) := by show false = R; rw [← HR2, hnull]; simp
              clear HR2
              go_wp2_with fail
              refine hze.out.mono ?_
              rintro e w9 ⟨rfl, hb9⟩
              have hb90 : Below W0.heap.size W0 w9 := hbr.trans (hb9.mono hbr.size)
              have hbw9 : Below w.heap.size w w9 := hbwr.trans (hb9.mono hbwr.size)
              have y0 := (hb9.cell (cell_lt x0)).trans x0
              clear p0 p1 p2 p3 p4 p5 p6
              obtain ⟨p0, p1, p2, p3, p4, p5, p6⟩ := hk.out w9 hb90
              go_wp2
              go_ret
              exact ⟨by rw [← HR3.out]; rfl, hbw9⟩
            · have HR3 : Hid (okFrom V size (size - (j + 1)) = R) := by show _ = R; rw [← HR2, hnull]; simp
              clear HR2
              go_wp2_with fail
              refine hze.out.mono ?_
              rintro e w9 ⟨rfl, hb9⟩
              have hb90 : Below W0.heap.size W0 w9 := hbr.trans (hb9.mono hbr.size)
              have hbw9 : Below w.heap.size w w9 := hbwr.trans (hb9.mono hbwr.size)
              have y0 := (hb9.cell (cell_lt x0)).trans x0
              clear p0 p1 p2 p3 p4 p5 p6
              obtain ⟨p0, p1, p2, p3, p4, p5, p6⟩ := hk.out w9 hb90
              go_wp2
              go_roundw
              case rel => exact ⟨j + 1, by omega, by go_num, hb90, HR3⟩
              case measure => simp [intOf]; omega
        · have HR3 : Hid (true = R) := by
            show true = R
            have := HRj.out
            rw [show size - j = 0 by omega] at this
            exact this
          go_wp2
          go_ret
          exact ⟨by rw [← HR3.out]; rfl, hbwr⟩
end Go.Proofs.YtkadahfknccjfaaGreatDoor
