/-
  A batch copied, by package engine.
-/
import Derived.Test.YtkadahfknccjfaaGreatDoorQShelf
import Derived.Test.YtkadahfknccjfaaGreatDoorQStill
import Derived.Test.YtkadahfknccjfaaGreatDoorQCloneA
import Derived.Test.YtkadahfknccjfaaGreatDoorQBatG0
import Derived.Deep.RegionLaw
import Derived.Deep.DeepCutAuto
namespace Go.Proofs.YtkadahfknccjfaaGreatDoor
open Go.RowKit
theorem add_off (q : Addr) (i : Nat) (h : 0 < i) : q.add i = ⟨q.block, q.off + i, none⟩ := by unfold Addr.add; split <;> simp_all
set_option maxRecDepth 100000 in
set_option maxHeartbeats 16000000 in
theorem ecopyBatch_any (CA : Option Addr) (ccap n len : Nat) (cs : List VecT) (B : Nat) (w : World) (hrow : GRow VecT.c 7 B w CA ccap cs) (hin : ∀ v, v ∈ cs → VecT.In B w v) (hB : B ≤ w.heap.size) (hlen : Hid (cs.length = len)) (h120 : len ≤ 120)
    (hsml : ∀ v, v ∈ cs → FT.Sml v.t ∧ (∀ x, x ∈ v.vs → VT.Sml x) ∧ v.ns.length ≤ 1024 ∧ v.is.length ≤ 1024 ∧ v.ss.length ≤ 1024 ∧ v.vs.length ≤ 1024) :
    Calls Tryz.prog 12 #[.agg #[.int .i64 n, .slice CA len ccap, .bool true, .slice none 0 0]] w (CbPost n cs w) := by
  obtain ⟨iv, hiv, ivz, ivs, ivb⟩ := info_parts infoValue
  obtain ⟨ic, hic, icz, ics, icb⟩ := info_parts infoVector
  obtain ⟨W0, hW0⟩ : ∃ W0, (w.alloc (.cells #[.int .i64 n, .slice CA len ccap, .bool true, .slice none 0 0] 32)).alloc (.cells #[.int .i64 0, .slice none 0 0, .bool false, .slice none 0 0] 32) = W0 := ⟨_, rfl⟩
  have hbw : Below w.heap.size w W0 := by rw [← hW0]; exact bel2 _ _ _
  have hz0 : W0.heap.size = w.heap.size + 2 := by rw [← hW0]; simp
  have P0 : W0.heap[w.heap.size]? = some (.cells #[.int .i64 n, .slice CA len ccap, .bool true, .slice none 0 0] 32 (0, 0)) := by rw [← hW0, Below.heap_alloc _ _ _ (by simp)]; exact heap_alloc_new w _
  have P1 : W0.heap[w.heap.size + 1]? = some (.cells #[.int .i64 0, .slice none 0 0, .bool false, .slice none 0 0] 32 (0, 0)) := by rw [← hW0]; exact blk_new _ _ _ (by simp)
  have p1 := cell_of_row W0 w.heap.size 1 _ _ _ P0
  simp at p1
  have HW0 := Lib.hid hW0
  have Hbw := Lib.hid hbw
  have Hz0 := Lib.hid hz0
  have HP0 := Lib.hid P0
  have HP1 := Lib.hid P1
  have Hrow := Lib.hid hrow
  have Hin := Lib.hid hin
  have Hsml := Lib.hid hsml
  clear hW0 hbw hz0 P0 P1 hrow hin hsml
  go_enter Tryz.func12, Tryz.ntmps12
  go_upto_region 2 with (fail)
  rw [HW0.out]
  go_wp2
  go_loopw [3, 12] (fun ov i wr => CbRel cs W0 ov i wr) (fun _ i _ => len - (intOf i).toNat)
  case atStart => exact CbRel.start
  case round =>
    clear p1
    obtain ⟨wo, rfl⟩ : ∃ wo : World, wo = wr := ⟨_, rfl⟩
    obtain ⟨j, cs', hj, rfl, hcl, hown, hpf, hmd, hsm⟩ := hrel
    rw [hlen.out] at hj
    have hzo := hpf.size
    have hb0o : Below W0.heap.size W0 wo := hpf.toBelow (Nat.le_refl _) (fun k e => e.elim)
    have hbo : Below w.heap.size w wo := Hbw.out.trans (hb0o.mono (by have := Hz0.out; omega))
    have hSo : Same B w wo := Same.mono (Same.of_below hbo) hB
    by_cases hlt : j < len
    · obtain ⟨v, ad, hx, rfl, hab, hat⟩ := (Hrow.out.keep hSo).get (show j < cs.length by rw [hlen.out]; exact hlt)
      have hvin := Hin.out v (mem_of_get? hx)
      obtain ⟨st, sv, sn, si, ss, sl⟩ := Hsml.out v (mem_of_get? hx)
      have d0 : wo.cell? (ad.add (j * 7)) = some (.int .i64 v.t.a.k) := hat 0 _ rfl
      have d1 : wo.cell? ⟨(ad.add (j * 7)).block, (ad.add (j * 7)).off + 1, none⟩ = some (.int .i64 v.t.a.sc) := by rw [← add_off _ 1 (by decide)]; exact hat 1 _ rfl
      have d2 : wo.cell? ⟨(ad.add (j * 7)).block, (ad.add (j * 7)).off + 2, none⟩ = some (.slice v.t.a.A v.t.l.length v.t.a.cap) := by rw [← add_off _ 2 (by decide)]; exact hat 2 _ rfl
      have d3 : wo.cell? ⟨(ad.add (j * 7)).block, (ad.add (j * 7)).off + 3, none⟩ = some (.slice v.NA v.ns.length v.ncap) := by rw [← add_off _ 3 (by decide)]; exact hat 3 _ rfl
      have d4 : wo.cell? ⟨(ad.add (j * 7)).block, (ad.add (j * 7)).off + 4, none⟩ = some (.slice v.IA v.is.length v.icap) := by rw [← add_off _ 4 (by decide)]; exact hat 4 _ rfl
      have d5 : wo.cell? ⟨(ad.add (j * 7)).block, (ad.add (j * 7)).off + 5, none⟩ = some (.slice v.SA v.ss.length v.scap) := by rw [← add_off _ 5 (by decide)]; exact hat 5 _ rfl
      have d6 : wo.cell? ⟨(ad.add (j * 7)).block, (ad.add (j * 7)).off + 6, none⟩ = some (.slice v.VA v.vs.length v.vcap) := by rw [← add_off _ 6 (by decide)]; exact hat 6 _ rfl
      obtain ⟨W1, hW1⟩ : ∃ W1, wo.alloc (.cells #[.int .i64 v.t.a.k, .int .i64 v.t.a.sc, .slice v.t.a.A v.t.l.length v.t.a.cap, .slice v.NA v.ns.length v.ncap, .slice v.IA v.is.length v.icap, .slice v.SA v.ss.length v.scap, .slice v.VA v.vs.length v.vcap] 54) = W1 := ⟨_, rfl⟩
      have hb1 : Below wo.heap.size wo W1 := by rw [← hW1]; exact bel1 _ _
      have hw1 : wo.heap.size < W1.heap.size := by rw [← hW1]; simp
      have Q1 : W1.heap[wo.heap.size]? = some (.cells #[.int .i64 v.t.a.k, .int .i64 v.t.a.sc, .slice v.t.a.A v.t.l.length v.t.a.cap, .slice v.NA v.ns.length v.ncap, .slice v.IA v.is.length v.icap, .slice v.SA v.ss.length v.scap, .slice v.VA v.vs.length v.vcap] 54 (0, 0)) := by rw [← hW1]; exact heap_alloc_new wo _
      have hSW : ∀ W, Below wo.heap.size wo W → Same B w W := fun W h => hSo.trans (Same.mono (Same.of_below h) (by have := hbo.size; omega))
      have hct := Lib.hid (ecopyType_any v.t B W1 (hvin.t.keep (hSW W1 hb1)) (by have := hbo.size; omega) st)
      have q0 := cell_of_row W1 wo.heap.size 0 _ _ _ Q1
      have q1 := cell_of_row W1 wo.heap.size 1 _ _ _ Q1
      have q2 := cell_of_row W1 wo.heap.size 2 _ _ _ Q1
      simp at q0 q1 q2
      have HW1 := Lib.hid hW1
      have HQ1 := Lib.hid Q1
      have Hhw1 := Lib.hid hw1
      have Hx := Lib.hid hx
      have Hown := Lib.hid hown
      have Hpf := Lib.hid hpf
      have Hmd := Lib.hid hmd
      have Hsm := Lib.hid hsm
      have Hcl := Lib.hid hcl
      have HSW := Lib.hid hSW
      have Hvin := Lib.hid hvin
      have Hsv := Lib.hid sv
      clear hW1 Q1 hw1 hx hown hpf hmd hsm hcl hSW hat hvin sv st hSo
      go_upto_region 5 with (fail)
      rw [HW1.out]
      clear d0 d1 d2 d3 d4 d5 d6
      go_wp2_with fail
      refine hct.out.mono ?_
      rintro e w2 ⟨u, rfl, hb2, huin, husm, _⟩
      have hb02 : Below wo.heap.size wo w2 := hb1.trans (hb2.mono hb1.size)
      have Q2 := (hb2.block wo.heap.size Hhw1.out).trans HQ1.out
      have f2 : ∀ i, w2.frozen? ⟨wo.heap.size, i, none⟩ = false := fun i => by simp [World.frozen?, Q2]
      have e0 := cell_of_row w2 wo.heap.size 0 _ _ _ Q2
      have e1 := cell_of_row w2 wo.heap.size 1 _ _ _ Q2
      have e2 := cell_of_row w2 wo.heap.size 2 _ _ _ Q2
      simp at e0 e1 e2
      have HQ2 := Lib.hid Q2
      clear q0 q1 q2 hct Q2
      go_upto_region 6 with (fail)
      generalize hW3 : World.setCell _ _ _ = W3
      have Q3 : W3.heap[wo.heap.size]? = some (.cells #[.int .i64 u.a.k, .int .i64 u.a.sc, .slice u.a.A u.l.length u.a.cap, .slice v.NA v.ns.length v.ncap, .slice v.IA v.is.length v.icap, .slice v.SA v.ss.length v.scap, .slice v.VA v.vs.length v.vcap] 54 (0, 0)) := by
        rw [← hW3, setCell_row _ _ _ _ _ _ _ (setCell_row _ _ _ _ _ _ _ (setCell_row _ _ _ _ _ _ _ HQ2.out))]
        simp
      have hb3 : Below wo.heap.size wo W3 := by rw [← hW3]; exact ((hb02.setCell (by simp) _).setCell (by simp) _).setCell (by simp) _
      have hz3 : w2.heap.size ≤ W3.heap.size := by rw [← hW3]; simp [World.setCell]
      have hk3 : ∀ q, q ≠ wo.heap.size → W3.heap[q]? = w2.heap[q]? := fun q hq => by
        rw [← hW3]
        iterate 3 rw [Deep.blk_setCell_other _ _ _ _ (by simpa using hq)]
      clear hW3 e0 e1 e2 f2
      have hvb : wo.heap.size < W3.heap.size := (Array.getElem?_eq_some_iff.1 Q3).1
      have hk : Hid (∀ W, Below W3.heap.size W3 W → W.cell? ⟨wo.heap.size, 3, none⟩ = some (.slice v.NA v.ns.length v.ncap) ∧ W.cell? ⟨wo.heap.size, 4, none⟩ = some (.slice v.IA v.is.length v.icap) ∧ W.cell? ⟨wo.heap.size, 5, none⟩ = some (.slice v.SA v.ss.length v.scap) ∧ ∀ i, W.frozen? ⟨wo.heap.size, i, none⟩ = false) := fun W h => by
        have Q := (h.block wo.heap.size hvb).trans Q3
        exact ⟨cell_of_row W _ 3 _ _ _ Q, cell_of_row W _ 4 _ _ _ Q, cell_of_row W _ 5 _ _ _ Q, fun i => by simp [World.frozen?, Q]⟩
      have hSW3 : ∀ W, Below W3.heap.size W3 W → Same B w W := fun W h => HSW.out W (hb3.trans (h.mono hb3.size))
      have hU : Hid (∀ W, Below W3.heap.size W3 W → Calls Tryz.prog 30 #[.slice v.NA v.ns.length v.ncap] W fun e w' => ∃ (NA : Option Addr) (nc : Nat), e = .returned (.slice NA v.ns.length nc) ∧ Below W3.heap.size W3 w' ∧ Below W.heap.size W w' ∧ W3.heap.size ≤ W.heap.size ∧ w'.ownsRow W.heap.size 66 1 (.slice NA v.ns.length nc) v.ns.length (v.ns.map (Value.int .u64)) ∧ (v.ns.length ≤ nc ∧ nc ≤ maxLen ∧ (NA = none → v.ns.length = 0 ∧ nc = 0)) ∧ w'.cell? ⟨wo.heap.size, 3, none⟩ = some (.slice v.NA v.ns.length v.ncap) ∧ w'.cell? ⟨wo.heap.size, 4, none⟩ = some (.slice v.IA v.is.length v.icap) ∧ w'.cell? ⟨wo.heap.size, 5, none⟩ = some (.slice v.SA v.ss.length v.scap) ∧ ∀ i, w'.frozen? ⟨wo.heap.size, i, none⟩ = false) := fun W h =>
        (cloneU_any v.NA v.ncap v.ns B W (Hvin.out.ns.keep (hSW3 W h)) (by omega)).mono fun e w' ⟨r, he, hown, hb⟩ => by
          obtain ⟨A, cap, rfl, hrow, hnil⟩ := own_list hown rfl
          obtain ⟨k1, k2, k3, k4⟩ := hk.out w' (h.trans (hb.mono h.size))
          exact ⟨A, cap, he, h.trans (hb.mono h.size), hb, h.size, hown, ⟨hrow.1, hrow.2.1, hnil⟩, k1, k2, k3, k4⟩
      have hI : Hid (∀ W, Below W3.heap.size W3 W → Calls Tryz.prog 32 #[.slice v.IA v.is.length v.icap] W fun e w' => ∃ (NA : Option Addr) (nc : Nat), e = .returned (.slice NA v.is.length nc) ∧ Below W3.heap.size W3 w' ∧ Below W.heap.size W w' ∧ W3.heap.size ≤ W.heap.size ∧ w'.ownsRow W.heap.size 3 1 (.slice NA v.is.length nc) v.is.length (v.is.map (Value.int .i64)) ∧ (v.is.length ≤ nc ∧ nc ≤ maxLen ∧ (NA = none → v.is.length = 0 ∧ nc = 0)) ∧ w'.cell? ⟨wo.heap.size, 3, none⟩ = some (.slice v.NA v.ns.length v.ncap) ∧ w'.cell? ⟨wo.heap.size, 4, none⟩ = some (.slice v.IA v.is.length v.icap) ∧ w'.cell? ⟨wo.heap.size, 5, none⟩ = some (.slice v.SA v.ss.length v.scap) ∧ ∀ i, w'.frozen? ⟨wo.heap.size, i, none⟩ = false) := fun W h =>
        (cloneI_any v.IA v.icap v.is B W (Hvin.out.is.keep (hSW3 W h)) (by omega)).mono fun e w' ⟨r, he, hown, hb⟩ => by
          obtain ⟨A, cap, rfl, hrow, hnil⟩ := own_list hown rfl
          obtain ⟨k1, k2, k3, k4⟩ := hk.out w' (h.trans (hb.mono h.size))
          exact ⟨A, cap, he, h.trans (hb.mono h.size), hb, h.size, hown, ⟨hrow.1, hrow.2.1, hnil⟩, k1, k2, k3, k4⟩
      have hS : Hid (∀ W, Below W3.heap.size W3 W → Calls Tryz.prog 34 #[.slice v.SA v.ss.length v.scap] W fun e w' => ∃ (NA : Option Addr) (nc : Nat), e = .returned (.slice NA v.ss.length nc) ∧ Below W3.heap.size W3 w' ∧ Below W.heap.size W w' ∧ W3.heap.size ≤ W.heap.size ∧ w'.ownsRow W.heap.size 9 1 (.slice NA v.ss.length nc) v.ss.length (v.ss.map Value.string) ∧ (v.ss.length ≤ nc ∧ nc ≤ maxLen ∧ (NA = none → v.ss.length = 0 ∧ nc = 0)) ∧ w'.cell? ⟨wo.heap.size, 3, none⟩ = some (.slice v.NA v.ns.length v.ncap) ∧ w'.cell? ⟨wo.heap.size, 4, none⟩ = some (.slice v.IA v.is.length v.icap) ∧ w'.cell? ⟨wo.heap.size, 5, none⟩ = some (.slice v.SA v.ss.length v.scap) ∧ ∀ i, w'.frozen? ⟨wo.heap.size, i, none⟩ = false) := fun W h =>
        (cloneS_any v.SA v.scap v.ss B W (Hvin.out.ss.keep (hSW3 W h)) (by omega)).mono fun e w' ⟨r, he, hown, hb⟩ => by
          obtain ⟨A, cap, rfl, hrow, hnil⟩ := own_list hown rfl
          obtain ⟨k1, k2, k3, k4⟩ := hk.out w' (h.trans (hb.mono h.size))
          exact ⟨A, cap, he, h.trans (hb.mono h.size), hb, h.size, hown, ⟨hrow.1, hrow.2.1, hnil⟩, k1, k2, k3, k4⟩
      obtain ⟨c3, c4, c5, fz⟩ := hk.out W3 (Below.refl _ _)
      have HQ3 := Lib.hid Q3
      have Hk3 := Lib.hid hk3
      have Hvb := Lib.hid hvb
      clear Q3 hk3 hvb
      go_cut [] (fun wx => CbMid wo.heap.size W3 v u wx)
      case first =>
        go_region_law (first
          | (go_simp; go_at_call 30; (with_reducible refine (hU.out _ ?_).mono ?_); (first | assumption | exact Below.drew (Below.refl _ _) | exact Below.refl _ _); rintro e wU ⟨NA', nc', rfl, hbU, hBU, hzU, hoU, ⟨hU1, hU2, hU3⟩, cU3, cU4, cU5, fU⟩; dsimp only)
          | (go_simp; go_at_call 29; refine (clipU_any _ _ _ _ hU1 hU2 hU3).mono ?_; rintro e wx ⟨rfl, rfl⟩; dsimp only)
          | (go_simp; go_at_call 32; (with_reducible refine (hI.out _ ?_).mono ?_); (first | assumption | exact Below.drew (Below.refl _ _) | exact Below.refl _ _); rintro e wI ⟨IA', ic', rfl, hbI, hBI, hzI, hoI, ⟨hI1, hI2, hI3⟩, cI3, cI4, cI5, fI⟩; dsimp only)
          | (go_simp; go_at_call 31; refine (clipI_any _ _ _ _ hI1 hI2 hI3).mono ?_; rintro e wx ⟨rfl, rfl⟩; dsimp only)
          | (go_simp; go_at_call 34; (with_reducible refine (hS.out _ ?_).mono ?_); (first | assumption | exact Below.drew (Below.refl _ _) | exact Below.refl _ _); rintro e wS ⟨SA', sc', rfl, hbS, hBS, hzS, hoS, ⟨hS1, hS2, hS3⟩, cS3, cS4, cS5, fS⟩; dsimp only)
          | (go_simp; go_at_call 33; refine (clipS_any _ _ _ _ hS1 hS2 hS3).mono ?_; rintro e wx ⟨rfl, rfl⟩; dsimp only))
        all_goals (go_wp2_with fail; go_meet; exact CbMid.mk' Hvb.out HQ3.out hbU hBI hBS hzU hzI hzS hoU hoI hoS)
      case rest =>
        clear c3 c4 c5 fz hU hI hS hk
        obtain ⟨NA', IA', SA', Q5, hpf5, hrows⟩ := hcut
        have z5 := hpf5.size
        have z3 := hb3.size
        have hzo' := hbo.size
        have hb5 : Below wo.heap.size wo wc := ⟨hpf5.os.trans hb3.os, hpf5.tape.trans hb3.tape, hpf5.output.trans hb3.output, by omega, fun q hq => (hpf5.block q (by omega) (by omega) (fun e => by cases e)).trans (hb3.block q hq)⟩
        have g6 := cell_of_row wc wo.heap.size 6 _ _ _ Q5
        simp at g6
        have HQ5 := Lib.hid Q5
        have Hpf5 := Lib.hid hpf5
        have Hrows := Lib.hid hrows
        have Hvbc : Hid (wo.heap.size < wc.heap.size) := (Array.getElem?_eq_some_iff.1 Q5).1
        have Hu := Lib.hid huin
        clear Q5 hpf5 hrows huin
        obtain ⟨nv, hnv⟩ : ∃ m, v.vs.length = m := ⟨_, rfl⟩
        rw [hnv] at sl g6
        have Hnv := Lib.hid hnv
        clear hnv
        go_wp2
        go_loopw [6, 38] (fun sv i wr => CpRel v.vs wc.heap.size wc nv sv i wr) (fun _ i _ => nv - (intOf i).toNat)
        case atStart => exact ⟨0, [], Nat.zero_le _, rfl, rfl, World.ownsRow_nil _ _ _ _, Below.refl _ _, (fun q x y _ h => by simp at h), (fun y h => by simp at h)⟩
        case round =>
          clear g6
          obtain ⟨q, us, hq, rfl, hu, hown2, hbr, hsm2, hinu⟩ := hrel
          have hzr := hbr.size
          have hbr0 : Below wo.heap.size wo wr := hb5.trans (hbr.mono hb5.size)
          have hSr : Same B w wr := HSW.out wr hbr0
          by_cases hqlt : q < nv
          · obtain ⟨x, yad, hx, hyA, hxb, e0, e1, e2, e3, e4⟩ := (Hvin.out.vs.1.keep hSr).get (show q < v.vs.length by rw [Hnv.out]; exact hqlt)
            have hxin := Hvin.out.vs.2 x (mem_of_get? hx)
            have hxs := Hsv.out x (mem_of_get? hx)
            obtain ⟨W4, hW4⟩ : ∃ W4, wr.alloc (.cells #[.int .i64 x.a.k, .int .i64 x.a.n, .int .i64 x.a.sc, .string x.a.s, .slice x.a.A x.l.length x.a.cap] 61) = W4 := ⟨_, rfl⟩
            have hb4 : Below wr.heap.size wr W4 := by rw [← hW4]; exact bel1 _ _
            have hcp := Lib.hid (vCopy_any x B W4 (hxin.keep (HSW.out W4 (hbr0.trans (hb4.mono (by omega))))) (by have := hb4.size; omega) hxs)
            have h3 : Hid (q + 1 ≤ maxLen) := by show _ ≤ _; unfold maxLen; omega
            have h4 : Hid ((q + 1) * 64 ≤ 140737488355328) := by show _ ≤ _; omega
            have HW4 := Lib.hid hW4
            have Hhx := Lib.hid hx
            have Hown2 := Lib.hid hown2
            have Hsm2 := Lib.hid hsm2
            have Hinu := Lib.hid hinu
            have Hhu := Lib.hid hu
            rw [hyA] at *
            clear hW4 hx hown2 hsm2 hinu hu hxin hxs hyA
            go_wp2_with fail
            rw [HW4.out]
            refine hcp.out.mono ?_
            rintro e w5 ⟨y, rfl, hb5', hyin, hxy⟩
            have hbr5 : Below wr.heap.size wr w5 := hb4.trans (hb5'.mono hb4.size)
            have hz55 := hbr5.size
            have hownY := own_below Hown2.out hbr5
            have h5 : Hid (∀ o, wc.heap.size ≤ (w5.alloc o).heap.size) := fun o => by simp; omega
            clear hcp
            go_wp2_with (at_builtin; refine wpList_append_own2 _ rfl _ _ 42 rfl wc.heap.size 61 iv _ 5 64 Tryz.underlying42 hiv ivz ivs ivb rfl (by decide) _ q (us.flatMap vCells) rfl (hownY.alloc _) ⟨w5.heap.size, 0, none⟩ 1 1 (vCells y) rfl (by decide) rfl (fun q u' h => new_cells _ _ _ q u' h) (vCells_one y) h3.out h4.out (h5.out _) ?_; intro sv' w6 hown6 hg6 hm6)
            have HST := Lib.hid (CpRel.step rfl Hhx.out hqlt Hhu.out Hown2.out hbr Hsm2.out Hinu.out hbr5 W4.heap.size hb4.size hyin hxy _ hown6 hg6 hm6)
            clear hown6 hg6 hm6 hownY
            go_wp2
            go_roundw
            case rel => exact HST.out
            case measure => simp [intOf]; omega
          · obtain rfl : q = nv := by omega
            obtain ⟨A', cap', rfl, ha, hb', hc', _⟩ := own_values hown2 hu
            have clip := Lib.hid (clipV_any A' q cap' wr ha hb' hc')
            have Q6 := (hbr.block wo.heap.size Hvbc.out).trans HQ5.out
            have fz : ∀ i, wr.frozen? ⟨wo.heap.size, i, none⟩ = false := fun i => by simp [World.frozen?, Q6]
            have g6 := cell_of_row wr wo.heap.size 6 _ _ _ Q6
            simp at g6
            have HQ6 := Lib.hid Q6
            have Hown2 := Lib.hid hown2
            have Hsm2 := Lib.hid hsm2
            have Hinu := Lib.hid hinu
            have Hhu := Lib.hid hu
            have Hbr := Lib.hid hbr
            have Hbr0 := Lib.hid hbr0
            clear Q6 hown2 hsm2 hinu hu ha hb' hc' hbr hbr0 hSr
            go_upto_region 14 with (first | (go_at_call 36; refine clip.out.mono ?_; rintro e w' ⟨rfl, rfl⟩))
            generalize hW6 : World.setCell _ _ _ = W6
            have Q7 : W6.heap[wo.heap.size]? = some (.cells #[.int .i64 u.a.k, .int .i64 u.a.sc, .slice u.a.A u.l.length u.a.cap, .slice NA' v.ns.length v.ns.length, .slice IA' v.is.length v.is.length, .slice SA' v.ss.length v.ss.length, .slice A' q q] 54 (0, 0)) := by
              rw [← hW6, setCell_row _ _ _ _ _ _ _ HQ6.out]
              simp
            have h6 : ∀ k, k ≠ wo.heap.size → W6.heap[k]? = wr.heap[k]? := fun k hk => by
              rw [← hW6, Deep.blk_setCell_other _ _ _ _ (by simpa using hk)]
            have hz6 : wr.heap.size ≤ W6.heap.size := by rw [← hW6]; simp [World.setCell]
            have hb6 : Below wo.heap.size wo W6 := by rw [← hW6]; exact Hbr0.out.setCell (by simp) _
            have g0 := cell_of_row W6 wo.heap.size 0 _ _ _ Q7
            have g1 := cell_of_row W6 wo.heap.size 1 _ _ _ Q7
            have g2 := cell_of_row W6 wo.heap.size 2 _ _ _ Q7
            have g3 := cell_of_row W6 wo.heap.size 3 _ _ _ Q7
            have g4 := cell_of_row W6 wo.heap.size 4 _ _ _ Q7
            have g5 := cell_of_row W6 wo.heap.size 5 _ _ _ Q7
            have g7 := cell_of_row W6 wo.heap.size 6 _ _ _ Q7
            simp at g0 g1 g2 g3 g4 g5 g7
            have Hmod := Lib.hid (cb_vec Hvin.out Hvb.out Hu.out Hhw1.out hz3 Hk3.out Hpf5.out Hrows.out Hbr.out Hown2.out Hhu.out Hinu.out h6 hz6)
            have Hvv : Hid (VecT.Sm v ⟨u, NA', v.ns.length, v.ns, IA', v.is.length, v.is, SA', v.ss.length, v.ss, A', q, us⟩) := ⟨husm, rfl, rfl, rfl, ⟨Hnv.out.trans Hhu.out.symm, Hsm2.out⟩⟩
            have Hc : Hid (VecT.c ⟨u, NA', v.ns.length, v.ns, IA', v.is.length, v.is, SA', v.ss.length, v.ss, A', q, us⟩ = [.int .i64 u.a.k, .int .i64 u.a.sc, .slice u.a.A u.l.length u.a.cap, .slice NA' v.ns.length v.ns.length, .slice IA' v.is.length v.is.length, .slice SA' v.ss.length v.ss.length, .slice A' q q]) := by
              show _ = _
              unfold VecT.c
              rw [Hhu.out]
            have hone : Hid (∀ u', u' ∈ [Value.int .i64 u.a.k, .int .i64 u.a.sc, .slice u.a.A u.l.length u.a.cap, .slice NA' v.ns.length v.ns.length, .slice IA' v.is.length v.is.length, .slice SA' v.ss.length v.ss.length, .slice A' q q] → u'.oneCell' = true) := by
              have := VecT.c_one ⟨u, NA', v.ns.length, v.ns, IA', v.is.length, v.is, SA', v.ss.length, v.ss, A', q, us⟩
              rw [Hc.out] at this
              exact this
            have hownY := own_below Hown.out hb6
            have hz6o := hb6.size
            have h3 : Hid (j + 1 ≤ maxLen) := by show _ ≤ _; unfold maxLen; omega
            have h4 : Hid ((j + 1) * 136 ≤ 140737488355328) := by show _ ≤ _; omega
            have h5 : Hid (∀ o, W0.heap.size ≤ (W6.alloc o).heap.size) := fun o => by simp; omega
            clear hW6 Q7 h6 fz g6 husm
            go_wp2_with (at_builtin; refine wpList_append_own2 _ rfl _ _ 29 rfl W0.heap.size 54 ic _ 7 136 Tryz.underlying29 hic icz ics icb rfl (by decide) _ j (cs'.flatMap VecT.c) rfl (hownY.alloc _) ⟨W6.heap.size, 0, none⟩ 1 1 [.int .i64 u.a.k, .int .i64 u.a.sc, .slice u.a.A u.l.length u.a.cap, .slice NA' v.ns.length v.ns.length, .slice IA' v.is.length v.is.length, .slice SA' v.ss.length v.ss.length, .slice A' q q] rfl (by decide) rfl (fun q u' h => new_cells _ _ _ q u' h) hone.out h3.out h4.out (h5.out _) ?_; intro ov' w8 hown8 hg8 hm8)
            have HST := Lib.hid (CbRel.step _ (by rw [hlen.out]; exact hlt) Hcl.out Hown.out Hpf.out Hmd.out Hsm.out hb6 Hmod.out Hx.out Hvv.out (by rw [Hc.out]; exact hown8) hg8 hm8)
            clear hown8 hg8 hm8 hownY
            go_wp2
            go_roundw
            case rel => exact HST.out
            case measure => simp [intOf]; omega
    · obtain rfl : j = len := by omega
      obtain ⟨A, cap, rfl, hgr, hnil⟩ := own_grow hown hcl (fun _ _ => rfl)
      have hca : j ≤ cap := by have := hgr.1; omega
      have hcm := hgr.2.1
      have HcV := Lib.hid (fun W => clipVec_any A j cap W hca hcm hnil)
      have HcI := Lib.hid (fun W => clipI_any none 0 0 W (Nat.le_refl _) (Nat.zero_le _) (fun _ => ⟨rfl, rfl⟩))
      have R0 := (hb0o.block w.heap.size (by have := Hz0.out; omega)).trans HP0.out
      have R1 := (hb0o.block (w.heap.size + 1) (by have := Hz0.out; omega)).trans HP1.out
      have b1 := cell_of_row wo w.heap.size 1 _ _ _ R0
      have b3 := cell_of_row wo w.heap.size 3 _ _ _ R0
      simp at b1 b3
      have fz : ∀ i, wo.frozen? ⟨w.heap.size, i, none⟩ = false := fun i => by simp [World.frozen?, R0]
      have HR0 := Lib.hid R0
      have HR1 := Lib.hid R1
      have Hown := Lib.hid hown
      have Hpf := Lib.hid hpf
      have Hmd := Lib.hid hmd
      have Hsm := Lib.hid hsm
      have Hcl := Lib.hid hcl
      clear R0 R1 hown hpf hmd hsm hcl hgr hnil hca hcm
      go_upto_region 16 with (fail)
      go_cut [] (fun wx => wx = ((wo.setCell ⟨w.heap.size, 1, none⟩ (.slice A j j)).setCell ⟨w.heap.size, 3, none⟩ (.slice none 0 0)).drew)
      case first =>
        go_region_law (first
          | (go_simp; go_at_call 37; refine (HcV.out _).mono ?_; rintro e wx ⟨rfl, rfl⟩; dsimp only)
          | (go_simp; go_at_call 32; refine (Tryz.slices_Clone_int_nil _ _ _).mono ?_; rintro e wx ⟨rfl, rfl⟩; dsimp only)
          | (go_simp; go_at_call 31; refine (HcI.out _).mono ?_; rintro e wx ⟨rfl, rfl⟩; dsimp only))
        all_goals (go_wp2_with fail; go_meet; exact rfl)
      case rest =>
        obtain ⟨W5, hW5⟩ : ∃ W5, ((wo.setCell ⟨w.heap.size, 1, none⟩ (.slice A j j)).setCell ⟨w.heap.size, 3, none⟩ (.slice none 0 0)).drew = W5 := ⟨_, rfl⟩
        rw [hW5] at hcut
        subst hcut
        have Q0 : wc.heap[w.heap.size]? = some (.cells #[.int .i64 n, .slice A j j, .bool true, .slice none 0 0] 32 (0, 0)) := by
          rw [← hW5]
          show (World.setCell _ _ _).heap[w.heap.size]? = _
          rw [setCell_row _ _ _ _ _ _ _ (setCell_row _ _ _ _ _ _ _ HR0.out)]
          simp
        have Q1 : wc.heap[w.heap.size + 1]? = some (.cells #[.int .i64 0, .slice none 0 0, .bool false, .slice none 0 0] 32 (0, 0)) := by
          rw [← hW5]
          show (World.setCell _ _ _).heap[w.heap.size + 1]? = _
          iterate 2 rw [Deep.blk_setCell_other _ _ _ _ (by simp)]
          exact HR1.out
        have hb5 : Below w.heap.size wo wc := by
          rw [← hW5]
          exact (((Below.refl _ _).setCell (by simp) _).setCell (by simp) _).drew
        have ho5 : ∀ q, W0.heap.size ≤ q → wc.heap[q]? = wo.heap[q]? := fun q hq => by
          rw [← hW5]
          show (World.setCell _ _ _).heap[q]? = _
          iterate 2 rw [Deep.blk_setCell_other _ _ _ _ (by have := Hz0.out; simp; omega)]
        clear b1 b3 fz hW5
        have b0 := cell_of_row wc w.heap.size 0 _ _ _ Q0
        have b1 := cell_of_row wc w.heap.size 1 _ _ _ Q0
        have b2 := cell_of_row wc w.heap.size 2 _ _ _ Q0
        have b3 := cell_of_row wc w.heap.size 3 _ _ _ Q0
        have r0 := cell_of_row wc (w.heap.size + 1) 0 _ _ _ Q1
        have r1 := cell_of_row wc (w.heap.size + 1) 1 _ _ _ Q1
        have r2 := cell_of_row wc (w.heap.size + 1) 2 _ _ _ Q1
        have r3 := cell_of_row wc (w.heap.size + 1) 3 _ _ _ Q1
        have fz : ∀ i, wc.frozen? ⟨w.heap.size + 1, i, none⟩ = false := fun i => by simp [World.frozen?, Q1]
        simp at b0 b1 b2 b3 r0 r1 r2 r3
        have Ho5 := Lib.hid ho5
        clear Q0 Q1 ho5
        go_wp2
        refine bodyPost_ret (v := .agg #[.int .i64 n, .slice A j j, .bool true, .slice none 0 0]) (by simp [results, Tryz.results12, go_sem, *]) rfl ?_
        generalize hWf : World.setCell _ _ _ = Wf
        exact CbRel.fin hlen.out Hcl.out Hz0.out Hbw.out Hown.out Hpf.out Hmd.out Hsm.out (by rw [← hWf]; exact ((((hb5.setCell (by simp) _).setCell (by simp) _).setCell (by simp) _).setCell (by simp) _)) (fun q h1 h2 => by
          rw [← hWf]
          iterate 4 rw [Deep.blk_setCell_other _ _ _ _ (by have := Hz0.out; simp; omega)]
          exact Ho5.out q h1)
end Go.Proofs.YtkadahfknccjfaaGreatDoor
