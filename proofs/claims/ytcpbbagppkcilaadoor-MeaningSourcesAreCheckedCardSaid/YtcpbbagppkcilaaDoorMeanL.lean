/-
  The reference of package meaning: tables, checked.
-/
import Derived.Test.YtcpbbagppkcilaaDoorMeanK
namespace Go.Proofs.YtcpbbagppkcilaaDoor
open Go.RowKit
set_option maxRecDepth 100000 in
set_option maxHeartbeats 4000000 in
theorem rCheckSources_any (A : Option Addr) (cap len : Nat) (l : List ST) (B : Nat) (w : World) (hr : ST.Row B w A cap l) (hin : ∀ x, x ∈ l → ST.In B w x) (hT : Tabs B w) (hB : B ≤ w.heap.size) (hlen : Hid (l.length = len)) :
    Calls Tryd.prog 15 #[.slice A len cap] w fun e w' => e = .returned (.int .i64 (sourcesS l)) ∧ Below w.heap.size w w' := by
  have hll : len ≤ 9223372036854775807 := by rw [← hlen.out]; exact Nat.le_trans hr.1 hr.2.1
  have hcl : len ≤ cap := by rw [← hlen.out]; exact hr.1
  have hcm : cap ≤ 9223372036854775807 := hr.2.1
  obtain ⟨R, hR⟩ : ∃ R, sourcesS l = R := ⟨_, rfl⟩
  rw [hR]
  unfold sourcesS at hR
  rw [hlen.out] at hR
  by_cases h40 : 40 < len
  · have HR := Lib.hid (show 7 = R by rw [← hR, if_pos h40])
    clear hR
    go_enter Tryd.func15, Tryd.ntmps15
    go_wp2
    go_ret
    exact ⟨by rw [← HR.out]; rfl, Below.refl _ _⟩
  have HR := Lib.hid (show srcsFrom (l.take 0) (l.drop 0) = R by rw [← hR, if_neg h40]; rfl)
  clear hR
  go_enter Tryd.func15, Tryd.ntmps15
  go_wp2
  go_loopw [13] (fun i wr => ∃ j : Nat, j ≤ len ∧ i = .int .i64 j ∧ Below w.heap.size w wr ∧ Hid (srcsFrom (l.take j) (l.drop j) = R)) (fun i _ => len - (intOf i).toNat)
  case atStart => exact ⟨0, Nat.zero_le _, rfl, Below.refl _ _, HR⟩
  case round =>
    obtain ⟨j, hj, rfl, hbr, HRj⟩ := hrel
    by_cases hlt : j < len
    · have hSr := Same.mono (Same.of_below hbr) hB
      obtain ⟨x, ad, hx, rfl, hb, d0, d1, d2⟩ := (hr.keep hSr).get (show j < l.length by rw [hlen.out]; exact hlt)
      have hzr := hbr.size
      obtain ⟨o1, ho1⟩ : ∃ o1, Obj.cells #[.string x.nm, .slice x.TA x.ts.length x.tcap, .slice x.RA x.rs.length x.rcap] 44 = o1 := ⟨_, rfl⟩
      obtain ⟨W1, hW1⟩ : ∃ W1, wr.alloc o1 = W1 := ⟨_, rfl⟩
      have hbW1 : Below w.heap.size w W1 := by rw [← hW1]; exact hbr.alloc hzr _
      have hS1 : Same B w W1 := Same.mono (Same.of_below hbW1) hB
      have hzW : wr.heap.size < W1.heap.size := by rw [← hW1]; simp
      have g0 : W1.cell? ⟨wr.heap.size, 0, none⟩ = some (.string x.nm) := by rw [← hW1, ← ho1, cell_new]; rfl
      have hic := Lib.hid (rCheckSource_any x B W1 ((hin x (mem_of_get? hx)).keep hS1) (hT.keep hS1) (by omega))
      have HR2 := HRj.out
      rw [drop_of_get? hx, srcsFrom_cons, ← take_of_get? hx] at HR2
      have HW1 := Lib.hid hW1
      have Ho1 := Lib.hid ho1
      clear hW1 ho1 HRj
      by_cases h0 : sourceS x = 0
      · have H0 := Lib.hid h0
        rw [h0, if_neg (by simp)] at HR2
        clear h0
        have HR3 := Lib.hid HR2
        clear HR2
        go_wp2_with fail
        rw [Ho1.out, HW1.out]
        refine hic.out.mono ?_
        rintro e w2 ⟨rfl, hb2⟩
        rw [H0.out]
        have hz2 : W1.heap.size ≤ w2.heap.size := hb2.size
        have hb2' : Below w.heap.size w w2 := hbW1.trans (hb2.mono (by omega))
        have hzw2 := hb2'.size
        have g2 := (hb2.cell (p := ⟨wr.heap.size, 0, none⟩) hzW).trans g0
        have hr2 := hr.keep (Same.mono (Same.of_below hb2') hB)
        obtain ⟨xb, hxb⟩ : ∃ n, wr.heap.size = n := ⟨_, rfl⟩
        rw [hxb] at g2 hzW ⊢
        have hxz : xb < w2.heap.size := by omega
        clear hin hT hic g0 d0 d1 d2 hxb HW1 Ho1
        go_wp2
        obtain ⟨wo, rfl⟩ : ∃ wo : World, wo = wr := ⟨_, rfl⟩
        go_loopw [27] (fun i wr => ∃ q : Nat, q ≤ j ∧ i = .int .i64 q ∧ Below w2.heap.size w2 wr ∧ Hid ((l.take q).any (namedB x.nm) = false)) (fun i _ => j - (intOf i).toNat)
        case atStart => exact ⟨0, Nat.zero_le _, rfl, Below.refl _ _, rfl⟩
        case round =>
          obtain ⟨q, hq, rfl, hbq, HQ⟩ := hrel
          by_cases hqlt : q < j
          · obtain ⟨y, ad2, hy, hade, hyb, e0, e1, e2⟩ := (hr2.keep (Same.mono (Same.of_below hbq) (by omega))).get (show q < l.length by rw [hlen.out]; omega)
            obtain rfl : ad = ad2 := by simpa using hade
            have gq := (hbq.cell (p := ⟨xb, 0, none⟩) hxz).trans g2
            have gq' := fun o => cell_old gq o
            have hxq := cell_lt gq
            simp only [] at hxq
            have hzq := hbq.size
            have ht := any_take_succ x.nm hy
            rw [HQ.out, Bool.false_or] at ht
            have Ht := Lib.hid ht
            clear ht gq HQ hr hr2 hx hy hade
            have hal : Hid (∀ o, Below w2.heap.size w2 (wr.alloc o)) := fun o => hbq.alloc hzq o
            cases hn : namedB x.nm y
            · have hn' : (y.nm.toList == x.nm.toList) = false := hn
              have Ht2 : Hid ((l.take (q + 1)).any (namedB x.nm) = false) := Ht.out.trans hn
              clear hn Ht
              go_wp2
              go_roundw
              case rel => exact ⟨q + 1, by omega, by go_num, hal.out _, Ht2⟩
              case measure => simp [intOf]; omega
            · have hn' : (y.nm.toList == x.nm.toList) = true := hn
              have HR4 : Hid (5 = R) := by
                have h1 : (l.take j).any (namedB x.nm) = true := by
                  have h2 := Ht.out.trans hn
                  have : l.take (q + 1) = (l.take j).take (q + 1) := by rw [List.take_take, Nat.min_eq_left (by omega)]
                  rw [this] at h2
                  exact any_of_take h2
                have := HR3.out
                rw [if_pos h1] at this
                exact this
              clear hn Ht
              go_wp2
              go_ret
              exact ⟨by rw [← HR4.out]; rfl, hb2'.trans ((hal.out _).mono (by omega))⟩
          · obtain rfl : q = j := by omega
            have HR4 := Lib.hid (show srcsFrom (l.take (q + 1)) (l.drop (q + 1)) = R by rw [← HR3.out, if_neg (by rw [HQ.out]; simp)])
            clear hr hr2 hx HR3 HQ
            go_wp2
            go_roundw
            case rel => exact ⟨q + 1, by omega, by go_num, hb2'.trans (hbq.mono (by omega)), HR4⟩
            case measure => simp [intOf]; omega
      · have n0 : (sourceS x != 0) = true := by simpa using h0
        have HR3 := Lib.hid (show sourceS x = R by rw [← HR2, if_pos h0])
        clear h0 HR2 hr hin hT hx
        go_wp2_with fail
        rw [Ho1.out, HW1.out]
        refine hic.out.mono ?_
        rintro e w2 ⟨rfl, hb2⟩
        go_wp2
        go_ret
        exact ⟨by rw [← HR3.out]; rfl, hbW1.trans (hb2.mono (by omega))⟩
    · have HR3 : Hid (0 = R) := by have := HRj.out; rw [show l.drop j = [] from List.drop_eq_nil_of_le (by rw [hlen.out]; omega)] at this; exact this
      go_wp2
      go_ret
      exact ⟨by rw [← HR3.out]; rfl, hbr⟩
end Go.Proofs.YtcpbbagppkcilaaDoor
