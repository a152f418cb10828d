/-
  Tables, checked: package meaning and its reference.
-/
import Derived.Test.YtcpbbagppkcilaaDoorMeanJ
namespace Go.Proofs.YtcpbbagppkcilaaDoor
open Go.RowKit
set_option maxRecDepth 100000 in
set_option maxHeartbeats 1000000 in
theorem idxS_any (g : Nat) (lb : Array Value) (eg : ∀ args w, (callFunc g args).run Tryd.prog w = .ok (.enter g args) w) (l : List ST) (A : Option Addr) (cap len B : Nat) (w : World) (hr : ST.Row B w A cap l) (hlen : Hid (l.length = len)) (St : Nat → World → Prop) (Fin : World → Prop)
    (h0 : St 0 w) (hS : Hid (∀ j W, St j W → Same B w W))
    (hstep : Hid (∀ j x W, l[j]? = some x → St j W → Calls Tryd.prog g (#[.agg #[.string x.nm, .slice x.TA x.ts.length x.tcap, .slice x.RA x.rs.length x.rcap]] ++ lb) W (StepPost j St Fin))) :
    Calls Tryd.prog 68 #[.slice A len cap, .func (.func g) #[] lb] w (IdxPost len St Fin) := by
  have hll : len ≤ 9223372036854775807 := by rw [← hlen.out]; exact Nat.le_trans hr.1 hr.2.1
  go_enter Tryd.func68, Tryd.ntmps68
  go_wp2
  go_loopw [8] (fun i wr => ∃ j : Nat, j ≤ len ∧ i = .int .i64 j ∧ St j wr) (fun i _ => len - (intOf i).toNat)
  case atStart => exact ⟨0, Nat.zero_le _, rfl, h0⟩
  case round =>
    obtain ⟨j, hj, rfl, hst⟩ := hrel
    by_cases hlt : j < len
    · obtain ⟨x, ad, hx, rfl, hb, d0, d1, d2⟩ := (hr.keep (hS.out j wr hst)).get (show j < l.length by rw [hlen.out]; exact hlt)
      have cS : Calls Tryd.prog g (#[.agg #[.string x.nm, .slice x.TA x.ts.length x.tcap, .slice x.RA x.rs.length x.rcap]] ++ lb) wr _ := hstep.out j x wr hx hst
      clear hr hstep hS hx hst h0
      go_wp2_with (go_at_fn g; refine cS.mono ?_; rintro e w' (⟨rfl, hf⟩ | ⟨rfl, hst⟩))
      · go_ret
        exact .inl ⟨j, by omega, rfl, hf⟩
      · go_wp2
        go_roundw
        case rel => exact ⟨j + 1, by omega, by go_num, hst⟩
        case measure => simp [intOf]; omega
    · obtain rfl : j = len := by omega
      clear hstep hS
      go_wp2
      go_ret
      exact .inr ⟨rfl, hst⟩
set_option maxRecDepth 100000 in
set_option maxHeartbeats 1000000 in
theorem ctS_any (g : Nat) (lb : Array Value) (eg : ∀ args w, (callFunc g args).run Tryd.prog w = .ok (.enter g args) w) (l : List ST) (A : Option Addr) (cap len B : Nat) (w : World) (hr : ST.Row B w A cap l) (hlen : Hid (l.length = len)) (St : Nat → World → Prop) (Fin : World → Prop)
    (h0 : St 0 w) (hS : Hid (∀ j W, St j W → Same B w W))
    (hstep : Hid (∀ j x W, l[j]? = some x → St j W → Calls Tryd.prog g (#[.agg #[.string x.nm, .slice x.TA x.ts.length x.tcap, .slice x.RA x.rs.length x.rcap]] ++ lb) W (StepPost j St Fin))) :
    Calls Tryd.prog 43 #[.slice A len cap, .func (.func g) #[] lb] w (CtPost len St Fin) := by
  have hi := Lib.hid (idxS_any g lb eg l A cap len B w hr hlen St Fin h0 hS hstep)
  clear hr hlen h0 hS hstep eg
  go_enter Tryd.func43, Tryd.ntmps43
  go_wp2_with fail
  refine hi.out.mono ?_
  rintro e w' (⟨i, hi0, rfl, hf⟩ | ⟨rfl, hst⟩)
  · have d : decide ((0 : Int) ≤ i) = true := by simpa using hi0
    go_wp2
    go_ret
    exact .inl ⟨rfl, hf⟩
  · go_wp2
    go_ret
    exact .inr ⟨rfl, hst⟩
def namedB (s : ByteArray) (y : ST) : Bool := y.nm.toList == s.toList
/-- The first error of tables, behind others. -/
def srcsFrom (pre : List ST) : List ST → Int
  | [] => 0
  | x :: r => if sourceS x ≠ 0 then sourceS x else if pre.any (namedB x.nm) = true then 5 else srcsFrom (pre ++ [x]) r
def sourcesS (l : List ST) : Int := if 40 < l.length then 7 else srcsFrom [] l
theorem srcsFrom_cons (pre : List ST) (x : ST) (r : List ST) : srcsFrom pre (x :: r) = if sourceS x ≠ 0 then sourceS x else if pre.any (namedB x.nm) = true then 5 else srcsFrom (pre ++ [x]) r := rfl
theorem take_of_get? {α : Type} {l : List α} {i : Nat} {x : α} (h : l[i]? = some x) : l.take (i + 1) = l.take i ++ [x] := by
  rw [List.take_add_one, h]; rfl
theorem any_take_succ {l : List ST} {i : Nat} {x : ST} (s : ByteArray) (h : l[i]? = some x) : (l.take (i + 1)).any (namedB s) = ((l.take i).any (namedB s) || namedB s x) := by
  rw [take_of_get? h, List.any_append]; simp
theorem any_of_take {l : List ST} {i : Nat} {s : ByteArray} (h : (l.take i).any (namedB s) = true) : l.any (namedB s) = true := by
  rw [List.any_eq_true] at h ⊢
  obtain ⟨x, hx, hn⟩ := h
  exact ⟨x, List.mem_of_mem_take hx, hn⟩
theorem ST.Row.take {B : Nat} {w : World} {A : Option Addr} {cap : Nat} {l : List ST} (h : ST.Row B w A cap l) (j : Nat) : ST.Row B w A cap (l.take j) := by
  refine ⟨?_, h.2.1, fun i x hx => ?_⟩
  · have := h.1; rw [List.length_take]; omega
  · rw [List.getElem?_take] at hx
    split at hx
    · exact h.2.2 i x hx
    · cases hx
set_option maxRecDepth 100000 in
set_option maxHeartbeats 1000000 in
theorem ms1_any (x : ST) (s : ByteArray) (fb : Nat) (w : World) (hc : w.cell? ⟨fb, 0, none⟩ = some (.string s)) :
    Calls Tryd.prog 44 #[.agg #[.string x.nm, .slice x.TA x.ts.length x.tcap, .slice x.RA x.rs.length x.rcap], .pointer (some ⟨fb, 0, none⟩)] w fun e w' => e = .returned (.bool (namedB s x)) ∧ Below w.heap.size w w' := by
  have hc1 := fun o => cell_old hc o
  have hlt := cell_lt hc
  clear hc
  go_enter Tryd.func44, Tryd.ntmps44
  go_wp2
  go_ret
  exact ⟨rfl, bel1 _ _⟩
/-- No table among the first ones is named s. -/
def NsSt (w : World) (l : List ST) (s : ByteArray) (j : Nat) (W : World) : Prop := Below w.heap.size w W ∧ (l.take j).any (namedB s) = false
def NsFin (w : World) (l : List ST) (s : ByteArray) (W : World) : Prop := Below w.heap.size w W ∧ l.any (namedB s) = true
theorem named_ct {B : Nat} {w : World} (A : Option Addr) (cap len fb : Nat) (l : List ST) (s : ByteArray) (hr : ST.Row B w A cap l) (hB : B ≤ w.heap.size) (hlen : Hid (l.length = len)) (hc : w.cell? ⟨fb, 0, none⟩ = some (.string s)) :
    Calls Tryd.prog 43 #[.slice A len cap, .func (.func 44) #[] #[.pointer (some ⟨fb, 0, none⟩)]] w (CtPost len (NsSt w l s) (NsFin w l s)) := by
  refine ctS_any 44 #[.pointer (some ⟨fb, 0, none⟩)] (enters_of Tryd.func44 (by kernel_rfl) rfl) l A cap len B w hr hlen (NsSt w l s) (NsFin w l s) ⟨Below.refl _ _, rfl⟩ (fun j W h => Same.mono (Same.of_below h.1) hB) (fun i x W hx hst => ?_)
  refine (ms1_any x s fb W ((hst.1.cell (p := ⟨fb, 0, none⟩) (cell_lt hc)).trans hc)).mono fun e w' ⟨he, hb⟩ => ?_
  have hb' := hst.1.trans (hb.mono hst.1.size)
  have ht := any_take_succ s hx
  rw [hst.2, Bool.false_or] at ht
  cases hn : namedB s x
  · rw [hn] at he ht
    exact .inr ⟨he, hb', ht⟩
  · rw [hn] at he ht
    exact .inl ⟨he, hb', any_of_take ht⟩
set_option maxRecDepth 100000 in
set_option maxHeartbeats 4000000 in
theorem mCheckSources_any (A : Option Addr) (cap len : Nat) (l : List ST) (B : Nat) (w : World) (hr : ST.Row B w A cap l) (hin : ∀ x, x ∈ l → ST.In B w x) (hT : Tabs B w) (hB : B ≤ w.heap.size) (hlen : Hid (l.length = len)) :
    Calls Tryd.prog 14 #[.slice A len cap] w fun e w' => e = .returned (.int .i64 (sourcesS l)) ∧ Below w.heap.size w w' := by
  have hll : len ≤ 9223372036854775807 := by rw [← hlen.out]; exact Nat.le_trans hr.1 hr.2.1
  have hcl : len ≤ cap := by rw [← hlen.out]; exact hr.1
  have hcm : cap ≤ 9223372036854775807 := hr.2.1
  obtain ⟨R, hR⟩ : ∃ R, sourcesS l = R := ⟨_, rfl⟩
  rw [hR]
  unfold sourcesS at hR
  rw [hlen.out] at hR
  by_cases h40 : 40 < len
  · have HR := Lib.hid (show 7 = R by rw [← hR, if_pos h40])
    clear hR
    go_enter Tryd.func14, Tryd.ntmps14
    go_wp2
    go_ret
    exact ⟨by rw [← HR.out]; rfl, Below.refl _ _⟩
  have HR := Lib.hid (show srcsFrom (l.take 0) (l.drop 0) = R by rw [← hR, if_neg h40]; rfl)
  clear hR
  go_enter Tryd.func14, Tryd.ntmps14
  go_wp2
  go_loopw [11] (fun i wr => ∃ j : Nat, j ≤ len ∧ i = .int .i64 j ∧ Below w.heap.size w wr ∧ Hid (srcsFrom (l.take j) (l.drop j) = R)) (fun i _ => len - (intOf i).toNat)
  case atStart => exact ⟨0, Nat.zero_le _, rfl, Below.refl _ _, HR⟩
  case round =>
    obtain ⟨j, hj, rfl, hbr, HRj⟩ := hrel
    by_cases hlt : j < len
    · have hSr := Same.mono (Same.of_below hbr) hB
      obtain ⟨x, ad, hx, rfl, hb, d0, d1, d2⟩ := (hr.keep hSr).get (show j < l.length by rw [hlen.out]; exact hlt)
      have hzr := hbr.size
      obtain ⟨o1, ho1⟩ : ∃ o1, Obj.cells #[.string x.nm, .slice x.TA x.ts.length x.tcap, .slice x.RA x.rs.length x.rcap] 44 = o1 := ⟨_, rfl⟩
      obtain ⟨W1, hW1⟩ : ∃ W1, wr.alloc o1 = W1 := ⟨_, rfl⟩
      have hbW1 : Below w.heap.size w W1 := by rw [← hW1]; exact hbr.alloc hzr _
      have hS1 : Same B w W1 := Same.mono (Same.of_below hbW1) hB
      have hzW : wr.heap.size < W1.heap.size := by rw [← hW1]; simp
      have g0 : W1.cell? ⟨wr.heap.size, 0, none⟩ = some (.string x.nm) := by rw [← hW1, ← ho1, cell_new]; rfl
      have hic := Lib.hid (mCheckSource_any x B W1 ((hin x (mem_of_get? hx)).keep hS1) (hT.keep hS1) (by omega))
      have HR2 := HRj.out
      rw [drop_of_get? hx, srcsFrom_cons, ← take_of_get? hx] at HR2
      have HW1 := Lib.hid hW1
      have Ho1 := Lib.hid ho1
      clear hW1 ho1 HRj
      by_cases h0 : sourceS x = 0
      · have H0 := Lib.hid h0
        rw [h0, if_neg (by simp)] at HR2
        clear h0
        have HR3 := Lib.hid HR2
        clear HR2
        have hlj : Hid ((l.take j).length = j) := by show _ = _; rw [List.length_take, hlen.out]; omega
        go_wp2_with fail
        rw [Ho1.out, HW1.out]
        refine hic.out.mono ?_
        rintro e w2 ⟨rfl, hb2⟩
        rw [H0.out]
        have hz2 : W1.heap.size ≤ w2.heap.size := hb2.size
        have hb2' : Below w.heap.size w w2 := hbW1.trans (hb2.mono (by omega))
        have g2 := (hb2.cell (p := ⟨wr.heap.size, 0, none⟩) hzW).trans g0
        have hct := Lib.hid (named_ct (some ad) cap j wr.heap.size (l.take j) x.nm ((hr.keep (Same.mono (Same.of_below hb2') hB)).take j) (by omega) hlj g2)
        clear hr hin hT hx hic g0 g2 d0 d1 d2 hlj
        go_wp2_with fail
        refine hct.out.mono ?_
        rintro e w3 (⟨rfl, hb3, hq⟩ | ⟨rfl, hb3, hq⟩)
        · have HR4 := Lib.hid (show 5 = R by rw [← HR3.out, if_pos hq])
          clear hq HR3
          go_wp2
          go_ret
          exact ⟨by rw [← HR4.out]; rfl, hb2'.trans (hb3.mono (by omega))⟩
        · have hq' : (l.take j).any (namedB x.nm) = false := by rw [List.take_take, Nat.min_self] at hq; exact hq
          have HR4 := Lib.hid (show srcsFrom (l.take (j + 1)) (l.drop (j + 1)) = R by rw [← HR3.out, if_neg (by rw [hq']; simp)])
          clear hq hq' HR3
          go_wp2
          go_roundw
          case rel => exact ⟨j + 1, by omega, by go_num, hb2'.trans (hb3.mono (by omega)), HR4⟩
          case measure => simp [intOf]; omega
      · have n0 : (sourceS x != 0) = true := by simpa using h0
        have HR3 := Lib.hid (show sourceS x = R by rw [← HR2, if_pos h0])
        clear h0 HR2 hr hin hT hx
        go_wp2_with fail
        rw [Ho1.out, HW1.out]
        refine hic.out.mono ?_
        rintro e w2 ⟨rfl, hb2⟩
        go_wp2
        go_ret
        exact ⟨by rw [← HR3.out]; rfl, hbW1.trans (hb2.mono (by omega))⟩
    · have HR3 : Hid (0 = R) := by have := HRj.out; rw [show l.drop j = [] from List.drop_eq_nil_of_le (by rw [hlen.out]; omega)] at this; exact this
      go_wp2
      go_ret
      exact ⟨by rw [← HR3.out]; rfl, hbr⟩
end Go.Proofs.YtcpbbagppkcilaaDoor
