/-
  slices.IndexFunc and slices.ContainsFunc over values and over fields, at a function value that may write.
  slices.EqualFunc over fields and values.
-/
import Derived.Test.YtkadahfknccjfaaGreatDoorQData3
import Derived.Test.YtkadahfknccjfaaGreatDoorProg
import Derived.WalkLawsBesides
import Derived.WalkSpells
import Derived.Outline
import Derived.Lib.Hide
import Derived.Shelf.GgClosure.Gives
namespace Go.Proofs.YtkadahfknccjfaaGreatDoor
open Go.RowKit
/-- What IndexFunc comes to: an index, and Fin behind it; or -1, and the state behind all elements. -/
def IdxPost (n : Nat) (St : Nat → World → Prop) (Fin : World → Prop) (e : Ending) (w' : World) : Prop := (∃ i : Int, 0 ≤ i ∧ e = .returned (.int .i64 i) ∧ Fin w') ∨ (e = .returned (.int .i64 (-1)) ∧ St n w')
/-- What ContainsFunc comes to. -/
def CtPost (n : Nat) (St : Nat → World → Prop) (Fin : World → Prop) (e : Ending) (w' : World) : Prop := (e = .returned (.bool true) ∧ Fin w') ∨ (e = .returned (.bool false) ∧ St n w')
/-- One call of the function value, at element j. -/
def StepPost (j : Nat) (St : Nat → World → Prop) (Fin : World → Prop) (e : Ending) (w' : World) : Prop := (e = .returned (.bool true) ∧ Fin w') ∨ (e = .returned (.bool false) ∧ St (j + 1) w')
set_option maxRecDepth 100000 in
set_option maxHeartbeats 1000000 in
theorem idxV_any (g : Nat) (lb : Array Value) (eg : ∀ args w, (callFunc g args).run Tryz.prog w = .ok (.enter g args) w) (l : List VT) (A : Option Addr) (cap len B : Nat) (w : World) (hr : VT.Row B w A cap l) (hlen : Hid (l.length = len)) (St : Nat → World → Prop) (Fin : World → Prop)
    (h0 : St 0 w) (hS : Hid (∀ j W, St j W → Same B w W))
    (hstep : Hid (∀ j x W, l[j]? = some x → St j W → Calls Tryz.prog g (#[.agg #[.int .i64 x.a.k, .int .i64 x.a.n, .int .i64 x.a.sc, .string x.a.s, .slice x.a.A x.l.length x.a.cap]] ++ lb) W (StepPost j St Fin))) :
    Calls Tryz.prog 93 #[.slice A len cap, .func (.func g) #[] lb] w (IdxPost len St Fin) := by
  have hll : len ≤ 9223372036854775807 := by rw [← hlen.out]; exact Nat.le_trans hr.1 hr.2.1
  go_enter Tryz.func93, Tryz.ntmps93
  go_wp2
  go_loopw [8] (fun i wr => ∃ j : Nat, j ≤ len ∧ i = .int .i64 j ∧ St j wr) (fun i _ => len - (intOf i).toNat)
  case atStart => exact ⟨0, Nat.zero_le _, rfl, h0⟩
  case round =>
    obtain ⟨j, hj, rfl, hst⟩ := hrel
    by_cases hlt : j < len
    · obtain ⟨x, ad, hx, rfl, hb, d0, d1, d2, d3, d4⟩ := (hr.keep (hS.out j wr hst)).get (show j < l.length by rw [hlen.out]; exact hlt)
      have cS : Calls Tryz.prog g (#[.agg #[.int .i64 x.a.k, .int .i64 x.a.n, .int .i64 x.a.sc, .string x.a.s, .slice x.a.A x.l.length x.a.cap]] ++ lb) wr _ := hstep.out j x wr hx hst
      clear hr hstep hS hx hst h0
      go_wp2_with (go_at_fn g; refine cS.mono ?_; rintro e w' (⟨rfl, hf⟩ | ⟨rfl, hst⟩))
      · go_ret
        exact .inl ⟨j, by omega, rfl, hf⟩
      · go_wp2
        go_roundw
        case rel => exact ⟨j + 1, by omega, by go_num, hst⟩
        case measure => simp [intOf]; omega
    · obtain rfl : j = len := by omega
      clear hstep hS
      go_wp2
      go_ret
      exact .inr ⟨rfl, hst⟩
set_option maxRecDepth 100000 in
set_option maxHeartbeats 1000000 in
theorem ctV_any (g : Nat) (lb : Array Value) (eg : ∀ args w, (callFunc g args).run Tryz.prog w = .ok (.enter g args) w) (l : List VT) (A : Option Addr) (cap len B : Nat) (w : World) (hr : VT.Row B w A cap l) (hlen : Hid (l.length = len)) (St : Nat → World → Prop) (Fin : World → Prop)
    (h0 : St 0 w) (hS : Hid (∀ j W, St j W → Same B w W))
    (hstep : Hid (∀ j x W, l[j]? = some x → St j W → Calls Tryz.prog g (#[.agg #[.int .i64 x.a.k, .int .i64 x.a.n, .int .i64 x.a.sc, .string x.a.s, .slice x.a.A x.l.length x.a.cap]] ++ lb) W (StepPost j St Fin))) :
    Calls Tryz.prog 74 #[.slice A len cap, .func (.func g) #[] lb] w (CtPost len St Fin) := by
  have hi := Lib.hid (idxV_any g lb eg l A cap len B w hr hlen St Fin h0 hS hstep)
  clear hr hlen h0 hS hstep eg
  go_enter Tryz.func74, Tryz.ntmps74
  go_wp2_with fail
  refine hi.out.mono ?_
  rintro e w' (⟨i, hi0, rfl, hf⟩ | ⟨rfl, hst⟩)
  · have d : decide ((0 : Int) ≤ i) = true := by simpa using hi0
    go_wp2
    go_ret
    exact .inl ⟨rfl, hf⟩
  · go_wp2
    go_ret
    exact .inr ⟨rfl, hst⟩
set_option maxRecDepth 100000 in
set_option maxHeartbeats 1000000 in
theorem idxF_any (g : Nat) (lb : Array Value) (eg : ∀ args w, (callFunc g args).run Tryz.prog w = .ok (.enter g args) w) (l : List FT) (A : Option Addr) (cap len B : Nat) (w : World) (hr : FT.Row B w A cap l) (hlen : Hid (l.length = len)) (St : Nat → World → Prop) (Fin : World → Prop)
    (h0 : St 0 w) (hS : Hid (∀ j W, St j W → Same B w W))
    (hstep : Hid (∀ j x W, l[j]? = some x → St j W → Calls Tryz.prog g (#[.agg #[.int .i64 x.a.id, .string x.a.nm, .bool x.a.nd, .int .i64 x.a.k, .int .i64 x.a.sc, .slice x.a.A x.l.length x.a.cap]] ++ lb) W (StepPost j St Fin))) :
    Calls Tryz.prog 90 #[.slice A len cap, .func (.func g) #[] lb] w (IdxPost len St Fin) := by
  have hll : len ≤ 9223372036854775807 := by rw [← hlen.out]; exact Nat.le_trans hr.1 hr.2.1
  go_enter Tryz.func90, Tryz.ntmps90
  go_wp2
  go_loopw [8] (fun i wr => ∃ j : Nat, j ≤ len ∧ i = .int .i64 j ∧ St j wr) (fun i _ => len - (intOf i).toNat)
  case atStart => exact ⟨0, Nat.zero_le _, rfl, h0⟩
  case round =>
    obtain ⟨j, hj, rfl, hst⟩ := hrel
    by_cases hlt : j < len
    · obtain ⟨x, ad, hx, rfl, hb, d0, d1, d2, d3, d4, d5⟩ := (hr.keep (hS.out j wr hst)).get (show j < l.length by rw [hlen.out]; exact hlt)
      have cS : Calls Tryz.prog g (#[.agg #[.int .i64 x.a.id, .string x.a.nm, .bool x.a.nd, .int .i64 x.a.k, .int .i64 x.a.sc, .slice x.a.A x.l.length x.a.cap]] ++ lb) wr _ := hstep.out j x wr hx hst
      clear hr hstep hS hx hst h0
      go_wp2_with (go_at_fn g; refine cS.mono ?_; rintro e w' (⟨rfl, hf⟩ | ⟨rfl, hst⟩))
      · go_ret
        exact .inl ⟨j, by omega, rfl, hf⟩
      · go_wp2
        go_roundw
        case rel => exact ⟨j + 1, by omega, by go_num, hst⟩
        case measure => simp [intOf]; omega
    · obtain rfl : j = len := by omega
      clear hstep hS
      go_wp2
      go_ret
      exact .inr ⟨rfl, hst⟩
set_option maxRecDepth 100000 in
set_option maxHeartbeats 1000000 in
theorem ctF_any (g : Nat) (lb : Array Value) (eg : ∀ args w, (callFunc g args).run Tryz.prog w = .ok (.enter g args) w) (l : List FT) (A : Option Addr) (cap len B : Nat) (w : World) (hr : FT.Row B w A cap l) (hlen : Hid (l.length = len)) (St : Nat → World → Prop) (Fin : World → Prop)
    (h0 : St 0 w) (hS : Hid (∀ j W, St j W → Same B w W))
    (hstep : Hid (∀ j x W, l[j]? = some x → St j W → Calls Tryz.prog g (#[.agg #[.int .i64 x.a.id, .string x.a.nm, .bool x.a.nd, .int .i64 x.a.k, .int .i64 x.a.sc, .slice x.a.A x.l.length x.a.cap]] ++ lb) W (StepPost j St Fin))) :
    Calls Tryz.prog 71 #[.slice A len cap, .func (.func g) #[] lb] w (CtPost len St Fin) := by
  have hi := Lib.hid (idxF_any g lb eg l A cap len B w hr hlen St Fin h0 hS hstep)
  clear hr hlen h0 hS hstep eg
  go_enter Tryz.func71, Tryz.ntmps71
  go_wp2_with fail
  refine hi.out.mono ?_
  rintro e w' (⟨i, hi0, rfl, hf⟩ | ⟨rfl, hst⟩)
  · have d : decide ((0 : Int) ≤ i) = true := by simpa using hi0
    go_wp2
    go_ret
    exact .inl ⟨rfl, hf⟩
  · go_wp2
    go_ret
    exact .inr ⟨rfl, hst⟩
end Go.Proofs.YtkadahfknccjfaaGreatDoor
namespace Go.Proofs.YtkadahfknccjfaaGreatDoor
open Go.RowKit
def EqPost (n : Nat) (St : Nat → World → Prop) (Fin : World → Prop) (e : Ending) (w' : World) : Prop := (e = .returned (.bool false) ∧ Fin w') ∨ (e = .returned (.bool true) ∧ St n w')
def EqStep (j : Nat) (St : Nat → World → Prop) (Fin : World → Prop) (e : Ending) (w' : World) : Prop := (e = .returned (.bool false) ∧ Fin w') ∨ (e = .returned (.bool true) ∧ St (j + 1) w')
set_option maxRecDepth 100000 in
set_option maxHeartbeats 1000000 in
theorem eqFV_lens (f : Value) (TA A : Option Addr) (tcap cap flen len : Nat) (w : World) (_hf : flen ≤ maxLen) (_hl : len ≤ maxLen) (h : flen ≠ len) :
    Calls Tryz.prog 76 #[.slice TA flen tcap, .slice A len cap, f] w fun e w' => e = .returned (.bool false) ∧ w = w' := by
  unfold maxLen at _hf _hl
  have n1 : ((flen : Int) != (len : Int)) = true := by simp; omega
  clear h
  go_enter Tryz.func76, Tryz.ntmps76
  go_wp2
  go_ret
  exact ⟨rfl, rfl⟩
set_option maxRecDepth 100000 in
set_option maxHeartbeats 1000000 in
theorem eqFV_any (g : Nat) (lb : Array Value) (eg : ∀ args w, (callFunc g args).run Tryz.prog w = .ok (.enter g args) w) (fl : List FT) (l : List VT) (TA A : Option Addr) (tcap cap len B : Nat) (w : World) (htr : FT.Row B w TA tcap fl) (hr : VT.Row B w A cap l)
    (hflen : Hid (fl.length = len)) (hlen : Hid (l.length = len)) (St : Nat → World → Prop) (Fin : World → Prop)
    (h0 : St 0 w) (hS : Hid (∀ j W, St j W → Same B w W)) (hal : Hid (∀ j W o, St j W → St j (W.alloc o)))
    (hstep : Hid (∀ j t x W, fl[j]? = some t → l[j]? = some x → St j W → Calls Tryz.prog g (#[.agg #[.int .i64 t.a.id, .string t.a.nm, .bool t.a.nd, .int .i64 t.a.k, .int .i64 t.a.sc, .slice t.a.A t.l.length t.a.cap], .agg #[.int .i64 x.a.k, .int .i64 x.a.n, .int .i64 x.a.sc, .string x.a.s, .slice x.a.A x.l.length x.a.cap]] ++ lb) W (EqStep j St Fin))) :
    Calls Tryz.prog 76 #[.slice TA len tcap, .slice A len cap, .func (.func g) #[] lb] w (EqPost len St Fin) := by
  have hll : len ≤ 9223372036854775807 := by rw [← hlen.out]; exact Nat.le_trans hr.1 hr.2.1
  go_enter Tryz.func76, Tryz.ntmps76
  go_wp2
  go_loopw [17] (fun i wr => ∃ j : Nat, j ≤ len ∧ i = .int .i64 j ∧ St j wr) (fun i _ => len - (intOf i).toNat)
  case atStart => exact ⟨0, Nat.zero_le _, rfl, h0⟩
  case round =>
    obtain ⟨j, hj, rfl, hst⟩ := hrel
    by_cases hlt : j < len
    · obtain ⟨x, ad, hx, rfl, hb, d0, d1, d2, d3, d4⟩ := (hr.keep (hS.out j wr hst)).get (show j < l.length by rw [hlen.out]; exact hlt)
      obtain ⟨t, tad, ht, rfl, htb, f0, f1, f2, f3, f4, f5⟩ := (htr.keep (hS.out j wr hst)).get (show j < fl.length by rw [hflen.out]; exact hlt)
      obtain ⟨o1, ho1⟩ : ∃ o1, Obj.cells #[.int .i64 t.a.id, .string t.a.nm, .bool t.a.nd, .int .i64 t.a.k, .int .i64 t.a.sc, .slice t.a.A t.l.length t.a.cap] 84 = o1 := ⟨_, rfl⟩
      obtain ⟨o2, ho2⟩ : ∃ o2, Obj.cells #[.int .i64 x.a.k, .int .i64 x.a.n, .int .i64 x.a.sc, .string x.a.s, .slice x.a.A x.l.length x.a.cap] 61 = o2 := ⟨_, rfl⟩
      have cS : Calls Tryz.prog g (#[.agg #[.int .i64 t.a.id, .string t.a.nm, .bool t.a.nd, .int .i64 t.a.k, .int .i64 t.a.sc, .slice t.a.A t.l.length t.a.cap], .agg #[.int .i64 x.a.k, .int .i64 x.a.n, .int .i64 x.a.sc, .string x.a.s, .slice x.a.A x.l.length x.a.cap]] ++ lb) ((wr.alloc o1).alloc o2) _ := hstep.out j t x ((wr.alloc o1).alloc o2) ht hx (hal.out _ _ _ (hal.out _ _ _ hst))
      rw [← ho1, ← ho2] at cS
      have hadb : (ad.add (j * 5)).block < wr.heap.size := cell_lt d0
      clear hr htr hstep hS hx ht hst h0 hal ho1 ho2
      have CS := Lib.hid cS
      clear cS
      go_wp2_with (go_at_fn g; refine CS.out.mono ?_; rintro e w' (⟨rfl, hf⟩ | ⟨rfl, hst⟩))
      · go_ret
        exact .inl ⟨rfl, hf⟩
      · go_wp2
        go_roundw
        case rel => exact ⟨j + 1, by omega, by go_num, hst⟩
        case measure => simp [intOf]; omega
    · obtain rfl : j = len := by omega
      clear hstep hS hal
      go_wp2
      go_ret
      exact .inr ⟨rfl, hst⟩
end Go.Proofs.YtkadahfknccjfaaGreatDoor
