/-
  slices.IndexFunc and slices.ContainsFunc over values, at a function value that may write.
-/
import Derived.Test.YteeabfdafnncfaaDoorQData3
import Derived.Test.YteeabfdafnncfaaDoorProg
import Derived.WalkLawsBesides
import Derived.WalkSpells
import Derived.Outline
import Derived.Lib.Hide
import Derived.Shelf.GgClosure.Gives
namespace Go.Proofs.YteeabfdafnncfaaDoor
open Go.RowKit
/-- What IndexFunc comes to: an index, and Fin behind it; or -1, and the state behind all elements. -/
def IdxPost (n : Nat) (St : Nat → World → Prop) (Fin : World → Prop) (e : Ending) (w' : World) : Prop := (∃ i : Int, 0 ≤ i ∧ e = .returned (.int .i64 i) ∧ Fin w') ∨ (e = .returned (.int .i64 (-1)) ∧ St n w')
/-- What ContainsFunc comes to. -/
def CtPost (n : Nat) (St : Nat → World → Prop) (Fin : World → Prop) (e : Ending) (w' : World) : Prop := (e = .returned (.bool true) ∧ Fin w') ∨ (e = .returned (.bool false) ∧ St n w')
/-- One call of the function value, at element j. -/
def StepPost (j : Nat) (St : Nat → World → Prop) (Fin : World → Prop) (e : Ending) (w' : World) : Prop := (e = .returned (.bool true) ∧ Fin w') ∨ (e = .returned (.bool false) ∧ St (j + 1) w')
set_option maxRecDepth 100000 in
set_option maxHeartbeats 1000000 in
theorem idxV_any (g : Nat) (lb : Array Value) (eg : ∀ args w, (callFunc g args).run Tryd.prog w = .ok (.enter g args) w) (l : List VT) (A : Option Addr) (cap len B : Nat) (w : World) (hr : VT.Row B w A cap l) (hlen : Hid (l.length = len)) (St : Nat → World → Prop) (Fin : World → Prop)
    (h0 : St 0 w) (hS : Hid (∀ j W, St j W → Same B w W))
    (hstep : Hid (∀ j x W, l[j]? = some x → St j W → Calls Tryd.prog g (#[.agg #[.int .i64 x.a.k, .int .i64 x.a.n, .int .i64 x.a.sc, .string x.a.s, .slice x.a.A x.l.length x.a.cap]] ++ lb) W (StepPost j St Fin))) :
    Calls Tryd.prog 45 #[.slice A len cap, .func (.func g) #[] lb] w (IdxPost len St Fin) := by
  have hll : len ≤ 9223372036854775807 := by rw [← hlen.out]; exact Nat.le_trans hr.1 hr.2.1
  go_enter Tryd.func45, Tryd.ntmps45
  go_wp2
  go_loopw [8] (fun i wr => ∃ j : Nat, j ≤ len ∧ i = .int .i64 j ∧ St j wr) (fun i _ => len - (intOf i).toNat)
  case atStart => exact ⟨0, Nat.zero_le _, rfl, h0⟩
  case round =>
    obtain ⟨j, hj, rfl, hst⟩ := hrel
    by_cases hlt : j < len
    · obtain ⟨x, ad, hx, rfl, hb, d0, d1, d2, d3, d4⟩ := (hr.keep (hS.out j wr hst)).get (show j < l.length by rw [hlen.out]; exact hlt)
      have cS : Calls Tryd.prog g (#[.agg #[.int .i64 x.a.k, .int .i64 x.a.n, .int .i64 x.a.sc, .string x.a.s, .slice x.a.A x.l.length x.a.cap]] ++ lb) wr _ := hstep.out j x wr hx hst
      clear hr hstep hS hx hst h0
      go_wp2_with (go_at_fn g; refine cS.mono ?_; rintro e w' (⟨rfl, hf⟩ | ⟨rfl, hst⟩))
      · go_ret
        exact .inl ⟨j, by omega, rfl, hf⟩
      · go_wp2
        go_roundw
        case rel => exact ⟨j + 1, by omega, by go_num, hst⟩
        case measure => simp [intOf]; omega
    · obtain rfl : j = len := by omega
      clear hstep hS
      go_wp2
      go_ret
      exact .inr ⟨rfl, hst⟩
set_option maxRecDepth 100000 in
set_option maxHeartbeats 1000000 in
theorem ctV_any (g : Nat) (lb : Array Value) (eg : ∀ args w, (callFunc g args).run Tryd.prog w = .ok (.enter g args) w) (l : List VT) (A : Option Addr) (cap len B : Nat) (w : World) (hr : VT.Row B w A cap l) (hlen : Hid (l.length = len)) (St : Nat → World → Prop) (Fin : World → Prop)
    (h0 : St 0 w) (hS : Hid (∀ j W, St j W → Same B w W))
    (hstep : Hid (∀ j x W, l[j]? = some x → St j W → Calls Tryd.prog g (#[.agg #[.int .i64 x.a.k, .int .i64 x.a.n, .int .i64 x.a.sc, .string x.a.s, .slice x.a.A x.l.length x.a.cap]] ++ lb) W (StepPost j St Fin))) :
    Calls Tryd.prog 30 #[.slice A len cap, .func (.func g) #[] lb] w (CtPost len St Fin) := by
  have hi := Lib.hid (idxV_any g lb eg l A cap len B w hr hlen St Fin h0 hS hstep)
  clear hr hlen h0 hS hstep eg
  go_enter Tryd.func30, Tryd.ntmps30
  go_wp2_with fail
  refine hi.out.mono ?_
  rintro e w' (⟨i, hi0, rfl, hf⟩ | ⟨rfl, hst⟩)
  · have d : decide ((0 : Int) ≤ i) = true := by simpa using hi0
    go_wp2
    go_ret
    exact .inl ⟨rfl, hf⟩
  · go_wp2
    go_ret
    exact .inr ⟨rfl, hst⟩
end Go.Proofs.YteeabfdafnncfaaDoor
