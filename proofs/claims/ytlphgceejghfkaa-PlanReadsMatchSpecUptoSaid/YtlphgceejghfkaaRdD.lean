/-
  slices.ContainsFunc at the closure of Reads.
-/
import Derived.Test.YtlphgceejghfkaaRdC
namespace Go.Proofs.Ytlphgceejghfkaa
open Go.RowKit Go.Sort
def IxRel (es : List DT) (w : World) (i : Value) (wr : World) : Prop := ∃ j : Nat, j ≤ es.length ∧ i = .int .i64 j ∧ (es.take j).all colE = true ∧ Below w.heap.size w wr
def IxPost (es : List DT) (w : World) (e : Ending) (w' : World) : Prop := ∃ k : Int, e = .returned (.int .i64 k) ∧ decide (0 ≤ k) = !(es.all colE) ∧ Below w.heap.size w w'
theorem all_at {es : List DT} {j : Nat} {x : DT} (hx : es[j]? = some x) (h : (es.take j).all colE = true) : (es.take (j + 1)).all colE = colE x ∧ (colE x = false → es.all colE = false) := by
  refine ⟨by rw [List.take_add_one, hx, List.all_append, h]; simp, fun hf => ?_⟩
  rw [List.all_eq_false]
  exact ⟨x, mem_of_get? hx, by simp [hf]⟩
set_option maxRecDepth 100000 in
set_option maxHeartbeats 2000000 in
theorem index1_any (es : List DT) (A : Option Addr) (cap : Nat) (S : Nat → Prop) (w : World) (hr : DRow S w 14 A cap es) (hi' : ∀ x, x ∈ es → DT.In S w .expr x) (hS : ∀ k, S k → k < w.heap.size) (hn : es.length ≤ 1048576) :
    Calls Try.prog 36 #[.slice A es.length cap, .func (.func 20) #[] #[]] w (IxPost es w) := by
  have Hzero : Hid (IxRel es w (.int .i64 0) w) := ⟨0, Nat.zero_le _, rfl, by simp, Below.refl _ _⟩
  have Hr := Lib.hid hr
  have Hi := Lib.hid hi'
  have HS := Lib.hid hS
  clear hr hi' hS
  go_enter Try.func36, Try.ntmps36
  go_wp2
  go_loopw [8] (fun i wr => IxRel es w i wr) (fun i _ => es.length - (intOf i).toNat)
  case atStart => exact Hzero.out
  case round =>
    obtain ⟨j, hj, rfl, hall, hb⟩ := hrel
    have Hall := Lib.hid hall
    clear hall
    have hzr := hb.size
    by_cases hlt : j < es.length
    · obtain ⟨x, ad, hx, rfl, hbx, hat⟩ := (Hr.out.keep (fun k hk => hb.block k (HS.out k hk)) (fun _ h => h)).get hlt
      have hxi := Hi.out x (mem_of_get? hx)
      have hx14 := hxi.len
      have HiE : Hid ((Try.prog.info? 56).map (·.size) = some x.c.length) := by show _ = _; rw [hx14]; exact sizeExpr
      have Hat := Lib.hid hat
      have Hc : Hid (Calls Try.prog 20 #[.agg x.c.toArray] wr fun e w' => e = .returned (.bool (!colE x)) ∧ Below wr.heap.size wr w') := own1_any x S wr (hxi.keep (fun k hk => hb.block k (HS.out k hk)) (fun _ h => h))
      obtain ⟨ha1, ha2⟩ := all_at hx Hall.out
      have Ha1 := Lib.hid ha1
      have Ha2 := Lib.hid ha2
      obtain ⟨c, hcx⟩ : ∃ c, colE x = c := ⟨_, rfl⟩
      have Hcx := Lib.hid hcx
      rw [hcx] at Hc
      clear hat hxi hx14 hx ha1 ha2 hcx
      cases c with
      | true =>
        go_wp2_with (first | (refine wpList_load_st rfl 56 _ rfl _ Try.underlying56 rfl (ad.add (j * 14)) x.c HiE.out rfl Hat.out ?_) | (go_at_call 20; refine Hc.out.mono ?_; rintro e w2 ⟨rfl, hb2⟩))
        have Hst : Hid (IxRel es w (.int .i64 ((j : Int) + 1)) w2) := ⟨j + 1, by omega, by simp, by rw [Ha1.out, Hcx.out], hb.trans (hb2.mono hzr)⟩
        go_roundw
        case rel => exact Hst.out
        case measure => simp [intOf]; omega
      | false =>
        go_wp2_with (first | (refine wpList_load_st rfl 56 _ rfl _ Try.underlying56 rfl (ad.add (j * 14)) x.c HiE.out rfl Hat.out ?_) | (go_at_call 20; refine Hc.out.mono ?_; rintro e w2 ⟨rfl, hb2⟩))
        go_ret
        exact ⟨_, rfl, by rw [Ha2.out Hcx.out]; simp, hb.trans (hb2.mono hzr)⟩
    · obtain rfl : j = es.length := by omega
      go_wp2
      go_ret
      exact ⟨_, rfl, by have h := Hall.out; rw [List.take_length] at h; rw [h]; rfl, hb⟩
set_option maxRecDepth 100000 in
set_option maxHeartbeats 2000000 in
theorem contains1_any (es : List DT) (A : Option Addr) (cap : Nat) (S : Nat → Prop) (w : World) (hr : DRow S w 14 A cap es) (hi' : ∀ x, x ∈ es → DT.In S w .expr x) (hS : ∀ k, S k → k < w.heap.size) (hn : es.length ≤ 1048576) :
    Calls Try.prog 21 #[.slice A es.length cap, .func (.func 20) #[] #[]] w fun e w' => e = .returned (.bool (!(es.all colE))) ∧ Below w.heap.size w w' := by
  have H := Lib.hid (index1_any es A cap S w hr hi' hS hn)
  clear hr hi' hS
  go_enter Try.func21, Try.ntmps21
  go_wp2_with (go_at_call 36; refine H.out.mono ?_; rintro e w2 ⟨k, rfl, hk, hb2⟩; have Hk := Lib.hid hk; clear hk)
  go_ret
  exact ⟨by rw [← Hk.out]; rfl, hb2⟩
end Go.Proofs.Ytlphgceejghfkaa
