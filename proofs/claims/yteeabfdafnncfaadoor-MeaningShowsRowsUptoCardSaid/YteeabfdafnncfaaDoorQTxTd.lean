/-
  The reference of package value: the text of a sound value; of any value.
-/
import Derived.Test.YteeabfdafnncfaaDoorQTxSa
import Derived.Test.YteeabfdafnncfaaDoorQTxT
import Derived.Test.YteeabfdafnncfaaDoorQTxTa
import Derived.Test.YteeabfdafnncfaaDoorQTxTb
import Derived.Test.YteeabfdafnncfaaDoorQTxTc
import Derived.Test.YteeabfdafnncfaaDoorQRefKa
namespace Go.Proofs.YteeabfdafnncfaaDoor
open Go.RowKit
theorem rtext_leaf (k n sc : Int) (s : ByteArray) (A : Option Addr) (len cap B : Nat) (w : World) (hal : aloneS k n sc s len = true) (h6 : k ≠ 6) (h7 : k ≠ 7) (hT : PowTab B w) (hB : B ≤ w.heap.size) :
    Calls Tryd.prog 17 #[.agg #[.int .i64 k, .int .i64 n, .int .i64 sc, .string s, .slice A len cap]] w fun e w' => e = .returned (.string (bs (leafL k n sc s))) ∧ Below w.heap.size w w' := by
  rcases alone_kind hal with rfl | ⟨rfl, hn⟩ | ⟨rfl, n0, n1⟩ | ⟨rfl, n0, n1, c0, c1⟩ | ⟨rfl, hs⟩ | ⟨rfl, n0, n1⟩ | rfl | rfl
  · exact rtext_plain 0 n sc s A len cap B w (.inl rfl) hT hB
  · exact rtext_plain 1 n sc s A len cap B w (.inr (.inl ⟨rfl, hn⟩)) hT hB
  · exact rtext_plain 2 n sc s A len cap B w (.inr (.inr ⟨rfl, n0, n1⟩)) hT hB
  · exact rtext_dec n sc s A len cap B w n0 n1 c0 c1 hT hB
  · exact rtext_text n sc s A len cap B w hs
  · exact rtext_moment n sc s A len cap B w n0 n1 hT hB
  · exact absurd rfl h6
  · exact absurd rfl h7
/-- The texts up to a place, with a separator between them. -/
def jT (sep : List UInt8) (L : List (List UInt8)) (j : Nat) : ByteArray := bs (Lib.join (L.take j) sep)
theorem jT_size (sep : List UInt8) (L : List (List UInt8)) (j : Nat) : (jT sep L j).size ≤ (Lib.join L sep).length := by
  unfold jT
  rw [bs_size]
  exact join_take_le L sep j
theorem jT_step (sep : List UInt8) (L : List (List UInt8)) (j : Nat) (x : List UInt8) (h : L[j]? = some x) : (j = 0 → jT sep L j ++ bs x = jT sep L (j + 1)) ∧ (0 < j → jT sep L j ++ bs sep ++ bs x = jT sep L (j + 1)) := by
  have hj := (List.getElem?_eq_some_iff.1 h).1
  have h2 : L.take (j + 1) = L.take j ++ [x] := by rw [List.take_add_one, h]; rfl
  unfold jT
  rw [h2, join_snoc]
  refine ⟨fun h0 => ?_, fun h0 => ?_⟩
  · subst h0
    rw [if_pos (by simp), List.take_zero, bs_cat]
    rfl
  · have hne : L.take j ≠ [] := fun e => by
      have := congrArg List.length e
      rw [List.length_take, List.length_nil] at this
      omega
    rw [if_neg hne, bs_cat, bs_cat]
theorem bs_nil : bs [] = ⟨#[]⟩ := rfl
set_option maxRecDepth 100000 in
set_option maxHeartbeats 4000000 in
theorem rtext_any : ∀ (v : VT) (B : Nat) (w : World), VT.In B w v → PowTab B w → B ≤ w.heap.size → OkV v → (txtV v).length ≤ 4398046511104 →
    Calls Tryd.prog 17 #[.agg #[.int .i64 v.a.k, .int .i64 v.a.n, .int .i64 v.a.sc, .string v.a.s, .slice v.a.A v.l.length v.a.cap]] w fun e w' => e = .returned (.string (bs (txtV v))) ∧ Below w.heap.size w w' := by
  refine VT.ind fun a l ih B w hin hT hB hok hlen => ?_
  obtain ⟨k, n, sc, s, A, cap⟩ := a
  obtain ⟨hr, hl⟩ := hin.invT
  obtain ⟨hal, hox⟩ := hok.inv
  simp only [VT.a_node, VT.l_node] at hr hal ⊢
  by_cases h67 : k = 6 ∨ k = 7
  · obtain ⟨len, hll⟩ : ∃ len, l.length = len := ⟨_, rfl⟩
    have hJ : (Lib.join (l.map txtV) [44, 32]).length ≤ 4398046511104 := by
      rcases h67 with rfl | rfl
      · rw [txtV_list rfl] at hlen; simp at hlen; omega
      · rw [txtV_record rfl] at hlen; simp at hlen; omega
    have hjl : ∀ x, x ∈ l → (txtV x).length ≤ 4398046511104 := fun x hx => Nat.le_trans (join_mem_le (List.mem_map_of_mem hx)) hJ
    have hlm : len ≤ maxLen := by rw [← hll]; exact Nat.le_trans hr.1 hr.2.1
    unfold maxLen at hlm
    have Hlen := Lib.hid hll
    have HJ := Lib.hid hJ
    have Hjl := Lib.hid hjl
    have Hr := Lib.hid hr
    have Hl := Lib.hid hl
    have HT := Lib.hid hT
    have Hok := Lib.hid hox
    have Ih := Lib.hid ih
    rw [hll]
    rcases h67 with rfl | rfl
    · have Hf : Hid (bs [91] ++ bs (Lib.join (l.map txtV) [44, 32]) ++ bs [93] = bs (txtV (.node ⟨6, n, sc, s, A, cap⟩ l))) := by
        show _ = _
        rw [bs_cat, bs_cat, txtV_list rfl]
      clear hll hJ hjl hr hl hT hox ih hin hok hal hlen
      go_enter Tryd.func17, Tryd.ntmps17
      go_wp2_with fail
      generalize hW1 : World.alloc _ _ = W1
      have hb1 : Below w.heap.size w W1 := by rw [← hW1]; exact (Below.refl _ _).alloc (Nat.le_refl _) _
      have hk0 : W1.cell? ⟨w.heap.size, 0, none⟩ = some (.int .i64 6) := by rw [← hW1]; simp
      have hk4 : W1.cell? ⟨w.heap.size, 4, none⟩ = some (.slice A len cap) := by rw [← hW1]; simp
      have hz1 : w.heap.size < W1.heap.size := by rw [← hW1]; simp
      clear hW1
      go_loopw [9, 120] (fun o i wr => ∃ j : Nat, j ≤ len ∧ o = .string (jT [44, 32] (l.map txtV) j) ∧ i = .int .i64 j ∧ Below W1.heap.size W1 wr) (fun _ i _ => len - (intOf i).toNat)
      case atStart => exact ⟨0, Nat.zero_le _, by unfold jT; rfl, rfl, Below.refl _ _⟩
      case round =>
        obtain ⟨j, hj, rfl, rfl, hbr⟩ := hrel
        have hbw := hb1.trans (hbr.mono hb1.size)
        have hk4r := (hbr.cell (p := ⟨w.heap.size, 4, none⟩) hz1).trans hk4
        by_cases hlt : j < len
        · have hS := Same.mono (Same.of_below hbw) hB
          obtain ⟨x, ad, hx, rfl, hb, d0, d1, d2, d3, d4⟩ := (Hr.out.keep hS).get (show j < l.length by rw [Hlen.out]; exact hlt)
          have hxm := mem_of_get? hx
          have hcp := Lib.hid (Ih.out x hxm B wr ((Hl.out x hxm).keep hS) (HT.out.keep hS) (Nat.le_trans hB hbw.size) (Hok.out x hxm) (Hjl.out x hxm))
          have hjs := jT_step [44, 32] (l.map txtV) j (txtV x) (by rw [List.getElem?_map, hx]; rfl)
          have hxl := bs_size (txtV x)
          have hxl2 := Hjl.out x hxm
          have hjz := jT_size [44, 32] (l.map txtV) j
          have hJ2 := HJ.out
          have Hj1 := Lib.hid hjs.1
          have Hj2 := Lib.hid hjs.2
          generalize jT [44, 32] (l.map txtV) j = O at *
          generalize bs (txtV x) = X at *
          clear hx hS hxm hjs
          rcases Nat.eq_zero_or_pos j with h0 | h0
          · have Hq := Lib.hid (Hj1.out h0)
            clear Hj1 Hj2
            have hng : decide ((0 : Int) < (j : Int)) = false := by simp; omega
            have hng2 : ¬ (0 : Int) < (j : Int) := by omega
            clear h0
            go_wp2_with (go_at_call 17; refine (hcp.out).mono ?_; rintro e w' ⟨rfl, hb5⟩)
            go_roundw
            case rel => exact ⟨j + 1, by omega, by rw [← Hq.out], by go_num, hbr.trans (hb5.mono hbr.size)⟩
            case measure => simp [intOf]; omega
          · have Hq := Lib.hid (Hj2.out h0)
            clear Hj1 Hj2
            have hng2 : (0 : Int) < (j : Int) := by omega
            clear h0
            go_wp2_with (go_at_call 17; refine (hcp.out).mono ?_; rintro e w' ⟨rfl, hb5⟩)
            go_roundw
            case rel => exact ⟨j + 1, by omega, by rw [← Hq.out]; rfl, by go_num, hbr.trans (hb5.mono hbr.size)⟩
            case measure => simp [intOf]; omega
        · obtain rfl : j = len := by omega
          have hk0r := (hbr.cell (p := ⟨w.heap.size, 0, none⟩) hz1).trans hk0
          have hfull : jT [44, 32] (l.map txtV) j = bs (Lib.join (l.map txtV) [44, 32]) := by unfold jT; rw [List.take_of_length_le (by rw [List.length_map, Hlen.out]; exact Nat.le_refl _)]
          rw [hfull]
          have hsz := bs_size (Lib.join (l.map txtV) [44, 32])
          have hJ2 := HJ.out
          have Hbw := Lib.hid hbw
          clear hfull hbr hb1 hbw hk0 hk4
          generalize bs (Lib.join (l.map txtV) [44, 32]) = S at *
          go_wp2
          go_ret
          exact ⟨by rw [← Hf.out]; rfl, Hbw.out⟩
    · have Hf : Hid (bs [40] ++ bs (Lib.join (l.map txtV) [44, 32]) ++ bs [41] = bs (txtV (.node ⟨7, n, sc, s, A, cap⟩ l))) := by
        show _ = _
        rw [bs_cat, bs_cat, txtV_record rfl]
      clear hll hJ hjl hr hl hT hox ih hin hok hal hlen
      go_enter Tryd.func17, Tryd.ntmps17
      go_wp2_with fail
      generalize hW1 : World.alloc _ _ = W1
      have hb1 : Below w.heap.size w W1 := by rw [← hW1]; exact (Below.refl _ _).alloc (Nat.le_refl _) _
      have hk0 : W1.cell? ⟨w.heap.size, 0, none⟩ = some (.int .i64 7) := by rw [← hW1]; simp
      have hk4 : W1.cell? ⟨w.heap.size, 4, none⟩ = some (.slice A len cap) := by rw [← hW1]; simp
      have hz1 : w.heap.size < W1.heap.size := by rw [← hW1]; simp
      clear hW1
      go_loopw [9, 120] (fun o i wr => ∃ j : Nat, j ≤ len ∧ o = .string (jT [44, 32] (l.map txtV) j) ∧ i = .int .i64 j ∧ Below W1.heap.size W1 wr) (fun _ i _ => len - (intOf i).toNat)
      case atStart => exact ⟨0, Nat.zero_le _, by unfold jT; rfl, rfl, Below.refl _ _⟩
      case round =>
        obtain ⟨j, hj, rfl, rfl, hbr⟩ := hrel
        have hbw := hb1.trans (hbr.mono hb1.size)
        have hk4r := (hbr.cell (p := ⟨w.heap.size, 4, none⟩) hz1).trans hk4
        by_cases hlt : j < len
        · have hS := Same.mono (Same.of_below hbw) hB
          obtain ⟨x, ad, hx, rfl, hb, d0, d1, d2, d3, d4⟩ := (Hr.out.keep hS).get (show j < l.length by rw [Hlen.out]; exact hlt)
          have hxm := mem_of_get? hx
          have hcp := Lib.hid (Ih.out x hxm B wr ((Hl.out x hxm).keep hS) (HT.out.keep hS) (Nat.le_trans hB hbw.size) (Hok.out x hxm) (Hjl.out x hxm))
          have hjs := jT_step [44, 32] (l.map txtV) j (txtV x) (by rw [List.getElem?_map, hx]; rfl)
          have hxl := bs_size (txtV x)
          have hxl2 := Hjl.out x hxm
          have hjz := jT_size [44, 32] (l.map txtV) j
          have hJ2 := HJ.out
          have Hj1 := Lib.hid hjs.1
          have Hj2 := Lib.hid hjs.2
          generalize jT [44, 32] (l.map txtV) j = O at *
          generalize bs (txtV x) = X at *
          clear hx hS hxm hjs
          rcases Nat.eq_zero_or_pos j with h0 | h0
          · have Hq := Lib.hid (Hj1.out h0)
            clear Hj1 Hj2
            have hng : decide ((0 : Int) < (j : Int)) = false := by simp; omega
            have hng2 : ¬ (0 : Int) < (j : Int) := by omega
            clear h0
            go_wp2_with (go_at_call 17; refine (hcp.out).mono ?_; rintro e w' ⟨rfl, hb5⟩)
            go_roundw
            case rel => exact ⟨j + 1, by omega, by rw [← Hq.out], by go_num, hbr.trans (hb5.mono hbr.size)⟩
            case measure => simp [intOf]; omega
          · have Hq := Lib.hid (Hj2.out h0)
            clear Hj1 Hj2
            have hng2 : (0 : Int) < (j : Int) := by omega
            clear h0
            go_wp2_with (go_at_call 17; refine (hcp.out).mono ?_; rintro e w' ⟨rfl, hb5⟩)
            go_roundw
            case rel => exact ⟨j + 1, by omega, by rw [← Hq.out]; rfl, by go_num, hbr.trans (hb5.mono hbr.size)⟩
            case measure => simp [intOf]; omega
        · obtain rfl : j = len := by omega
          have hk0r := (hbr.cell (p := ⟨w.heap.size, 0, none⟩) hz1).trans hk0
          have hfull : jT [44, 32] (l.map txtV) j = bs (Lib.join (l.map txtV) [44, 32]) := by unfold jT; rw [List.take_of_length_le (by rw [List.length_map, Hlen.out]; exact Nat.le_refl _)]
          rw [hfull]
          have hsz := bs_size (Lib.join (l.map txtV) [44, 32])
          have hJ2 := HJ.out
          have Hbw := Lib.hid hbw
          clear hfull hbr hb1 hbw hk0 hk4
          generalize bs (Lib.join (l.map txtV) [44, 32]) = S at *
          go_wp2
          go_ret
          exact ⟨by rw [← Hf.out]; rfl, Hbw.out⟩
  · rw [txtV_leaf (by simp; omega) (by simp; omega)]
    exact rtext_leaf k n sc s A l.length cap B w hal (by omega) (by omega) hT hB
set_option maxRecDepth 100000 in
set_option maxHeartbeats 1000000 in
theorem rText_any (v : VT) (B : Nat) (w : World) (hin : VT.In B w v) (hT : Tabs B w) (hP : PowTab B w) (hB : B ≤ w.heap.size) (hlen : (txtA v).length ≤ 4398046511104) :
    Calls Tryd.prog 10 #[.agg #[.int .i64 v.a.k, .int .i64 v.a.n, .int .i64 v.a.sc, .string v.a.s, .slice v.a.A v.l.length v.a.cap]] w fun e w' => e = .returned (.string (bs (txtA v))) ∧ Below w.heap.size w w' := by
  have hsm : ∀ o, Same B w (w.alloc o) := fun o => (Same.refl B w).alloc hB o
  have hz : ∀ o, B ≤ (w.alloc o).heap.size := fun o => by simp; omega
  have hS := Lib.hid fun o => rSound_any v B (w.alloc o) (hin.keep (hsm o)) (hT.keep (hsm o)) (hz o)
  have hbw : ∀ o, Below w.heap.size w (w.alloc o) := fun o => (Below.refl _ _).alloc (Nat.le_refl _) _
  cases hsd : (sdV 1 0 v).1
  · rw [hsd] at hS
    have hf := Lib.hid (show ([] : List UInt8) = txtA v by unfold txtA; rw [if_neg (by simp [hsd])])
    clear hsd hin hT hP hlen hsm
    go_enter Tryd.func10, Tryd.ntmps10
    go_wp2_with (go_at_call 16; refine (hS.out _).mono ?_; rintro e w' ⟨rfl, hb⟩)
    go_ret
    exact ⟨by rw [← hf.out]; rfl, (hbw _).trans (hb.mono (by simp))⟩
  · rw [hsd] at hS
    have hf := Lib.hid (show txtV v = txtA v by unfold txtA; rw [if_pos hsd])
    have hw := Lib.hid fun o w2 (hb : Below (w.alloc o).heap.size (w.alloc o) w2) =>
      have hS2 : Same B w w2 := (hsm o).trans (Same.mono (Same.of_below hb) (hz o))
      rtext_any v B w2 (hin.keep hS2) (hP.keep hS2) (Nat.le_trans (hz o) hb.size) (ok_of_sd v 1 0 hsd) (by rw [hf.out]; exact hlen)
    clear hsd hin hT hP hlen hsm
    go_enter Tryd.func10, Tryd.ntmps10
    go_wp2_with fail
    refine (hS.out _).mono ?_
    rintro e w2 ⟨rfl, hb⟩
    obtain ⟨k0, k1, k2, k3, k4, hb2⟩ := box5 hb
    have hc := Lib.hid (hw.out _ w2 hb)
    have Hb := Lib.hid hb2
    clear hb hb2 hS hw
    go_wp2_with (go_at_call 17; refine (hc.out).mono ?_; rintro e w' ⟨rfl, hb3⟩)
    go_ret
    exact ⟨by rw [← hf.out]; rfl, Hb.out.trans (hb3.mono Hb.out.size)⟩
end Go.Proofs.YteeabfdafnncfaaDoor
