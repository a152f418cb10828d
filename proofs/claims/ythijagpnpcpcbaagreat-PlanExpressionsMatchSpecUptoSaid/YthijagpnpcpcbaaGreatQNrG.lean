/-
  The reference's near, Near, nearRel.
  The reference's Near.
-/
import Derived.Test.YthijagpnpcpcbaaGreatQNrC
import Derived.Test.YthijagpnpcpcbaaGreatQNrE
import Derived.Test.YthijagpnpcpcbaaGreatQRmN
namespace Go.Proofs.YthijagpnpcpcbaaGreat
open Go.RowKit Go.Sort
/-- How deep what is visited stands. -/
theorem Vs.dep {m : Cm} {t : Uy} {d : Int} {x : DT} {v : Int × DT} (h : Vs m t d x v) : d ≤ v.1 ∧ v.1 ≤ d + x.n := by
  induction h with
  | here d x h => exact ⟨Int.le_refl _, by have := x.n_pos; omega⟩
  | kid t d c k i o s l q x v hk hr he hs hl hx h ih =>
    have h1 := n_mem (List.mem_of_getElem? hx)
    have h2 := nL_sum (List.mem_of_getElem? hl)
    rw [DT.n_node]
    have h3 : d ≤ Go.Proofs.YthijagpnpcpcbaaGreat.dep t c i q d ∧ Go.Proofs.YthijagpnpcpcbaaGreat.dep t c i q d ≤ d + 1 := by
      unfold Go.Proofs.YthijagpnpcpcbaaGreat.dep
      split
      · split <;> omega
      · split <;> omega
      · omega
    omega
  | key d c b k v hb hc h ih => rw [DT.n_node] at ih ⊢; exact ih
/-- What Near comes to. -/
def NePost (P : Prop) (w : World) (e : Ending) (w' : World) : Prop := ∃ b : Bool, e = .returned (.bool b) ∧ Below w.heap.size w w' ∧ (b = true → P)
theorem near_any (n : Int) (w : World) : Calls Tryz.prog 28 #[.int .i64 n] w fun e w' => e = .returned (.bool (decide (-1000000000 ≤ n) && decide (n ≤ 1000000000))) ∧ w' = w := by
  by_cases h1 : -1000000000 ≤ n
  · go_enter Tryz.func28, Tryz.ntmps28
    go_wp2
    go_ret
    exact ⟨by simp [h1], rfl⟩
  · go_enter Tryz.func28, Tryz.ntmps28
    go_wp2
    go_ret
    exact ⟨by simp; omega, rfl⟩
def HNe (N : Nat) : Prop := ∀ (l : List DT) (A : Option Addr) (cap : Nat) (S : Nat → Prop) (w : World) (NA : Option Addr) (ncap : Nat) (ns : List Int), nL l < N → nL l ≤ 1048576 → DRow S w 14 A cap l → (∀ x, x ∈ l → UIn S w .expr x) → (∀ k, S k → k < w.heap.size) → IRow w NA ncap ns → ns.length ≤ 1048576 → Calls Tryz.prog 10 #[.slice A l.length cap, .slice NA ns.length ncap] w (NePost (∀ x, x ∈ l → NearT .expr x) w)
def HNr (N : Nat) : Prop := ∀ (r : DT) (S : Nat → Prop) (w : World), r.n < N → r.n ≤ 1048576 → UIn S w .rel r → (∀ k, S k → k < w.heap.size) → Calls Tryz.prog 29 #[.agg r.c.toArray] w (NePost (NearT .rel r) w)
theorem IRow.nil (w : World) : IRow w none 0 [] := ⟨Nat.le_refl _, Nat.zero_le _, fun i k h => by simp at h⟩
set_option maxRecDepth 100000 in
set_option maxHeartbeats 4000000 in
theorem nearRel_step (N : Nat) (hn : HNe N) (hr : HNr N) : HNr (N + 1) := by
  intro r S w hrn hrn2 hx hS
  obtain ⟨k, op, nm, all, off, cnt, T, tc, tz, R, rc, rz, I, ic, iz, X, xc, xz, SS, sc, sz, G, gc, gz, WN, wc', wz, K, kc, kz, he⟩ := hx.re
  have c6 : r.c[6]? = some (.slice I iz.length ic) := by rw [he.e]; rfl
  have hkid : r.kid 2 = iz := by rw [he.e]; rfl
  have hizn : nL iz + 1 ≤ r.n := by rw [he.e, DT.n_node]; simp; omega
  have hrel := relU_n hx
  have hlen := hx.len
  obtain ⟨w1, hw1⟩ : ∃ w1, w.alloc (.cells r.c.toArray 59) = w1 := ⟨_, rfl⟩
  have hz1 : w1.heap.size = w.heap.size + 1 := by rw [← hw1]; simp
  have hb1 : Bk w1 w.heap.size r.c 59 := by rw [← hw1]; exact Bk.new w r.c _
  have hbw : Below w.heap.size w w1 := by rw [← hw1]; exact bel1 _ _
  have Hi : Hid ((Tryz.prog.info? 59).map (·.size) = some r.c.length) := by show _ = _; rw [hlen]; exact uI59
  have Hx := Lib.hid hx
  have He := Lib.hid he
  have H1 := Lib.hid hb1
  have Hbw := Lib.hid hbw
  have C6 := Lib.hid c6
  have Hkid := Lib.hid hkid
  have Hrn := Lib.hid hrn
  have Hrn2 := Lib.hid hrn2
  have Hizn := Lib.hid hizn
  have Hrel := Lib.hid hrel
  have HS := Lib.hid hS
  obtain ⟨n, hn'⟩ : ∃ n, iz.length = n := ⟨_, rfl⟩
  have Hlen := Lib.hid hn'
  have Hn := Lib.hid hn
  have Hr := Lib.hid hr
  clear hb1 hbw hx c6 he hkid hrn hrn2 hizn hrel hlen hS hn' hn hr
  go_enter Tryz.func29, Tryz.ntmps29
  go_upto_block 0 with (refine wpList_load_one rfl 29 _ rfl _ Tryz.underlying29 rfl _ 6 _ _ _ rfl H1.out C6.out ?_)
  rw [Hlen.out]
  go_cut [] (fun wx => Below w1.heap.size w1 wx ∧ ∀ y, y ∈ iz → NearT .rel y)
  case first =>
    go_wp2_with fail
    go_loopw [8] (fun i wr => ∃ j : Nat, j ≤ n ∧ i = .int .i64 j ∧ Below w1.heap.size w1 wr ∧ ∀ (q : Nat) (y : DT), q < j → iz[q]? = some y → NearT .rel y) (fun i _ => n - (intOf i).toNat)
    case atStart => exact ⟨0, Nat.zero_le _, rfl, Below.refl _ _, fun q y h => by omega⟩
    case round =>
      obtain ⟨j, hj, rfl, hb, hq⟩ := hrel
      have Hb := Lib.hid hb
      have Hq := Lib.hid hq
      clear hq
      by_cases hlt : j < n
      · have hsrc : ∀ k, S k → wr.heap[k]? = w.heap[k]? := fun k hk => by have h1 := HS.out k hk; exact (hb.block k (by omega)).trans (Hbw.out.block k h1)
        obtain ⟨x, ad, hx, rfl, hbk, hat⟩ := (He.out.ri.keep hsrc (fun _ h => h)).get (show j < iz.length by rw [Hlen.out]; exact hlt)
        have hxi := (He.out.ii x (mem_of_get? hx)).keep hsrc fun _ h => h
        have hxn := n_mem (mem_of_get? hx)
        have hx6 := hxi.len
        have HiE : Hid ((Tryz.prog.info? 59).map (·.size) = some x.c.length) := by show _ = _; rw [hx6]; exact uI59
        have HiE2 : Hid ((Tryz.prog.info? 59).map (·.size) = some x.c.toArray.size) := by show _ = _; rw [List.size_toArray, hx6]; exact uI59
        have Hz : Hid (x.c.toArray.size = 14) := by show _ = _; rw [List.size_toArray, hx6]; rfl
        have H1x := Lib.hid (all_one hxi.ones)
        have Hat := Lib.hid (at_add hat)
        obtain ⟨W2, hW2⟩ : ∃ W2, wr.alloc (.cells x.c.toArray 59) = W2 := ⟨_, rfl⟩
        have Hcell : Hid (∀ j u, x.c[j]? = some u → W2.cell? ((⟨wr.heap.size, 0, none⟩ : Addr).add j) = some u) := by show ∀ j u, _ → _; rw [← hW2]; exact new_cellsT wr x.c 59
        have hbW2 : Below wr.heap.size wr W2 := by rw [← hW2]; exact bel1 _ _
        have hws := hb.size
        have hcall : Hid (Calls Tryz.prog 29 #[.agg x.c.toArray] W2 (NePost (NearT .rel x) W2)) :=
          Hr.out x S W2 (by have := Hrn.out; have := Hizn.out; omega) (by have := Hrn2.out; have := Hizn.out; omega) (hxi.keep (fun k hk => hbW2.block k (by have := HS.out k hk; omega)) fun _ h => h) fun k hk => by have := HS.out k hk; have := hbW2.size; omega
        have Hx := Lib.hid hx
        have HbW2 := Lib.hid hbW2
        have HW2 := Lib.hid hW2
        have hjn : j < 1048576 := by have := len_nL iz; have := Hlen.out; have := Hizn.out; have := Hrn2.out; omega
        clear hat hxi hx6 hx hW2 hbW2 hsrc hb hxn
        go_upto_region 4 with (first | (refine wpList_load_st rfl 59 _ rfl _ Tryz.underlying59 rfl (ad.add (j * 14)) x.c HiE.out rfl Hat.out ?_) | (refine wpList_store_st rfl 59 _ _ rfl _ x.c.toArray HiE2.out Hz.out.symm H1x.out rfl rfl ?_))
        rw [HW2.out]
        go_upto_if 14 with (first
          | (refine wpList_load_st rfl 59 _ rfl _ Tryz.underlying59 rfl ⟨wr.heap.size, 0, none⟩ x.c HiE.out rfl Hcell.out ?_)
          | (go_at_call 29; refine hcall.out.mono ?_; rintro e w3 ⟨bb, rfl, hb3, hP⟩; have Hb3 := Lib.hid hb3; have HP := Lib.hid hP; clear hb3 hP))
        have Hbel : Hid (Below w1.heap.size w1 w3) := belTr Hb.out (belLo (belTr HbW2.out (belLo Hb3.out HbW2.out.size)) hws)
        cases bb with
        | false =>
          go_wp2_with fail
          go_ret
          exact ⟨false, rfl, belTr Hbw.out (belLo Hbel.out (by omega)), fun h => by cases h⟩
        | true =>
          go_wp2_with fail
          go_roundw
          case rel =>
            refine ⟨j + 1, by omega, by simp, Hbel.out, fun q y hq hy => ?_⟩
            by_cases hqj : q = j
            · subst hqj
              rw [Hx.out] at hy
              cases hy
              exact HP.out rfl
            · exact Hq.out q y (by omega) hy
          case measure => simp [intOf]; omega
      · obtain rfl : j = n := by omega
        go_wp2_with fail
        go_meet
        refine ⟨Hb.out, fun y hy => ?_⟩
        obtain ⟨q, hq⟩ := List.getElem?_of_mem hy
        exact Hq.out q y (by rw [← Hlen.out]; exact (List.getElem?_eq_some_iff.1 hq).1) hq
  case rest =>
    obtain ⟨hbc, hin⟩ := hcut
    have hsc := hbc.size
    have H2 : Hid (Bk wc w.heap.size r.c 59) := (hbc.block _ (by omega)).trans H1.out
    have hbe : Below w.heap.size w wc := belTr Hbw.out (belLo hbc (by omega))
    have hxc := Hx.out.keep (w' := wc) (fun k hk => hbe.block k (HS.out k hk)) fun _ h => h
    have hcall : Hid (Calls Tryz.prog 50 #[.agg r.c.toArray] wc fun e w3 => ∃ (A : Option Addr) (cap : Nat), e = .returned (.slice A (relU r).length cap) ∧ Hid (Below wc.heap.size wc w3) ∧ Hid (DRow (fun k => k < w3.heap.size) w3 14 A cap (relU r))) := by
      obtain ⟨hin2, hnn⟩ := fg_in r.n .rel .rel r rfl (Nat.le_refl _) Hrn2.out hxc
      have hcc := relE_cc hxc (Nat.le_refl _)
      have := rExprsOf_any (fg r.n .rel r) S wc hin2 (fun k hk => by have := HS.out k hk; have := hbe.size; omega) (by have := Hrn2.out; omega)
      rw [fg_c] at this
      refine this.mono ?_
      rintro e w3 ⟨v, rfl, hown, hb3⟩
      rw [cc_flatMap, hcc, ← cc_flatMap, cc_len hcc] at hown
      obtain ⟨A, cap, rfl, hrow, _⟩ := own_structs hown rfl fun y hy => (relU_in hxc y hy).len
      exact ⟨A, cap, rfl, hb3, hrow.keep (fun _ _ => rfl) fun k hk => hk.2.2⟩
    have Hbc := Lib.hid hbc
    have Hin := Lib.hid hin
    have Hbe := Lib.hid hbe
    have Hxc := Lib.hid hxc
    clear hbc hin hbe hxc
    go_wp2_with (first
      | (refine wpList_load_part rfl 59 _ rfl _ Tryz.underlying59 rfl _ _ _ _ r.c rfl H2.out Hi.out (by rw [List.drop_zero, List.take_length]) ?_)
      | (go_at_call 50; refine hcall.out.mono ?_; rintro e w3 ⟨A, cap, rfl, B3, R3⟩; have Hn3 : Hid (Calls Tryz.prog 10 #[.slice A (relU r).length cap, .slice none 0 0] w3 (NePost (∀ x, x ∈ relU r → NearT .expr x) w3)) := Hn.out (relU r) A cap (fun k => k < w3.heap.size) w3 none 0 [] (by have := Hrel.out; have := Hrn.out; omega) (by have := Hrel.out; have := Hrn2.out; omega) R3.out (fun y hy => (relU_in Hxc.out y hy).keep (fun k hk => B3.out.block k (by have := HS.out k hk; have := Hbe.out.size; omega)) fun k hk => by have := HS.out k hk; have := Hbe.out.size; have := B3.out.size; omega) (fun _ h => h) (IRow.nil w3) (by simp))
      | (go_at_call 10; refine Hn3.out.mono ?_; rintro e w4 ⟨bb, rfl, b4, hP⟩))
    go_ret
    refine ⟨bb, rfl, belTr Hbe.out (belLo (belTr B3.out (belLo b4 B3.out.size)) Hbe.out.size), fun h => near_rel Hx.out (by rw [Hkid.out]; exact Hin.out) (hP h)⟩
end Go.Proofs.YthijagpnpcpcbaaGreat
namespace Go.Proofs.YthijagpnpcpcbaaGreat
open Go.RowKit Go.Sort
theorem IRow.cell {w : World} {A : Option Addr} {cap : Nat} {l : List Int} (h : IRow w A cap l) {j : Nat} (hj : j < l.length) : ∃ g, A = some ⟨g, 0, none⟩ ∧ w.cell? ⟨g, j, none⟩ = some (.int .i64 l[j]) := by
  obtain ⟨g, _, _, e, _, hc⟩ := h.2.2 j l[j] (List.getElem?_eq_getElem hj)
  exact ⟨g, e, hc⟩
set_option maxRecDepth 100000 in
set_option maxHeartbeats 8000000 in
theorem near_step (N : Nat) (hn : HNe N) (hr : HNr N) : HNe (N + 1) := by
  intro l A cap S w NA ncap ns hln hln2 hl hin hS hns hnn
  have Hl := Lib.hid hl
  have Hin := Lib.hid hin
  have HS := Lib.hid hS
  have Hns := Lib.hid hns
  have Hln := Lib.hid hln
  have Hln2 := Lib.hid hln2
  have Hn := Lib.hid hn
  have Hr := Lib.hid hr
  obtain ⟨m, hm⟩ : ∃ m, ns.length = m := ⟨_, rfl⟩
  obtain ⟨n, hlen⟩ : ∃ n, l.length = n := ⟨_, rfl⟩
  have Hlen := Lib.hid hlen
  have Hm := Lib.hid hm
  have hnn2 : n ≤ 1048576 := by have := len_nL l; omega
  rw [hm, hlen]
  rw [hm] at hnn
  clear hl hin hS hns hln hln2 hn hr hm hlen
  go_enter Tryz.func10, Tryz.ntmps10
  go_upto_block 0 with (fail)
  go_cut [] (fun wx => wx = w)
  case first =>
    go_wp2_with fail
    go_loopw [13] (fun i wr => ∃ j : Nat, j ≤ m ∧ i = .int .i64 j ∧ wr = w) (fun i _ => m - (intOf i).toNat)
    case atStart => exact ⟨0, Nat.zero_le _, rfl, rfl⟩
    case round =>
      obtain ⟨j, hj, rfl, rfl⟩ := hrel
      by_cases hlt : j < m
      · have hjl : j < ns.length := by rw [Hm.out]; exact hlt
        obtain ⟨g, rfl, hc⟩ := Hns.out.cell hjl
        obtain ⟨v, hv⟩ : ∃ v, ns[j] = v := ⟨_, rfl⟩
        rw [hv] at hc
        clear hv hjl
        have hcall := Lib.hid (near_any v wr)
        cases hb : (decide (-1000000000 ≤ v) && decide (v ≤ 1000000000)) with
        | true =>
          rw [hb] at hcall
          clear hb
          go_wp2_with (go_at_call 28; refine hcall.out.mono ?_; rintro e w' ⟨rfl, rfl⟩)
          go_roundw
          case rel => exact ⟨j + 1, by omega, by simp, by first | trivial | rfl⟩
          case measure => simp [intOf]; omega
        | false =>
          rw [hb] at hcall
          clear hb
          go_wp2_with (go_at_call 28; refine hcall.out.mono ?_; rintro e w' ⟨rfl, rfl⟩)
          go_ret
          exact ⟨false, rfl, Below.refl _ _, fun h => by cases h⟩
      · obtain rfl : j = m := by omega
        go_wp2_with fail
        go_meet
        exact rfl
  case rest =>
    subst hcut
    go_wp2_with fail
    go_loopw [23] (fun i wr => ∃ j : Nat, j ≤ n ∧ i = .int .i64 j ∧ Below wc.heap.size wc wr ∧ ∀ (q : Nat) (y : DT), q < j → l[q]? = some y → NearT .expr y) (fun i _ => n - (intOf i).toNat)
    case atStart => exact ⟨0, Nat.zero_le _, rfl, Below.refl _ _, fun q y h => by omega⟩
    case round =>
      obtain ⟨j, hj, rfl, hb, hq⟩ := hrel
      have Hb := Lib.hid hb
      have Hq := Lib.hid hq
      clear hq
      by_cases hlt : j < n
      · have hsrc : ∀ k, S k → wr.heap[k]? = wc.heap[k]? := fun k hk => hb.block k (HS.out k hk)
        obtain ⟨x, ad, hx, rfl, hbk, hat⟩ := (Hl.out.keep hsrc (fun _ h => h)).get (show j < l.length by rw [Hlen.out]; exact hlt)
        have hxi := (Hin.out x (mem_of_get? hx)).keep hsrc fun _ h => h
        have hxn := n_mem (mem_of_get? hx)
        have hx6 := hxi.len
        obtain ⟨_, u2, _, _, _⟩ := hxi.upAt
        obtain ⟨a, F, fc, fz, V, vc, vz, A2, ac, az, B, sc, sz, he⟩ := hxi.ex
        have c12 : x.c[12]? = some (.slice A2 az.length ac) := by rw [he.e]; rfl
        have c13 : x.c[13]? = some (.slice B sz.length sc) := by rw [he.e]; rfl
        have hk2 : x.kid 2 = az := by rw [he.e]; rfl
        have hk3 : x.kid 3 = sz := by rw [he.e]; rfl
        have hxnn : nL az + nL sz + 1 ≤ x.n := by rw [he.e, DT.n_node]; simp; omega
        have HiE : Hid ((Tryz.prog.info? 31).map (·.size) = some x.c.length) := by show _ = _; rw [hx6]; exact uI31
        have HiE2 : Hid ((Tryz.prog.info? 31).map (·.size) = some x.c.toArray.size) := by show _ = _; rw [List.size_toArray, hx6]; exact uI31
        have Hz : Hid (x.c.toArray.size = 14) := by show _ = _; rw [List.size_toArray, hx6]; rfl
        have H1x := Lib.hid (all_one hxi.ones)
        have Hat := Lib.hid (at_add hat)
        obtain ⟨W2, hW2⟩ : ∃ W2, wr.alloc (.cells x.c.toArray 31) = W2 := ⟨_, rfl⟩
        have Hk : Hid (Bk W2 wr.heap.size x.c 31) := by show Bk _ _ _ _; rw [← hW2]; exact Bk.new wr x.c _
        have hbW2 : Below wr.heap.size wr W2 := by rw [← hW2]; exact bel1 _ _
        have hws := hb.size
        have hWs := hbW2.size
        have kc12 : W2.cell? ⟨wr.heap.size, 12, none⟩ = some (.slice A2 az.length ac) := by rw [Hk.out.cell]; exact c12
        obtain ⟨up, hup⟩ : ∃ up, upOf x.c = up := ⟨_, rfl⟩
        rw [hup] at u2
        have hnear := Lib.hid (near_any up W2)
        have hbe : Below wc.heap.size wc W2 := belTr hb (belLo hbW2 hws)
        have hcall : Hid (Calls Tryz.prog 10 #[.slice A2 az.length ac, .slice none 0 0] W2 (NePost (∀ y, y ∈ az → NearT .expr y) W2)) :=
          Hn.out az A2 ac S W2 none 0 [] (by have := Hln.out; omega) (by have := Hln2.out; omega) (he.ra.keep (fun k hk => hbW2.block k (by have := HS.out k hk; omega)) fun _ h => h) (fun y hy => (he.ia y hy).keep (fun k hk => hbW2.block k (by have := HS.out k hk; omega)) fun _ h => h) (fun k hk => by have := HS.out k hk; omega) (IRow.nil _) (by simp)
        have Hx := Lib.hid hx
        have HsrcR := Lib.hid hsrc
        have Hxi := Lib.hid hxi
        have He := Lib.hid he
        have HbW2 := Lib.hid hbW2
        have HW2 := Lib.hid hW2
        have Hbe := Lib.hid hbe
        have U2 := Lib.hid u2
        have C13 := Lib.hid c13
        have Hup := Lib.hid hup
        have Hk2 := Lib.hid hk2
        have Hk3 := Lib.hid hk3
        have Hxnn := Lib.hid hxnn
        have Hxn := Lib.hid hxn
        have hjn : j < 1048576 := by omega
        clear hat hxi hx6 hx hW2 hbW2 hsrc hb hxn he u2 c12 c13 hk2 hk3 hxnn hbe hup hWs
        go_upto_region 10 with (first | (refine wpList_load_st rfl 31 _ rfl _ Tryz.underlying31 rfl (ad.add (j * 14)) x.c HiE.out rfl Hat.out ?_) | (refine wpList_store_st rfl 31 _ _ rfl _ x.c.toArray HiE2.out Hz.out.symm H1x.out rfl rfl ?_))
        rw [HW2.out]
        cases hbv : (decide (-1000000000 ≤ up) && decide (up ≤ 1000000000)) with
        | false =>
          rw [hbv] at hnear
          clear hbv
          go_wp2_with (first
            | (refine wpList_load_one rfl 3 _ rfl _ Tryz.underlying3 rfl _ 2 _ _ _ rfl Hk.out U2.out ?_)
            | (go_at_call 28; refine hnear.out.mono ?_; rintro e w' ⟨rfl, rfl⟩))
          go_ret
          exact ⟨false, rfl, Hbe.out, fun h => by cases h⟩
        | true =>
          rw [hbv] at hnear
          have hnv : -1000000000 ≤ up ∧ up ≤ 1000000000 := by simpa using hbv
          have Hnv := Lib.hid hnv
          clear hbv hnv
          go_upto_if 36 with (first
            | (refine wpList_load_one rfl 3 _ rfl _ Tryz.underlying3 rfl _ 2 _ _ _ rfl Hk.out U2.out ?_)
            | (go_at_call 28; refine hnear.out.mono ?_; rintro e w' ⟨rfl, rfl⟩)
            | (go_at_call 10; refine hcall.out.mono ?_; rintro e w3 ⟨bb, rfl, hb3, hP⟩; have Hb3 := Lib.hid hb3; have HP := Lib.hid hP; clear hb3 hP))
          have Hbe3 : Hid (Below wc.heap.size wc w3) := belTr Hbe.out (belLo Hb3.out (by have := HbW2.out.size; omega))
          cases bb with
          | false =>
            go_wp2_with fail
            go_ret
            exact ⟨false, rfl, Hbe3.out, fun h => by cases h⟩
          | true =>
            have hz3 := Hb3.out.size
            have hwz := HbW2.out.size
            have Hk3b : Hid (Bk w3 wr.heap.size x.c 31) := (Hb3.out.block _ Hk.out.lt).trans Hk.out
            obtain ⟨ms, hms⟩ : ∃ ms, sz.length = ms := ⟨_, rfl⟩
            have Hms := Lib.hid hms
            clear hms kc12
            go_wp2_with (refine wpList_load_one rfl 29 _ rfl _ Tryz.underlying29 rfl _ 13 _ _ _ rfl Hk3b.out C13.out ?_)
            rw [Hms.out]
            go_loopw [40] (fun i wr => ∃ j : Nat, j ≤ ms ∧ i = .int .i64 j ∧ Below wc.heap.size wc wr ∧ ∀ (q : Nat) (y : DT), q < j → sz[q]? = some y → NearT .rel y) (fun i _ => ms - (intOf i).toNat)
            case atStart => exact ⟨0, Nat.zero_le _, rfl, Hbe3.out, fun q y h => by omega⟩
            case round =>
              rename World => wq
              obtain ⟨jj, hjj, rfl, hb, hq⟩ := hrel
              have Hb' := Lib.hid hb
              have Hq' := Lib.hid hq
              clear hq
              by_cases hlt2 : jj < ms
              · have hsrc2 : ∀ k, S k → wq.heap[k]? = wc.heap[k]? := fun k hk => hb.block k (HS.out k hk)
                have hsq : ∀ k, S k → wq.heap[k]? = wr.heap[k]? := fun k hk => (hsrc2 k hk).trans (HsrcR.out k hk).symm
                obtain ⟨x2, ad2, hx2, rfl, hbk2, hat2⟩ := (He.out.rs.keep hsq (fun _ h => h)).get (show jj < sz.length by rw [Hms.out]; exact hlt2)
                have hxi2 := (He.out.js x2 (mem_of_get? hx2)).keep hsq fun _ h => h
                have hxn2 := n_mem (mem_of_get? hx2)
                have hx62 := hxi2.len
                have HiE' : Hid ((Tryz.prog.info? 59).map (·.size) = some x2.c.length) := by show _ = _; rw [hx62]; exact uI59
                have HiE2' : Hid ((Tryz.prog.info? 59).map (·.size) = some x2.c.toArray.size) := by show _ = _; rw [List.size_toArray, hx62]; exact uI59
                have Hz' : Hid (x2.c.toArray.size = 14) := by show _ = _; rw [List.size_toArray, hx62]; rfl
                have H1x' := Lib.hid (all_one hxi2.ones)
                have Hat' := Lib.hid (at_add hat2)
                obtain ⟨W3, hW3⟩ : ∃ W3, wq.alloc (.cells x2.c.toArray 59) = W3 := ⟨_, rfl⟩
                have Hcell' : Hid (∀ j u, x2.c[j]? = some u → W3.cell? ((⟨wq.heap.size, 0, none⟩ : Addr).add j) = some u) := by show ∀ j u, _ → _; rw [← hW3]; exact new_cellsT wq x2.c 59
                have hbW3 : Below wq.heap.size wq W3 := by rw [← hW3]; exact bel1 _ _
                have hqs := hb.size
                have hcall' : Hid (Calls Tryz.prog 29 #[.agg x2.c.toArray] W3 (NePost (NearT .rel x2) W3)) :=
                  Hr.out x2 S W3 (by have := Hln.out; have := Hxn.out; have := Hxnn.out; omega) (by have := Hln2.out; have := Hxn.out; have := Hxnn.out; omega) (hxi2.keep (fun k hk => hbW3.block k (by have := HS.out k hk; omega)) fun _ h => h) fun k hk => by have := HS.out k hk; have := hbW3.size; omega
                have Hx2 := Lib.hid hx2
                have HbW3 := Lib.hid hbW3
                have HW3 := Lib.hid hW3
                have hjn2 : jj < 1048576 := by have := len_nL sz; have := Hms.out; have := Hxn.out; have := Hxnn.out; have := Hln2.out; omega
                clear hat2 hxi2 hx62 hx2 hW3 hbW3 hsrc2 hsq hb hxn2
                go_upto_region 15 with (first | (refine wpList_load_st rfl 59 _ rfl _ Tryz.underlying59 rfl (ad2.add (jj * 14)) x2.c HiE'.out rfl Hat'.out ?_) | (refine wpList_store_st rfl 59 _ _ rfl _ x2.c.toArray HiE2'.out Hz'.out.symm H1x'.out rfl rfl ?_))
                rw [HW3.out]
                go_upto_if 46 with (first
                  | (refine wpList_load_st rfl 59 _ rfl _ Tryz.underlying59 rfl ⟨wq.heap.size, 0, none⟩ x2.c HiE'.out rfl Hcell'.out ?_)
                  | (go_at_call 29; refine hcall'.out.mono ?_; rintro e w4 ⟨bb, rfl, hb4, hP4⟩; have Hb4 := Lib.hid hb4; have HP4 := Lib.hid hP4; clear hb4 hP4))
                have Hbel : Hid (Below wc.heap.size wc w4) := belTr Hb'.out (belLo (belTr HbW3.out (belLo Hb4.out HbW3.out.size)) hqs)
                cases bb with
                | false =>
                  go_wp2_with fail
                  go_ret
                  exact ⟨false, rfl, Hbel.out, fun h => by cases h⟩
                | true =>
                  go_wp2_with fail
                  go_roundw
                  case rel =>
                    refine ⟨jj + 1, by omega, by simp, Hbel.out, fun q y hq hy => ?_⟩
                    by_cases hqj : q = jj
                    · subst hqj
                      rw [Hx2.out] at hy
                      cases hy
                      exact HP4.out (by simp)
                    · exact Hq'.out q y (by omega) hy
                  case measure => simp [intOf]; omega
              · obtain rfl : jj = ms := by omega
                go_wp2_with fail
                go_roundw
                case rel =>
                  refine ⟨j + 1, by omega, by simp, Hb'.out, fun q y hq hy => ?_⟩
                  by_cases hqj : q = j
                  · subst hqj
                    rw [Hx.out] at hy
                    cases hy
                    refine near_expr Hxi.out (by rw [Hup.out]; exact Hnv.out) (by rw [Hk2.out]; exact HP.out (by simp)) (by rw [Hk3.out]; intro y hy; obtain ⟨q, hq⟩ := List.getElem?_of_mem hy; exact Hq'.out q y (by rw [← Hms.out]; exact (List.getElem?_eq_some_iff.1 hq).1) hq)
                  · exact Hq.out q y (by omega) hy
                case measure => simp [intOf]; omega
      · obtain rfl : j = n := by omega
        go_wp2_with fail
        go_ret
        refine ⟨true, rfl, Hb.out, fun _ y hy => ?_⟩
        obtain ⟨q, hq⟩ := List.getElem?_of_mem hy
        exact Hq.out q y (by rw [← Hlen.out]; exact (List.getElem?_eq_some_iff.1 hq).1) hq
end Go.Proofs.YthijagpnpcpcbaaGreat

