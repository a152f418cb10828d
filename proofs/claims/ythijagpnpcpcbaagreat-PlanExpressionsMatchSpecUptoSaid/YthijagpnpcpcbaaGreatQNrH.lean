/-
  The reference's Near, for all trees. The reference's Conjuncts.
-/
import Derived.Test.YthijagpnpcpcbaaGreatQGtTb
import Derived.Test.YthijagpnpcpcbaaGreatQNrG
namespace Go.Proofs.YthijagpnpcpcbaaGreat
open Go.RowKit Go.Sort
theorem near_all : ∀ N, HNe N ∧ HNr N := by
  intro N
  induction N with
  | zero => exact ⟨fun _ _ _ _ _ _ _ _ h => by omega, fun _ _ _ h => by omega⟩
  | succ N ih => exact ⟨near_step N ih.1 ih.2, nearRel_step N ih.1 ih.2⟩
theorem rNear_any (l : List DT) (A : Option Addr) (cap : Nat) (S : Nat → Prop) (w : World) (NA : Option Addr) (ncap : Nat) (ns : List Int) (hn : nL l ≤ 1048576) (hl : DRow S w 14 A cap l) (hin : ∀ x, x ∈ l → UIn S w .expr x) (hS : ∀ k, S k → k < w.heap.size) (hns : IRow w NA ncap ns) (hnn : ns.length ≤ 1048576) :
    Calls Tryz.prog 10 #[.slice A l.length cap, .slice NA ns.length ncap] w (NePost (∀ x, x ∈ l → NearT .expr x) w) :=
  (near_all (nL l + 1)).1 l A cap S w NA ncap ns (Nat.lt_succ_self _) hn hl hin hS hns hnn
/-- What the reference's Conjuncts comes to. -/
def RcPost (_B : Nat) (l : List DT) (w : World) (e : Ending) (w' : World) : Prop :=
  ∃ (A : Option Addr) (cap : Nat), e = .returned (.slice A l.length cap) ∧ Below w.heap.size w w' ∧ DRow (fun k => w.heap.size ≤ k ∧ k < w'.heap.size) w' 14 A cap l
set_option maxRecDepth 100000 in
set_option maxHeartbeats 4000000 in
theorem rConjuncts_any (B : Nat) : ∀ (N : Nat) (x : DT) (w : World), x.n ≤ N → x.n ≤ 1048576 → B ≤ w.heap.size → UIn (fun k => k < B) w .expr x → Calls Tryz.prog 4 #[.agg x.c.toArray] w (RcPost B (conj N x) w) := by
  intro N
  induction N with
  | zero => intro x w hn; have := x.n_pos; omega
  | succ N ih =>
    intro x w hn hn2 hB hx
    obtain ⟨i0, hi, hrest⟩ := Option.map_eq_some_iff.1 infoExp_u
    simp only [Prod.mk.injEq] at hrest
    obtain ⟨hz0, isz, iby⟩ := hrest
    obtain ⟨z, iz, hzs⟩ := Option.map_eq_some_iff.1 hz0
    obtain ⟨w1, hw1⟩ : ∃ w1, w.alloc (.cells x.c.toArray 31) = w1 := ⟨_, rfl⟩
    have hz1 : w1.heap.size = w.heap.size + 1 := by rw [← hw1]; simp
    have hb1 : Bk w1 w.heap.size x.c 31 := by rw [← hw1]; exact Bk.new w x.c _
    have hbw : Below w.heap.size w w1 := by rw [← hw1]; exact bel1 _ _
    have hlen : x.c.length = 14 := hx.len
    have hones := hx.ones
    have Hi : Hid ((Tryz.prog.info? 31).map (·.size) = some x.c.length) := by show _ = _; rw [hlen]; exact uClExpr1
    obtain ⟨a, F, fc, fz, V, vc, vz, A, ac, az, C, sc, sz, he⟩ := hx.ex
    have h0 : x.c[0]? = some (.int .i64 a.k) := by rw [he.e]; rfl
    have h1 : x.c[1]? = some (.int .i64 a.op) := by rw [he.e]; rfl
    have h12 : x.c[12]? = some (.slice A az.length ac) := by rw [he.e]; rfl
    have hand : isAndB x = (decide (a.k = 3) && decide (a.op = 6) && decide (az.length = 2)) := by rw [he.e]; rfl
    have harg : argsOf x = az := by rw [he.e]; rfl
    have hxn : nL az + 1 ≤ x.n := by rw [he.e, DT.n_node]; simp; omega
    have kc1 : w1.cell? ⟨w.heap.size, 1, none⟩ = some (.int .i64 a.op) := by rw [hb1.cell]; exact h1
    have kc12 : w1.cell? ⟨w.heap.size, 12, none⟩ = some (.slice A az.length ac) := by rw [hb1.cell]; exact h12
    obtain ⟨kk, hkk⟩ : ∃ kk, a.k = kk := ⟨_, rfl⟩
    obtain ⟨oo, hoo⟩ : ∃ oo, a.op = oo := ⟨_, rfl⟩
    obtain ⟨nn, hnn⟩ : ∃ nn, az.length = nn := ⟨_, rfl⟩
    rw [hkk, hoo, hnn] at hand
    rw [hkk] at h0
    rw [hoo] at kc1
    rw [hnn] at kc12
    have H0 := Lib.hid h0
    have H1 := Lib.hid hb1
    have Hbw := Lib.hid hbw
    have He := Lib.hid he
    have Hnn := Lib.hid hnn
    have Hxn := Lib.hid hxn
    have Hih := Lib.hid ih
    have Harg := Lib.hid harg
    have Hand := Lib.hid hand
    have Hx := Lib.hid hx
    have Hn := Lib.hid hn
    have Hn2 := Lib.hid hn2
    have Hz : Hid (x.c.toArray.size = 14) := by show _ = _; rw [List.size_toArray, hlen]
    clear h0 h1 h12 hb1 hbw he hnn hxn ih harg hand hx hkk hoo hn hn2
    by_cases q1 : kk = 3
    · by_cases q2 : oo = 6
      · by_cases q3 : nn = 2
        ·
          go_enter Tryz.func4, Tryz.ntmps4
          obtain ⟨p, q, rfl⟩ : ∃ p q, az = [p, q] := by
            have h2 : az.length = 2 := Hnn.out.trans q3
            match az, h2 with
            | [p, q], _ => exact ⟨p, q, rfl⟩
          obtain ⟨p', ad, hp, rfl, hbp, hatp⟩ := He.out.ra.get (i := 0) (by simp)
          obtain ⟨q', ad', hq, hadd, hbq, hatq⟩ := He.out.ra.get (i := 1) (by simp)
          cases hadd
          simp at hp hq
          subst hp hq
          have hip := He.out.ia p (by simp)
          have hiq := He.out.ia q (by simp)
          have hac := He.out.ra.1
          have hac2 := He.out.ra.2.1
          have hxn := Hxn.out
          rw [nL_cons, nL_cons] at hxn
          simp at hac
          have hpn := p.n_pos
          have hqn := q.n_pos
          have Hq : Hid (∀ w' : World, (∀ k, k < B → w'.heap[k]? = w.heap[k]?) → ∀ j u, q.c[j]? = some u → w'.cell? ((ad.add (1 * 14)).add j) = some u) := fun w' hw' j u hu => at_add (DT.At.keep hatq (w' := w') (S := fun k => k < B) hw' (by rw [block_add]; exact hbq)) j u hu
          have Hp : Hid (∀ w' : World, (∀ k, k < B → w'.heap[k]? = w.heap[k]?) → ∀ j u, p.c[j]? = some u → w'.cell? ((ad.add (0 * 14)).add j) = some u) := fun w' hw' j u hu => at_add (DT.At.keep hatp (w' := w') (S := fun k => k < B) hw' (by rw [block_add]; exact hbp)) j u hu
          have ipi := Lib.hid (show (Tryz.prog.info? 31).map (·.size) = some p.c.length by rw [hip.len]; exact uClExpr1)
          have iqi := Lib.hid (show (Tryz.prog.info? 31).map (·.size) = some q.c.length by rw [hiq.len]; exact uClExpr1)
          have Hc : Hid (conj (N + 1) x = conj N p ++ conj N q) := by show _ = _; conv => lhs; unfold conj; rw [Hand.out, Harg.out]; simp [q1, q2, q3]
          have hwB : ∀ k, k < B → w1.heap[k]? = w.heap[k]? := fun k hk => Hbw.out.block k (by omega)
          have hcp := Lib.hid (Hih.out p w1 (by have := Hn.out; omega) (by have := Hn2.out; omega) (by omega) (hip.keep hwB fun _ h => h))
          have HwB := Lib.hid hwB
          have Hip := Lib.hid hip
          have Hiq := Lib.hid hiq
          clear hatp hatq hbp hbq hip hiq hxn hwB
          subst q1 q2 q3
          have kc12' := Lib.hid kc12
          have C12 : Hid (x.c[12]? = some (.slice (some ad) 2 ac)) := by show _ = _; rw [He.out.e]; rfl
          have hlp := conj_len N p
          have hlq := conj_len N q
          go_upto_region 3 with (first
            | (refine wpList_load_one rfl 3 _ rfl _ Tryz.underlying3 rfl _ 0 _ _ _ rfl H1.out H0.out ?_)
            | (refine wpList_load_one rfl 28 _ rfl _ Tryz.underlying28 rfl _ 12 _ _ _ rfl H1.out C12.out ?_)
            | (refine wpList_load_st rfl 31 _ rfl _ Tryz.underlying31 rfl (ad.add (0 * 14)) p.c ipi.out rfl (Hp.out w1 HwB.out) ?_)
            | (go_at_call 4; refine hcp.out.mono ?_; rintro e w2 ⟨A1, cap1, rfl, hb2, hr2⟩; have Hb2 := Lib.hid hb2; have Hr2 := Lib.hid hr2; clear hb2 hr2))
          have hz2 := Hb2.out.size
          have K2 : Hid (Bk w2 w.heap.size x.c 31) := (Hb2.out.block _ (by omega)).trans H1.out
          have HwB2 : Hid (∀ k, k < B → w2.heap[k]? = w.heap[k]?) := fun k hk => (Hb2.out.block k (by omega)).trans (HwB.out k hk)
          have hcq := Lib.hid (Hih.out q w2 (by have := Hn.out; have := Hxn.out; simp only [nL_cons] at this; omega) (by have := Hn2.out; have := Hxn.out; simp only [nL_cons] at this; omega) (by omega) (Hiq.out.keep HwB2.out fun _ h => h))
          go_upto_region 4 with (first
            | (refine wpList_load_one rfl 28 _ rfl _ Tryz.underlying28 rfl _ 12 _ _ _ rfl K2.out C12.out ?_)
            | (refine wpList_load_st rfl 31 _ rfl _ Tryz.underlying31 rfl (ad.add (1 * 14)) q.c iqi.out rfl (Hq.out w2 HwB2.out) ?_)
            | (go_at_call 4; refine hcq.out.mono ?_; rintro e w3 ⟨A2, cap2, rfl, hb3, hr3⟩; have Hb3 := Lib.hid hb3; have Hr3 := Lib.hid hr3; clear hb3 hr3))
          have hz3 := Hb3.out.size
          have Hcc : Hid (∀ w4, Below w3.heap.size w3 w4 → w4.cell? ⟨w3.heap.size, 0, none⟩ = some (.slice A1 (conj N p).length cap1) → w4.cell? ⟨w3.heap.size, 1, none⟩ = some (.slice A2 (conj N q).length cap2) → Calls Tryz.prog 19 #[.slice (some ⟨w3.heap.size, 0, none⟩) 2 2] w4 fun e w' => ∃ (A3 : Option Addr) (c3 : Nat), e = .returned (.slice A3 (conj (N + 1) x).length c3) ∧ Below w4.heap.size w4 w' ∧ DRow (fun k => w4.heap.size ≤ k ∧ k < w'.heap.size) w' 14 A3 c3 (conj (N + 1) x)) := by
            intro w4 hb4 c0 c1
            have hz4 := hb4.size
            have hin1 := fun y hy => (conj_in N Hip.out y hy).1
            have hin2 := fun y hy => (conj_in N Hiq.out y hy).1
            refine (concatE_two A1 A2 cap1 cap2 (conj N p) (conj N q) w3.heap.size (fun k => k < w3.heap.size) w4 (Hr2.out.keep (fun k hk => (hb4.block k (by omega)).trans (Hb3.out.block k hk.2)) fun k hk => by omega) (Hr3.out.keep (fun k hk => hb4.block k hk.2) fun k hk => hk.2) (fun k hk => by omega) (fun y hy => (List.mem_append.1 hy).elim (fun h => (hin1 y h).len) fun h => (hin2 y h).len) (fun y hy => (List.mem_append.1 hy).elim (fun h => (hin1 y h).ones) fun h => (hin2 y h).ones) (by have := Hn2.out; have := Hxn.out; simp only [nL_cons] at this; omega) c0 c1).mono ?_
            rintro e w' ⟨v, rfl, hown, hb⟩
            rw [← Hc.out] at hown
            obtain ⟨A3, c3, rfl, hrow, _⟩ := own_structs hown rfl fun y hy => by
              rw [Hc.out] at hy
              exact (List.mem_append.1 hy).elim (fun h => (hin1 y h).len) fun h => (hin2 y h).len
            exact ⟨A3, c3, rfl, hb, hrow.keep (fun _ _ => rfl) fun k hk => hk.2⟩
          obtain ⟨w4, hw4⟩ : ∃ w4, w3.alloc (.cells #[.slice A1 (conj N p).length cap1, .slice A2 (conj N q).length cap2] 28) = w4 := ⟨_, rfl⟩
          have Hb4 : Hid (Below w3.heap.size w3 w4) := by show Below _ _ _; rw [← hw4]; exact bel1 _ _
          have Hcall := Lib.hid (Hcc.out w4 Hb4.out (by rw [← hw4]; exact cell_new _ _ _ _) (by rw [← hw4]; exact cell_new _ _ _ _))
          go_wp2_with (go_at_call 19; refine Hcall.out.mono ?_; rintro e w5 ⟨A3, c3, rfl, hb5, hr5⟩)
          go_ret
          have hz4 := Hb4.out.size
          have hz5 := hb5.size
          exact ⟨A3, c3, rfl, belTr Hbw.out (belLo (belTr Hb2.out (belLo (belTr Hb3.out (belLo (belTr Hb4.out (belLo hb5 (by omega))) (by omega))) (by omega))) (by omega)), hr5.keep (fun _ _ => rfl) fun k hk => ⟨by omega, hk.2⟩⟩
        · go_enter Tryz.func4, Tryz.ntmps4
          have Hc : Hid (conj (N + 1) x = [x]) := by show _ = _; unfold conj; rw [Hand.out]; simp [q3]
          go_wp2_with (first
            | (refine wpList_load_one rfl 3 _ rfl _ Tryz.underlying3 rfl _ 0 _ _ _ rfl H1.out H0.out ?_)
            | (refine wpList_load_part rfl 31 _ rfl _ Tryz.underlying31 rfl _ _ _ _ x.c rfl H1.out Hi.out (by rw [List.drop_zero, List.take_length]) ?_)
            | (refine wpList_one_st rfl 28 31 _ rfl i0 Tryz.underlying28 hi _ iz x.c.toArray (isz.trans Hz.out.symm) (hzs.trans Hz.out.symm) (by rw [Hz.out]; decide) (by rw [Hz.out]; decide) rfl ?_))
          go_ret
          rw [Hc.out]
          refine ⟨_, 1, rfl, Hbw.out.alloc (by omega) _, ?_⟩
          have := World.ownsRow_lit (base := w.heap.size + 1) (e := 31) (size := 14) w1 x.c.toArray 1 (by omega) (by unfold maxLen; omega) (by rw [Hz.out])
          obtain ⟨A2, c2, e2, hrow, _⟩ := own_structs (l := [x]) (by simpa using this) rfl (fun y hy => by rw [List.mem_singleton] at hy; subst hy; exact hlen)
          cases e2
          rw [hz1] at hrow
          exact hrow.keep (fun _ _ => rfl) fun k hk => ⟨by omega, hk.2.2⟩
      · go_enter Tryz.func4, Tryz.ntmps4
        have Hc : Hid (conj (N + 1) x = [x]) := by show _ = _; unfold conj; rw [Hand.out]; simp [q2]
        go_wp2_with (first
          | (refine wpList_load_one rfl 3 _ rfl _ Tryz.underlying3 rfl _ 0 _ _ _ rfl H1.out H0.out ?_)
          | (refine wpList_load_part rfl 31 _ rfl _ Tryz.underlying31 rfl _ _ _ _ x.c rfl H1.out Hi.out (by rw [List.drop_zero, List.take_length]) ?_)
          | (refine wpList_one_st rfl 28 31 _ rfl i0 Tryz.underlying28 hi _ iz x.c.toArray (isz.trans Hz.out.symm) (hzs.trans Hz.out.symm) (by rw [Hz.out]; decide) (by rw [Hz.out]; decide) rfl ?_))
        go_ret
        rw [Hc.out]
        refine ⟨_, 1, rfl, Hbw.out.alloc (by omega) _, ?_⟩
        have := World.ownsRow_lit (base := w.heap.size + 1) (e := 31) (size := 14) w1 x.c.toArray 1 (by omega) (by unfold maxLen; omega) (by rw [Hz.out])
        obtain ⟨A2, c2, e2, hrow, _⟩ := own_structs (l := [x]) (by simpa using this) rfl (fun y hy => by rw [List.mem_singleton] at hy; subst hy; exact hlen)
        cases e2
        rw [hz1] at hrow
        exact hrow.keep (fun _ _ => rfl) fun k hk => ⟨by omega, hk.2.2⟩
    · go_enter Tryz.func4, Tryz.ntmps4
      have Hc : Hid (conj (N + 1) x = [x]) := by show _ = _; unfold conj; rw [Hand.out]; simp [q1]
      go_wp2_with (first
        | (refine wpList_load_one rfl 3 _ rfl _ Tryz.underlying3 rfl _ 0 _ _ _ rfl H1.out H0.out ?_)
        | (refine wpList_load_part rfl 31 _ rfl _ Tryz.underlying31 rfl _ _ _ _ x.c rfl H1.out Hi.out (by rw [List.drop_zero, List.take_length]) ?_)
        | (refine wpList_one_st rfl 28 31 _ rfl i0 Tryz.underlying28 hi _ iz x.c.toArray (isz.trans Hz.out.symm) (hzs.trans Hz.out.symm) (by rw [Hz.out]; decide) (by rw [Hz.out]; decide) rfl ?_))
      go_ret
      rw [Hc.out]
      refine ⟨_, 1, rfl, Hbw.out.alloc (by omega) _, ?_⟩
      have := World.ownsRow_lit (base := w.heap.size + 1) (e := 31) (size := 14) w1 x.c.toArray 1 (by omega) (by unfold maxLen; omega) (by rw [Hz.out])
      obtain ⟨A2, c2, e2, hrow, _⟩ := own_structs (l := [x]) (by simpa using this) rfl (fun y hy => by rw [List.mem_singleton] at hy; subst hy; exact hlen)
      cases e2
      rw [hz1] at hrow
      exact hrow.keep (fun _ _ => rfl) fun k hk => ⟨by omega, hk.2.2⟩
end Go.Proofs.YthijagpnpcpcbaaGreat

