/-
  The reference of package meaning: Combine.
-/
import Derived.Test.YtcdaipkkddgbeaaQRfD
namespace Go.Proofs.Ytcdaipkkddgbeaa
open Go.RowKit
/-- The rows of the result, as the reference has them. -/
def expD (op : Int) (all : Bool) (a b : List VT) (D : List VT) : List VT := D.flatMap fun d => List.replicate (timesN op all (a.countP (eqR d)) (b.countP (eqR d))) d
def csum (D l : List VT) : Nat := (D.map fun d => l.countP (eqR d)).sum
theorem csum_cons (x : VT) (l : List VT) : ∀ D, csum D (x :: l) = csum D l + D.countP (fun d => eqR d x)
  | [] => rfl
  | d :: D => by
    have ih := csum_cons x l D
    show (x :: l).countP (eqR d) + csum D (x :: l) = l.countP (eqR d) + csum D l + _
    rw [ih, List.countP_cons, List.countP_cons]
    omega
theorem inc_one {D : List VT} (h : IncP D) (x : VT) : D.countP (fun d => eqR d x) ≤ 1 := by
  induction D with
  | nil => exact Nat.zero_le _
  | cons d D ih =>
    obtain ⟨h1, h2⟩ := List.pairwise_cons.1 h
    rw [List.countP_cons]
    cases he : eqR d x with
    | false => have := ih h2; simp; omega
    | true =>
      have hz : D.countP (fun d => eqR d x) = 0 := List.countP_eq_zero.2 fun d' hd' => by
        have g := h1 d' hd'
        have e1 : cmpR x d = 0 := by unfold eqR at he; simpa using he
        unfold eqR
        intro hc
        have e2 : cmpR x d' = 0 := by simpa using hc
        have n1 := cmpR_neg x d'
        have t := (cmpR_tr d' x d).2.2.2 (by omega) e1
        omega
      rw [hz]
      simp
theorem csum_le {D : List VT} (h : IncP D) : ∀ l, csum D l ≤ l.length
  | [] => by
    have z : ∀ D : List VT, csum D [] = 0 := fun D => by
      induction D with
      | nil => rfl
      | cons d D ih =>
        show 0 + csum D [] = 0
        rw [ih]
    rw [z]
    exact Nat.zero_le _
  | x :: l => by
    have h1 := csum_le h l
    have h2 := inc_one h x
    rw [csum_cons, List.length_cons]
    omega
theorem expD_len (op : Int) (all : Bool) (a b : List VT) : ∀ D, (expD op all a b D).length ≤ csum D a + csum D b
  | [] => Nat.zero_le _
  | d :: D => by
    have ih := expD_len op all a b D
    have h := timesN_le op all (a.countP (eqR d)) (b.countP (eqR d))
    show (List.replicate _ _ ++ expD op all a b D).length ≤ a.countP (eqR d) + csum D a + (b.countP (eqR d) + csum D b)
    rw [List.length_append, List.length_replicate]
    omega
theorem expD_take (op : Int) (all : Bool) (a b : List VT) {D : List VT} {j : Nat} {d : VT} (h : D[j]? = some d) : expD op all a b (D.take (j + 1)) = expD op all a b (D.take j) ++ List.replicate (timesN op all (a.countP (eqR d)) (b.countP (eqR d))) d := by
  rw [List.take_add_one, h]
  unfold expD
  rw [List.flatMap_append]
  simp
/-- How often, ahead of what holds for sets. -/
def preN (op : Int) (all : Bool) (x y : Nat) : Int :=
  if op = 1 then (x : Int) + (y : Int) else if op = 2 then min (x : Int) (y : Int) else if op = 3 ∧ all = true then (x : Int) - (y : Int) else if op = 3 ∧ y = 0 then (x : Int) else 0
theorem pre_all (op : Int) (x y : Nat) : (preN op true x y).toNat = timesN op true x y := by
  unfold preN timesN
  by_cases h1 : op = 1
  · simp [h1]; omega
  · by_cases h2 : op = 2
    · simp [h2]; omega
    · by_cases h3 : op = 3
      · simp [h3]
      · simp [h1, h2, h3]
theorem pre_some (op : Int) (x y : Nat) : (min (preN op false x y) 1).toNat = timesN op false x y := by
  unfold preN timesN
  by_cases h1 : op = 1
  · simp [h1]; omega
  · by_cases h2 : op = 2
    · simp [h2]; omega
    · by_cases h3 : op = 3
      · by_cases h4 : y = 0
        · simp [h3, h4]; omega
        · have h5 : 0 < y := by omega
          simp [h3, h4, h5]; omega
      · simp [h1, h2, h3]; omega
theorem pre_le (op : Int) (all : Bool) (x y : Nat) : -(y : Int) ≤ preN op all x y ∧ preN op all x y ≤ (x : Int) + (y : Int) := by
  unfold preN
  repeat' split
  all_goals omega
/-- Clones that were put together. -/
structure CbR (B : Nat) (w W : World) (R E : List VT) (ov : Value) (wr : World) : Prop where
  own : wr.ownsRow W.heap.size 27 1 ov R.length (R.map rwV)
  fr : PFr (fun _ => False) W (.slice none 0 0) wr ov
  md : ∀ c, c ∈ R → Md (· < W.heap.size) ov wr fun w'' => Same B w w'' → VT.Rows w''.heap.size w'' c.a.A c.a.cap c.l
  eq : R.map VT.l = E.map VT.l
theorem CbR.step {B : Nat} {w W wo wx w4 : World} {ov ov' : Value} {R E : List VT} {r d : VT} {o : Obj} (h : CbR B w W R E ov wo) (hb1 : Below wo.heap.size wo wx) (hmod : ∀ w'', Keeps wo.heap.size wx w'' → Same B w w'' → VT.Rows w''.heap.size w'' r.a.A r.a.cap r.l) (hr : r.l = d.l)
    (hown4 : w4.ownsRow W.heap.size 27 1 ov' (R.length + 1) (R.map rwV ++ [rwV r])) (hg4 : (wx.alloc o).grownBy w4 ov.ownBlock) (hm4 : Moved (wx.alloc o) ov ov') : CbR B w W (R ++ [r]) (E ++ [d]) ov' w4 := by
  have hol := h.own.lt
  have z0 := h.fr.size
  have z1 := hb1.size
  have pX : PFr (fun _ => False) wx ov w4 ov' := (PFr.below (bel1 wx o)).trans (PFr.grown hg4 hm4)
  have pO : PFr (fun _ => False) wo ov wx ov := PFr.below hb1
  have hmX : Md (· < W.heap.size) ov wx fun w'' => Same B w w'' → VT.Rows w''.heap.size w'' r.a.A r.a.cap r.l := fun w'' hz hk hS =>
    hmod w'' ⟨fun q h1 h2 => hk q h2 (by omega) (fun e => by have := (hol q e.symm).2; omega), hz⟩ hS
  refine ⟨?_, h.fr.trans (pO.trans pX), fun u hu => ?_, by rw [List.map_append, List.map_append, h.eq]; simp [hr]⟩
  · rw [List.length_append, List.map_append]
    exact hown4
  · rcases List.mem_append.1 hu with hu | hu
    · exact ((h.md u hu).step (pO.more fun _ h => h.elim)).step (pX.more fun _ h => h.elim)
    · rw [List.mem_singleton] at hu
      subst hu
      exact hmX.step (pX.more fun _ h => h.elim)
theorem CbR.on {B : Nat} {w W wo wx : World} {ov : Value} {R E : List VT} (h : CbR B w W R E ov wo) (hb : Below wo.heap.size wo wx) : CbR B w W R E ov wx :=
  ⟨own_below h.own hb, h.fr.trans (PFr.below hb), fun c hc => (h.md c hc).step (PFr.below hb), h.eq⟩
/-- What the reference's Combine comes to. -/
def RcPost (op : Int) (all : Bool) (a b : List VT) (w : World) (e : Ending) (w' : World) : Prop :=
  ∃ (A : Option Addr) (cap : Nat) (D R : List VT), e = .returned (.slice A R.length cap) ∧ Below w.heap.size w w' ∧ IncP D ∧ (∀ x, x ∈ a ++ b → ∃ d, d ∈ D ∧ cmpR x d = 0) ∧ (∀ d, d ∈ D → ∃ y, y ∈ a ++ b ∧ d.l = y.l) ∧ R.map VT.l = (expD op all a b D).map VT.l ∧ VT.RRow w'.heap.size w' A cap R
set_option maxRecDepth 100000 in
set_option maxHeartbeats 8000000 in
theorem rCombine_any (op : Int) (all : Bool) (A A2 : Option Addr) (cap cap2 : Nat) (a b : List VT) (B : Nat) (w : World) (ha : VT.RRow B w A cap a) (hb : VT.RRow B w A2 cap2 b) (hB : B ≤ w.heap.size) (hn : a.length ≤ 1048576) (hn2 : b.length ≤ 1048576)
    (hsa : ∀ r, r ∈ a → r.l.length ≤ 1048576) (hsb : ∀ r, r ∈ b → r.l.length ≤ 1048576) :
    Calls Try.prog 6 #[.int .i64 op, .bool all, .slice A a.length cap, .slice A2 b.length cap2] w (RcPost op all a b w) := by
  obtain ⟨ir, hir, irz, irs, irb⟩ := info_parts infoVals
  obtain ⟨W0, hW0⟩ : ∃ W0, w.alloc (.cells #[.slice A a.length cap, .slice A2 b.length cap2] 22) = W0 := ⟨_, rfl⟩
  have hbw0 : Below w.heap.size w W0 := by rw [← hW0]; exact bel1 _ _
  have c0 : W0.cell? ⟨w.heap.size, 0, none⟩ = some (.slice A a.length cap) := by rw [← hW0, cell_new]; rfl
  have c1 : W0.cell? ⟨w.heap.size, 1, none⟩ = some (.slice A2 b.length cap2) := by rw [← hW0, cell_new]; rfl
  have hS0 : Same B w W0 := Same.mono (Same.of_below hbw0) hB
  have h1 := Lib.hid (concatR_two A A2 cap cap2 a b w.heap.size B W0 (crow_of (ha.keep hS0)) (crow_of (hb.keep hS0)) (Nat.le_trans hB hbw0.size) (by omega) c0 c1)
  have HW0 := Lib.hid hW0
  have Ha := Lib.hid ha
  have Hb := Lib.hid hb
  have Hsa := Lib.hid hsa
  have Hsb := Lib.hid hsb
  have HN : Hid (a.length + b.length ≤ 2097152) := by show _ ≤ _; omega
  clear hW0 ha hb hsa hsb c0 c1 hS0 hn hn2
  go_enter Try.func6, Try.ntmps6
  go_wp2_with fail
  rw [HW0.out]
  refine h1.out.mono ?_
  rintro e w1 ⟨v, rfl, hown1, hb1⟩
  have hbw1 : Below w.heap.size w w1 := hbw0.trans (hb1.mono hbw0.size)
  obtain ⟨A3, c3, rfl, hcr, _⟩ := own_list (f := rwV) hown1 rfl
  have hin : ∀ r, r ∈ a ++ b → VT.Rows B w r.a.A r.a.cap r.l ∧ r.l.length ≤ 1048576 := fun r hr => by
    rcases List.mem_append.1 hr with hr | hr
    · exact ⟨Ha.out.2.2.1 r hr, Hsa.out r hr⟩
    · exact ⟨Hb.out.2.2.1 r hr, Hsb.out r hr⟩
  have hrr1 : VT.RRow w1.heap.size w1 A3 c3 (a ++ b) := ⟨hcr.1, hcr.2.1, fun r hr => by
    have := (hin r hr).1.keep (Same.mono (Same.of_below hbw1) hB)
    have hz := hbw1.size
    exact ⟨this.1.more (by omega), fun y hy => (this.2 y hy).more (by omega)⟩, hcr.2.2⟩
  have h2 := Lib.hid (rDistinct_any A3 c3 (a ++ b) w1.heap.size w1 hrr1 (Nat.le_refl _) (by rw [List.length_append]; have := HN.out; omega) (fun r hr => (hin r hr).2))
  have Hin := Lib.hid hin
  obtain ⟨abn, habn⟩ : ∃ q, (a ++ b).length = q := ⟨_, rfl⟩
  rw [habn] at h2 ⊢
  clear hown1 hcr hin hrr1 habn h1 HW0 Hsa Hsb
  go_wp2_with fail
  refine h2.out.mono ?_
  rintro e w2 ⟨A4, c4, D, rfl, hb2, hdl, hinc, hall, hsub, hrow⟩
  have hbw2 : Below w.heap.size w w2 := hbw1.trans (hb2.mono hbw1.size)
  obtain ⟨n, hnD⟩ : ∃ n, D.length = n := ⟨_, rfl⟩
  have hnm := rows_len hrow
  have hdr : ∀ d, d ∈ D → d.l.length ≤ 1048576 := fun d hd => by
    obtain ⟨y, hy, e⟩ := hsub d hd
    rw [e]
    exact (Hin.out y hy).2
  rw [hnD] at hnm ⊢
  have Hinc := Lib.hid hinc
  have Hall := Lib.hid hall
  have Hsub := Lib.hid hsub
  have Hrow := Lib.hid hrow
  have HnD := Lib.hid hnD
  have Hdr := Lib.hid hdr
  have Hbw2 := Lib.hid hbw2
  clear hdl hinc hall hsub hrow hnD hdr h2 hb1 hb2 hbw0 hbw1 hbw2 Hin
  go_wp2
  go_loopw [9, 21] (fun ov i wr => ∃ (j : Nat) (R : List VT), j ≤ n ∧ i = .int .i64 j ∧ CbR w2.heap.size w2 w2 R (expD op all a b (D.take j)) ov wr) (fun _ i _ => n - (intOf i).toNat)
  case atStart => exact ⟨0, [], Nat.zero_le _, rfl, World.ownsRow_nil _ _ _ _, PFr.refl _ _ _, (fun c h => by cases h), rfl⟩
  case round =>
    obtain ⟨wo, rfl⟩ : ∃ wo : World, wo = wr := ⟨_, rfl⟩
    obtain ⟨j, R, hj, rfl, hcb⟩ := hrel
    have hbo : Below w2.heap.size w2 wo := hcb.fr.toBelow (Nat.le_refl _) (fun k e => e.elim)
    have hbwo : Below w.heap.size w wo := Hbw2.out.trans (hbo.mono Hbw2.out.size)
    have hSo : Same w2.heap.size w2 wo := Same.of_below hbo
    have hSw : Same B w wo := Same.mono (Same.of_below hbwo) hB
    by_cases hlt : j < n
    · obtain ⟨d, ad, hx, rfl, hab, d0⟩ := (Hrow.out.keep hSo).get (show j < D.length by rw [HnD.out]; exact hlt)
      have hdr3 := Hrow.out.2.2.1 d (mem_of_get? hx)
      have hdr2 := hdr3.keep hSo
      have Hdr3 := Lib.hid hdr3
      clear hdr3
      have hca := Lib.hid (rcount_any A cap a d wo.heap.size wo ⟨Ha.out.1, Ha.out.2.1, fun r hr => by
          have := (Ha.out.2.2.1 r hr).keep hSw
          have hz := hbwo.size
          exact ⟨this.1.more (by omega), fun y hy => (this.2 y hy).more (by omega)⟩, fun i x hx => by
          obtain ⟨q, e, hb, hc⟩ := (Ha.out.keep hSw).2.2.2 i x hx
          have hz := hbwo.size
          exact ⟨q, e, by omega, hc⟩⟩ ⟨hdr2.1.more hbo.size, fun y hy => (hdr2.2 y hy).more hbo.size⟩ (Nat.le_refl _))
      have hcb2 : Hid (∀ W, Below wo.heap.size wo W → Calls Try.prog 12 #[.slice A2 b.length cap2, .slice d.a.A d.l.length d.a.cap] W fun e w' => e = .returned (.int .i64 (b.countP (eqR d) : Nat)) ∧ Below W.heap.size W w') := fun W hW => by
        have hSW : Same B w W := fun k hk => (hW.block k (by have := hbwo.size; omega)).trans (hSw k hk)
        refine rcount_any A2 cap2 b d wo.heap.size W ⟨Hb.out.1, Hb.out.2.1, fun r hr => ?_, fun i x hx => ?_⟩ ?_ hW.size
        · have := (Hb.out.2.2.1 r hr).keep hSW
          have hz := hbwo.size
          exact ⟨this.1.more (by omega), fun y hy => (this.2 y hy).more (by omega)⟩
        · obtain ⟨q, e, hb, hc⟩ := (Hb.out.keep hSW).2.2.2 i x hx
          have hz := hbwo.size
          exact ⟨q, e, by omega, hc⟩
        · have h3 : VT.Rows wo.heap.size wo d.a.A d.a.cap d.l := ⟨hdr2.1.more hbo.size, fun y hy => (hdr2.2 y hy).more hbo.size⟩
          exact h3.keep (Same.of_below hW)
      obtain ⟨x, hxe⟩ : ∃ x, a.countP (eqR d) = x := ⟨_, rfl⟩
      obtain ⟨y, hye⟩ : ∃ y, b.countP (eqR d) = y := ⟨_, rfl⟩
      obtain ⟨tn, htn⟩ : ∃ tn, timesN op all x y = tn := ⟨_, rfl⟩
      have hxl : x ≤ 2097152 := by rw [← hxe]; have := List.countP_le_length (p := eqR d) (l := a); have := HN.out; omega
      have hyl : y ≤ 2097152 := by rw [← hye]; have := List.countP_le_length (p := eqR d) (l := b); have := HN.out; omega
      have htl : tn ≤ x + y := by rw [← htn]; exact timesN_le _ _ _ _
      have hex : Hid (expD op all a b (D.take (j + 1)) = expD op all a b (D.take j) ++ List.replicate tn d) := by show _ = _; rw [expD_take op all a b hx, hxe, hye, htn]
      have hsz : Hid ((expD op all a b (D.take j)).length + tn ≤ 2097152) := by
        show _ ≤ _
        have h1 := expD_len op all a b (D.take (j + 1))
        have hi : IncP (D.take (j + 1)) := Hinc.out.sublist (List.take_sublist _ _)
        have h2 := csum_le hi a
        have h3 := csum_le hi b
        rw [hex.out, List.length_append, List.length_replicate] at h1
        have := HN.out
        omega
      have hdl := Hdr.out d (mem_of_get? hx)
      rw [hxe] at hca
      rw [hye] at hcb2
      have Hcb := Lib.hid hcb
      have Hdr2 := Lib.hid hdr2
      have Hbo := Lib.hid hbo
      have Htn := Lib.hid htn
      clear hcb hdr2 hx hxe hye htn hbo hbwo hSo hSw
      go_wp2_with fail
      refine hca.out.mono ?_
      rintro e w5 ⟨rfl, hb5⟩
      have hca2 := Lib.hid (hcb2.out w5 hb5)
      go_wp2_with fail
      refine hca2.out.mono ?_
      rintro e w6 ⟨rfl, hb6⟩
      have hb56 : Below wo.heap.size wo w6 := hb5.trans (hb6.mono hb5.size)
      have Hb56 := Lib.hid hb56
      clear hca hcb2 hca2 hb5 hb6 hb56
      obtain ⟨P, hP⟩ : ∃ P, preN op all x y = P := ⟨_, rfl⟩
      have hpl := pre_le op all x y
      rw [hP] at hpl
      have HP := Lib.hid hP
      clear hP
      go_upto_block 2 with (fail)
      go_cut [14] (fun v wx => v = .int .i64 P ∧ wx = w6)
      case first =>
        have w1 : IntKind.i64.wrap ((x : Int) + (y : Int)) = (x : Int) + (y : Int) := IntWalk.i64_in _ ⟨by omega, by omega⟩
        have w2 : IntKind.i64.wrap ((x : Int) - (y : Int)) = (x : Int) - (y : Int) := IntWalk.i64_in _ ⟨by omega, by omega⟩
        have fin : ∀ v : Int, v = preN op all x y → Value.int .i64 v = Value.int .i64 P := fun v h => by rw [h, HP.out]
        have Fin := Lib.hid fin
        clear fin
        by_cases h1 : op = 1
        · subst h1
          go_wp2
          go_meet
          exact ⟨Fin.out _ (by simp [preN]), rfl⟩
        · by_cases h2 : op = 2
          · subst h2
            go_wp2
            go_meet
            exact ⟨Fin.out _ (by simp [preN]), rfl⟩
          · by_cases h3 : op = 3
            · subst h3
              cases all
              · by_cases h4 : y = 0
                · subst h4
                  go_wp2
                  go_meet
                  exact ⟨Fin.out _ (by simp [preN]), rfl⟩
                · have h5 : ((y : Int) == 0) = false := by simpa using h4
                  have H4 := Lib.hid h4
                  clear h4
                  go_wp2
                  go_meet
                  have h6 := H4.out
                  exact ⟨Fin.out _ (by simp [preN, h6]), rfl⟩
              · go_wp2
                go_meet
                exact ⟨Fin.out _ (by simp [preN]), rfl⟩
            · go_wp2
              go_meet
              exact ⟨Fin.out _ (by simp [preN, h1, h2, h3]), rfl⟩
      case rest =>
        obtain ⟨hv, hwc⟩ := hcut
        subst hv hwc
        have Hdd : Hid (VT.Rows w2.heap.size w2 d.a.A d.a.cap d.l) := Hdr3.out
        have htb : tn ≤ 4194304 := by omega
        cases all
        · have hNt : (min P 1).toNat = tn := by rw [← HP.out, pre_some, Htn.out]
          have hNl : min P 1 ≤ 1 := by omega
          have HNt0 := Lib.hid hNt
          clear hNt
          go_upto_region 17 with (fail)
          obtain ⟨N, hN⟩ : ∃ N, min P 1 = N := ⟨_, rfl⟩
          rw [hN] at HNt0 hNl ⊢
          have HNt := HNt0
          clear hN HNt0
          go_wp2
          go_loopw [9, 65] (fun ov i wr => ∃ (k : Nat) (R' : List VT), k ≤ tn ∧ i = .int .i64 k ∧ CbR w2.heap.size w2 w2 R' (expD op false a b (D.take j) ++ List.replicate k d) ov wr) (fun _ i _ => tn - (intOf i).toNat)
          case atStart => exact ⟨0, R, Nat.zero_le _, rfl, by simpa using Hcb.out.on Hb56.out⟩
          case round =>
            obtain ⟨wi, rfl⟩ : ∃ wi : World, wi = wr := ⟨_, rfl⟩
            obtain ⟨k, R', hk, rfl, hci⟩ := hrel
            have hbi : Below w2.heap.size w2 wi := hci.fr.toBelow (Nat.le_refl _) (fun k e => e.elim)
            have hSi : Same w2.heap.size w2 wi := Same.of_below hbi
            have hlen : R'.length = (expD op false a b (D.take j)).length + k := by
              have := congrArg List.length hci.eq
              rw [List.length_map, List.length_map, List.length_append, List.length_replicate] at this
              exact this
            by_cases hkl : k < tn
            · have hkN : (k : Int) < N := by have := HNt.out; omega
              have hcl := Lib.hid (cloneRow_any d.a.A d.a.cap d.l w2.heap.size wi (Hdd.out.keep hSi) hbi.size hdl)
              obtain ⟨m, hm⟩ : ∃ m, R'.length = m := ⟨_, rfl⟩
              have hmz : m + 1 ≤ 2097152 := by have := hsz.out; omega
              have Hci := Lib.hid hci
              have Hm := Lib.hid hm
              have Hbi := Lib.hid hbi
              have HSi := Lib.hid hSi
              clear hci hm hbi hSi hlen
              go_wp2_with fail
              refine hcl.out.mono ?_
              rintro e w7 ⟨NA, nc, rfl, hb7, hkp⟩
              have hown7 := own_below Hci.out.own hb7
              rw [Hm.out] at hown7
              have h3 : Hid (m + 1 ≤ maxLen) := by show _ ≤ _; unfold maxLen; omega
              have h4 : Hid ((m + 1) * 24 ≤ 140737488355328) := by show _ ≤ _; omega
              have h5 : Hid (∀ o, w2.heap.size ≤ (w7.alloc o).heap.size) := fun o => by have := hb7.size; have := Hbi.out.size; simp; omega
              have Hmod : Hid (∀ w'', Keeps wi.heap.size w7 w'' → Same w2.heap.size w2 w'' → VT.Rows w''.heap.size w'' NA nc d.l) := fun w'' hk hS => hkp w'' (fun k hk2 => (hS k hk2).trans (HSi.out k hk2).symm) hk
              have Hb7 := Lib.hid hb7
              have hrv : rwV (.node ⟨0, 0, 0, ByteArray.empty, NA, nc⟩ d.l) = .slice NA d.l.length nc := by unfold rwV; rw [VT.a_node, VT.l_node]
              have Hrv := Lib.hid hrv
              clear hkp hb7 hrv hcl
              go_wp2_with (at_builtin; refine wpList_append_row _ rfl _ _ 22 rfl w2.heap.size 27 ir _ 1 24 Try.underlying22 hir irz irs irb rfl (by decide) u9 m (R'.map rwV) rfl (hown7.alloc _) (some ⟨w7.heap.size, 0, none⟩) 1 1 [.slice NA d.l.length nc] rfl rfl (new_src3 _ _ _) (by simp [Value.oneCell']) h3.out h4.out (h5.out _) ?_; intro ov' w8 hown8 hg8 hm8)
              have HST := Lib.hid (CbR.step (r := .node ⟨0, 0, 0, ByteArray.empty, NA, nc⟩ d.l) (d := d) Hci.out Hb7.out Hmod.out rfl (by rw [Hrv.out, Hm.out]; exact hown8) hg8 hm8)
              clear hown8 hg8 hm8 hown7
              go_wp2
              go_roundw
              case rel => exact ⟨k + 1, _, by omega, by simp, by rw [List.replicate_succ', ← List.append_assoc]; exact HST.out⟩
              case measure => simp [intOf]; omega
            · have hkN : ¬ (k : Int) < N := by have := HNt.out; omega
              obtain rfl : k = tn := by omega
              have Hci := Lib.hid hci
              clear hci hbi hSi hlen
              go_wp2
              go_roundw
              case rel => exact ⟨j + 1, R', by omega, by simp, by rw [hex.out]; exact Hci.out⟩
              case measure => simp [intOf]; omega
        · have hNt : P.toNat = tn := by rw [← HP.out, pre_all, Htn.out]
          have HNt0 := Lib.hid hNt
          clear hNt
          go_upto_region 17 with (fail)
          obtain ⟨N, hN⟩ : ∃ N, P = N := ⟨_, rfl⟩
          rw [hN] at HNt0 hpl ⊢
          have HNt := HNt0
          clear HNt0 hN
          go_wp2
          go_loopw [9, 65] (fun ov i wr => ∃ (k : Nat) (R' : List VT), k ≤ tn ∧ i = .int .i64 k ∧ CbR w2.heap.size w2 w2 R' (expD op true a b (D.take j) ++ List.replicate k d) ov wr) (fun _ i _ => tn - (intOf i).toNat)
          case atStart => exact ⟨0, R, Nat.zero_le _, rfl, by simpa using Hcb.out.on Hb56.out⟩
          case round =>
            obtain ⟨wi, rfl⟩ : ∃ wi : World, wi = wr := ⟨_, rfl⟩
            obtain ⟨k, R', hk, rfl, hci⟩ := hrel
            have hbi : Below w2.heap.size w2 wi := hci.fr.toBelow (Nat.le_refl _) (fun k e => e.elim)
            have hSi : Same w2.heap.size w2 wi := Same.of_below hbi
            have hlen : R'.length = (expD op true a b (D.take j)).length + k := by
              have := congrArg List.length hci.eq
              rw [List.length_map, List.length_map, List.length_append, List.length_replicate] at this
              exact this
            by_cases hkl : k < tn
            · have hkN : (k : Int) < N := by have := HNt.out; omega
              have hcl := Lib.hid (cloneRow_any d.a.A d.a.cap d.l w2.heap.size wi (Hdd.out.keep hSi) hbi.size hdl)
              obtain ⟨m, hm⟩ : ∃ m, R'.length = m := ⟨_, rfl⟩
              have hmz : m + 1 ≤ 2097152 := by have := hsz.out; omega
              have Hci := Lib.hid hci
              have Hm := Lib.hid hm
              have Hbi := Lib.hid hbi
              have HSi := Lib.hid hSi
              clear hci hm hbi hSi hlen
              go_wp2_with fail
              refine hcl.out.mono ?_
              rintro e w7 ⟨NA, nc, rfl, hb7, hkp⟩
              have hown7 := own_below Hci.out.own hb7
              rw [Hm.out] at hown7
              have h3 : Hid (m + 1 ≤ maxLen) := by show _ ≤ _; unfold maxLen; omega
              have h4 : Hid ((m + 1) * 24 ≤ 140737488355328) := by show _ ≤ _; omega
              have h5 : Hid (∀ o, w2.heap.size ≤ (w7.alloc o).heap.size) := fun o => by have := hb7.size; have := Hbi.out.size; simp; omega
              have Hmod : Hid (∀ w'', Keeps wi.heap.size w7 w'' → Same w2.heap.size w2 w'' → VT.Rows w''.heap.size w'' NA nc d.l) := fun w'' hk hS => hkp w'' (fun k hk2 => (hS k hk2).trans (HSi.out k hk2).symm) hk
              have Hb7 := Lib.hid hb7
              have hrv : rwV (.node ⟨0, 0, 0, ByteArray.empty, NA, nc⟩ d.l) = .slice NA d.l.length nc := by unfold rwV; rw [VT.a_node, VT.l_node]
              have Hrv := Lib.hid hrv
              clear hkp hb7 hrv hcl
              go_wp2_with (at_builtin; refine wpList_append_row _ rfl _ _ 22 rfl w2.heap.size 27 ir _ 1 24 Try.underlying22 hir irz irs irb rfl (by decide) u9 m (R'.map rwV) rfl (hown7.alloc _) (some ⟨w7.heap.size, 0, none⟩) 1 1 [.slice NA d.l.length nc] rfl rfl (new_src3 _ _ _) (by simp [Value.oneCell']) h3.out h4.out (h5.out _) ?_; intro ov' w8 hown8 hg8 hm8)
              have HST := Lib.hid (CbR.step (r := .node ⟨0, 0, 0, ByteArray.empty, NA, nc⟩ d.l) (d := d) Hci.out Hb7.out Hmod.out rfl (by rw [Hrv.out, Hm.out]; exact hown8) hg8 hm8)
              clear hown8 hg8 hm8 hown7
              go_wp2
              go_roundw
              case rel => exact ⟨k + 1, _, by omega, by simp, by rw [List.replicate_succ', ← List.append_assoc]; exact HST.out⟩
              case measure => simp [intOf]; omega
            · have hkN : ¬ (k : Int) < N := by have := HNt.out; omega
              obtain rfl : k = tn := by omega
              have Hci := Lib.hid hci
              clear hci hbi hSi hlen
              go_wp2
              go_roundw
              case rel => exact ⟨j + 1, R', by omega, by simp, by rw [hex.out]; exact Hci.out⟩
              case measure => simp [intOf]; omega
    · obtain rfl : j = n := by omega
      go_wp2
      go_ret
      have eD : D.take j = D := by rw [← HnD.out]; exact List.take_length
      rw [eD] at hcb
      obtain ⟨A5, c5, rfl, hcr, _⟩ := own_list (f := rwV) hcb.own rfl
      exact ⟨A5, c5, D, R, rfl, hbwo, Hinc.out, Hall.out, Hsub.out, hcb.eq, hcr.1, hcr.2.1, fun r hr => (hcb.md r hr).at hSo, hcr.2.2⟩
end Go.Proofs.Ytcdaipkkddgbeaa
