/-
  The reference of package meaning: sorted.
-/
import Derived.Test.YtcdaipkkddgbeaaQRfA
import Derived.Deep.DeepCutAuto
namespace Go.Proofs.Ytcdaipkkddgbeaa
open Go.RowKit
theorem infoItem : (Try.prog.info? 48).map (fun i => (i.zero, i.size, i.bytes)) = some (some (.agg #[.slice none 0 0, .slice none 0 0, .int .i64 0]), 3, 56) := by kernel_rfl
/-- An item without keys. -/
def itC (r : VT) : List Value := [.slice r.a.A r.l.length r.a.cap, .slice none 0 0, .int .i64 0]
theorem itC_len (r : VT) : (itC r).length = 3 := rfl
/-- Rows in order. -/
def SortP (l : List VT) : Prop := l.Pairwise fun x y => 0 ≤ cmpR y x
theorem grow_src {α : Type} {c : α → List Value} {k B : Nat} {w : World} {A : Option Addr} {cap : Nat} {l : List α} (h : GRow c k B w A cap l) (hk : 0 < k) (hf : ∀ x, (c x).length = k) : SrcAt w A (l.flatMap c) := by
  cases l with
  | nil => exact .inl rfl
  | cons y r =>
    obtain ⟨ad, e, _, _⟩ := h.2.2 0 y rfl
    refine .inr ⟨ad, e, fun j u hu => ?_⟩
    have hjl := (List.getElem?_eq_some_iff.1 hu).1
    have hlen : ∀ l : List α, (l.flatMap c).length = l.length * k := fun l => by
      induction l with
      | nil => simp
      | cons x l ih => rw [List.flatMap_cons, List.length_append, ih, hf, List.length_cons, Nat.add_mul]; omega
    rw [hlen] at hjl
    have hi : j / k < (y :: r).length := Nat.div_lt_of_lt_mul (by rw [Nat.mul_comm]; exact hjl)
    have hd : j / k * k + j % k = j := by rw [Nat.mul_comm]; exact Nat.div_add_mod j k
    obtain ⟨ad2, e2, _, hat⟩ := h.2.2 (j / k) (y :: r)[j / k] (List.getElem?_eq_getElem hi)
    rw [e] at e2
    cases e2
    rw [← hd, flat_atc k (y :: r) (fun x _ => hf x) (j / k) _ (j % k) (List.getElem?_eq_getElem hi) (Nat.mod_lt _ hk)] at hu
    rw [← hd, ← add_add2]
    exact hat _ _ hu
/-- Items that lie in a world. -/
def ISl (W : World) (v : Value) (l : List VT) : Prop := ∃ (A : Option Addr) (c : Nat), v = .slice A l.length c ∧ GRow itC 3 W.heap.size W A c l
theorem it_head {B : Nat} {W : World} {A : Option Addr} {c : Nat} {x : VT} {l : List VT} (h : GRow itC 3 B W A c (x :: l)) : ∃ ad, A = some ad ∧ ad.block < B ∧ W.cell? ad = some (.slice x.a.A x.l.length x.a.cap) ∧ W.cell? ⟨ad.block, ad.off + 1, none⟩ = some (.slice none 0 0) ∧ W.cell? ⟨ad.block, ad.off + 2, none⟩ = some (.int .i64 0) := by
  obtain ⟨ad, e, hb, hc⟩ := h.2.2 0 x rfl
  have z : ad.add (0 * 3) = ad := by unfold Addr.add; rw [if_pos rfl]
  rw [z] at hc
  refine ⟨ad, e, hb, hc 0 _ rfl, ?_, ?_⟩
  · rw [← add_off3 _ 1 (by decide)]; exact hc 1 _ rfl
  · rw [← add_off3 _ 2 (by decide)]; exact hc 2 _ rfl
theorem it_drop {B : Nat} {W : World} {A : Option Addr} {c m : Nat} {l : List VT} (h : GRow itC 3 B W A c l) (A' : Option Addr) (hA : m < l.length → ∀ ad, A = some ad → A' = some (ad.add (m * 3))) (hm : m ≤ l.length) : GRow itC 3 B W A' (c - m) (l.drop m) := by
  obtain ⟨h1, h2, h4⟩ := h
  refine ⟨by rw [List.length_drop]; omega, by omega, fun i y hy => ?_⟩
  have hi := (List.getElem?_eq_some_iff.1 hy).1
  rw [List.length_drop] at hi
  rw [List.getElem?_drop] at hy
  obtain ⟨ad', e, hb, hc⟩ := h4 (m + i) y hy
  refine ⟨ad'.add (m * 3), hA (by omega) ad' e, by rw [block_add]; exact hb, fun j u hu => ?_⟩
  have e3 : (ad'.add (m * 3)).add (i * 3) = ad'.add ((m + i) * 3) := by rw [add_add2, ← Nat.add_mul]
  rw [e3]
  exact hc j u hu
theorem it_take {B : Nat} {W : World} {A : Option Addr} {c m : Nat} {l : List VT} (h : GRow itC 3 B W A c l) (hm : m ≤ l.length) : GRow itC 3 B W A m (l.take m) := by
  obtain ⟨h1, h2, h4⟩ := h
  refine ⟨by rw [List.length_take]; omega, by omega, fun i y hy => ?_⟩
  have hi := (List.getElem?_eq_some_iff.1 hy).1
  rw [List.length_take] at hi
  rw [List.getElem?_take, if_pos (by omega)] at hy
  exact h4 i y hy
theorem it_tail {B : Nat} {W : World} {ad : Addr} {c : Nat} {x : VT} {l : List VT} (h : GRow itC 3 B W (some ad) c (x :: l)) : GRow itC 3 B W (if c = 1 then some ad else some ⟨ad.block, ad.off + 3, none⟩) (c - 1) l := by
  have hc := h.1
  rw [List.length_cons] at hc
  have := it_drop (m := 1) h (if c = 1 then some ad else some ⟨ad.block, ad.off + 3, none⟩) (fun hl ad' e => by
    cases e
    rw [List.length_cons] at hl
    rw [if_neg (by omega)]
    unfold Addr.add
    simp) (by simp)
  simpa using this
theorem flat_it_len (l : List VT) : (l.flatMap itC).length = l.length * 3 := by
  induction l with
  | nil => rfl
  | cons x l ih => rw [List.flatMap_cons, List.length_append, ih, itC_len, List.length_cons]; omega
theorem it_one (l : List VT) : ∀ u, u ∈ l.flatMap itC → u.oneCell' = true := fun u hu => by
  obtain ⟨x, _, hx⟩ := List.mem_flatMap.1 hu
  simp [itC] at hx
  rcases hx with rfl | rfl | rfl <;> rfl
theorem src_alloc {w : World} {A : Option Addr} {l : List Value} (h : SrcAt w A l) (o : Obj) : SrcAt (w.alloc o) A l := by
  rcases h with h | ⟨ad', e, h⟩
  · exact .inl h
  · exact .inr ⟨ad', e, fun j u hu => cell_old (h j u hu) o⟩
/-- What sorted comes to. -/
def SrPost (L : List VT) (w : World) (e : Ending) (w' : World) : Prop :=
  ∃ (A' : Option Addr) (cap' : Nat) (L' : List VT), e = .returned (.slice A' L'.length cap') ∧ Below w.heap.size w w' ∧ L'.length = L.length ∧ SortP L' ∧ (∀ p, L'.countP p = L.countP p) ∧ (∀ r, r ∈ L' → r ∈ L) ∧ GRow itC 3 w'.heap.size w' A' cap' L'
/-- What stands at the head of the loop. -/
structure MgI (W : World) (La Lb l1 l2 R : List VT) (ov : Value) (wr : World) : Prop where
  p1 : SortP (R ++ l1)
  p2 : SortP (R ++ l2)
  cnt : ∀ p, R.countP p + l1.countP p + l2.countP p = La.countP p + Lb.countP p
  len : R.length + l1.length + l2.length = La.length + Lb.length
  own : wr.ownsRow W.heap.size 48 3 ov R.length (R.flatMap itC)
  fr : PFr (fun _ => False) W (.slice none 0 0) wr ov
  mem : ∀ r, r ∈ R ∨ r ∈ l1 ∨ r ∈ l2 → r ∈ La ∨ r ∈ Lb
theorem sort_app {l r : List VT} : SortP (l ++ r) ↔ SortP l ∧ SortP r ∧ ∀ a, a ∈ l → ∀ b, b ∈ r → 0 ≤ cmpR b a := List.pairwise_append
theorem le_tr {a b c : VT} (h1 : 0 ≤ cmpR b a) (h2 : 0 ≤ cmpR c b) : 0 ≤ cmpR c a := by
  have t := (cmpR_tr a b c).1
  have e1 := cmpR_neg a b
  have e2 := cmpR_neg b c
  have e3 := cmpR_neg a c
  have := t (by omega) (by omega)
  omega
theorem sort_step {R l1 l2 : List VT} {x y : VT} (h1 : SortP (R ++ (x :: l1))) (h2 : SortP (R ++ (y :: l2))) (hxy : 0 ≤ cmpR y x) : SortP ((R ++ [x]) ++ l1) ∧ SortP ((R ++ [x]) ++ (y :: l2)) := by
  refine ⟨by rw [List.append_assoc]; exact h1, ?_⟩
  obtain ⟨a1, a2, a3⟩ := sort_app.1 h1
  obtain ⟨b1, b2, b3⟩ := sort_app.1 h2
  have hx : ∀ z, z ∈ y :: l2 → 0 ≤ cmpR z x := fun z hz => by
    rcases List.mem_cons.1 hz with rfl | hz
    · exact hxy
    · exact le_tr hxy ((List.pairwise_cons.1 b2).1 z hz)
  refine sort_app.2 ⟨sort_app.2 ⟨a1, List.pairwise_singleton _ _, fun a ha b hb => ?_⟩, b2, fun a ha b hb => ?_⟩
  · rw [List.mem_singleton] at hb
    subst hb
    exact a3 a ha b (by simp)
  · rcases List.mem_append.1 ha with ha | ha
    · exact b3 a ha b hb
    · rw [List.mem_singleton] at ha
      subst ha
      exact hx b hb
theorem MgI.left {W : World} {La Lb l1 l2 R : List VT} {x y : VT} {ov ov' : Value} {wr wx w5 : World} {o : Obj} (h : MgI W La Lb (x :: l1) (y :: l2) R ov wr) (hxy : 0 ≤ cmpR y x) (hb : Below wr.heap.size wr wx) (hown : w5.ownsRow W.heap.size 48 3 ov' (R.length + 1) (R.flatMap itC ++ itC x)) (hg : (wx.alloc o).grownBy w5 ov.ownBlock) (hm : Moved (wx.alloc o) ov ov') : MgI W La Lb l1 (y :: l2) (R ++ [x]) ov' w5 where
  p1 := (sort_step h.p1 h.p2 hxy).1
  p2 := (sort_step h.p1 h.p2 hxy).2
  cnt := fun p => by
    have := h.cnt p
    rw [List.countP_append, List.countP_singleton]
    rw [List.countP_cons] at this
    omega
  len := by
    have := h.len
    rw [List.length_append]
    simp only [List.length_cons, List.length_nil] at this ⊢
    omega
  own := by rw [List.flatMap_append, List.length_append]; simpa using hown
  fr := h.fr.trans ((PFr.below hb).trans ((PFr.below (bel1 wx o)).trans (PFr.grown hg hm)))
  mem := fun r hr => h.mem r (by
    rcases hr with hr | hr | hr
    · rcases List.mem_append.1 hr with hr | hr
      · exact .inl hr
      · rw [List.mem_singleton] at hr; subst hr; exact .inr (.inl (by simp))
    · exact .inr (.inl (by simp [hr]))
    · exact .inr (.inr hr))
theorem MgI.swap {W : World} {La Lb l1 l2 R : List VT} {ov : Value} {wr : World} (h : MgI W La Lb l1 l2 R ov wr) : MgI W Lb La l2 l1 R ov wr where
  p1 := h.p2
  p2 := h.p1
  cnt := fun p => by have := h.cnt p; omega
  len := by have := h.len; omega
  own := h.own
  fr := h.fr
  mem := fun r hr => (h.mem r (by rcases hr with hr | hr | hr; exact .inl hr; exact .inr (.inr hr); exact .inr (.inl hr))).symm
theorem byk_reg {w : World} {v v2 : Value} (h1 : v.oneCell' = true) (h2 : v2.oneCell' = true) : ∀ (d : Nat) (os : Array Obj),
    Calls Try.prog 38 #[.agg #[v, .slice none 0 0, .int .i64 0], .agg #[v2, .slice none 0 0, .int .i64 0], .slice none 0 0] (Sort.grow (redrawn w d) os) fun e w'' => e = .returned (.int .i64 0) ∧ ∃ p : Regrown, w'' = Sort.grow (redrawn w p.d) p.os := fun _d _os =>
  Calls.regrown_of (rbyKeys_any v v2 _ h1 h2)
set_option maxRecDepth 100000 in
set_option maxHeartbeats 8000000 in
theorem rsorted_any : ∀ (n : Nat) (L : List VT) (A : Option Addr) (cap B : Nat) (w : World), L.length = n → GRow itC 3 B w A cap L → (∀ r, r ∈ L → VT.Rows B w r.a.A r.a.cap r.l) → B ≤ w.heap.size → n ≤ 4194304 →
    Calls Try.prog 30 #[.slice A n cap, .slice none 0 0] w (SrPost L w) := by
  intro n
  induction n using Nat.strongRecOn with
  | ind n ih =>
  intro L A cap B w hn hg hrr hB hmax
  by_cases hsm : n ≤ 1
  · have Hg := Lib.hid hg
    have Hn := Lib.hid hn
    clear hg hrr hn ih
    go_enter Try.func30, Try.ntmps30
    go_wp2
    go_ret
    refine ⟨A, cap, L, by rw [Hn.out]; rfl, Below.refl _ _, rfl, ?_, fun p => rfl, fun r h => h, Hg.out.more hB⟩
    match L, Hn.out with
    | [], _ => exact List.Pairwise.nil
    | [x], _ => exact List.pairwise_singleton _ _
    | x :: y :: l, h => simp at h; omega
  · obtain ⟨i0, hi, iz, isz, iby⟩ := info_parts infoItem
    obtain ⟨m, hm⟩ : ∃ m, n / 2 = m := ⟨_, rfl⟩
    have hm0 : 0 < m := by omega
    have hmn : m < n := by omega
    have hc1 := hg.1
    have hc2 := hg.2.1
    rw [hn] at hc1
    obtain ⟨x0, ad, _, rfl, hab, _⟩ := hg.get (show 0 < L.length by omega)
    have e1 : ((n : Int) / 2) = (m : Int) := by omega
    have h1 := Lib.hid (ih m hmn (L.take m) (some ad) m B w (by rw [List.length_take]; omega) (it_take hg (by omega)) (fun r hr => hrr r (List.mem_of_mem_take hr)) hB (by omega))
    unfold maxLen at hc2
    have Hg := Lib.hid hg
    have Hrr := Lib.hid hrr
    have Hn := Lib.hid hn
    have Hih := Lib.hid ih
    clear hg hrr hn ih hm
    go_enter Try.func30, Try.ntmps30
    go_wp2_with fail
    refine h1.out.mono ?_
    rintro e w1 ⟨A1, c1, La, rfl, hb1, hl1, hs1, hn1, hm1, hg1⟩
    have hl1m : La.length = m := by rw [hl1, List.length_take, Hn.out]; omega
    rw [hl1m]
    have Hs1 := Lib.hid hs1
    have Hn1 := Lib.hid hn1
    have Hm1 := Lib.hid hm1
    have Hg1 := Lib.hid hg1
    have Hl1 := Lib.hid hl1m
    clear hs1 hn1 hm1 hg1 hl1 hl1m h1
    have h2 := Lib.hid (Hih.out (n - m) (by omega) (L.drop m) (some (ad.add (m * 3))) (cap - m) B w1 (by rw [List.length_drop, Hn.out]) (it_drop (Hg.out.keep (Same.mono (Same.of_below hb1) hB)) _ (fun _ ad' e => by cases e; rfl) (by rw [Hn.out]; omega))
      (fun r hr => (Hrr.out r (List.mem_of_mem_drop hr)).keep (Same.mono (Same.of_below hb1) hB)) (Nat.le_trans hB hb1.size) (by omega))
    clear Hih
    go_wp2_with fail
    refine h2.out.mono ?_
    rintro e w2 ⟨A2, c2, Lb, rfl, hb2, hl2, hs2, hn2, hm2, hg2⟩
    have hl2m : Lb.length = n - m := by rw [hl2, List.length_drop, Hn.out]
    rw [hl2m]
    have hb12 : Below w.heap.size w w2 := hb1.trans (hb2.mono hb1.size)
    have Hs2 := Lib.hid hs2
    have Hn2 := Lib.hid hn2
    have Hm2 := Lib.hid hm2
    have Hg2 := Lib.hid hg2
    have Hl2 := Lib.hid hl2m
    have HG1 := Lib.hid ((Hg1.out.keep (Same.of_below hb2)).more hb2.size)
    have Hrr2 : Hid (∀ r, r ∈ La ∨ r ∈ Lb → VT.Rows B w2 r.a.A r.a.cap r.l) := fun r hr => by
      have : r ∈ L := by
        rcases hr with hr | hr
        · exact List.mem_of_mem_take (Hm1.out r hr)
        · exact List.mem_of_mem_drop (hm2 r hr)
      exact (Hrr.out r this).keep (Same.mono (Same.of_below hb12) hB)
    have hB2 : B ≤ w2.heap.size := Nat.le_trans hB hb12.size
    clear hs2 hn2 hm2 hg2 hl2 hl2m h2 Hg Hrr Hg1
    obtain ⟨Z, hZ⟩ : ∃ Z, madeCells (Value.cells (.agg #[.slice none 0 0, .slice none 0 0, .int .i64 0])) (n * i0.size) = Z := ⟨_, rfl⟩
    have hmk : ∀ W : World, (Instr.makeSlice 46 (.int .i64 0) (.int .i64 (n : Int))).run Try.prog W = .ok (.slice (some ⟨W.heap.size, 0, none⟩) 0 n) (W.alloc (.cells Z 48)) := fun W => by
      have := run_makeSlice W 46 48 i0 _ Try.underlying46 hi iz .i64 .i64 0 (n : Int) (by omega) (by omega) (by rw [isz]; simp; omega) (by rw [iby]; omega) (by omega)
      simp only [Int.toNat_natCast] at this
      rw [hZ] at this
      exact this
    have hZs : Z.size = n * 3 := by rw [← hZ, size_madeCells, isz]
    clear hZ
    obtain ⟨W3, hW3⟩ : ∃ W3, w2.alloc (.cells Z 48) = W3 := ⟨_, rfl⟩
    have hb3 : Below w2.heap.size w2 W3 := by rw [← hW3]; exact bel1 _ _
    have hown3 : W3.ownsRow w2.heap.size 48 3 (.slice (some ⟨w2.heap.size, 0, none⟩) 0 n) 0 [] := by rw [← hW3]; exact World.ownsRow_made w2 Z n (Nat.le_refl _) (by unfold maxLen; omega) hZs
    have HW3 := Lib.hid hW3
    have Hown3 := Lib.hid hown3
    clear hW3 hown3 hZs
    go_upto_region 7 with (fail)
    rw [HW3.out]
    clear HW3 hmk
    have HB3 := Lib.hid hb3
    go_loopw [6, 7, 8] (fun va vb ov wr => ∃ l1 l2 R, ISl w2 va l1 ∧ ISl w2 vb l2 ∧ MgI w2 La Lb l1 l2 R ov wr) (fun va vb _ _ => slLen va + slLen vb)
    case atStart =>
      refine ⟨La, Lb, [], ⟨A1, c1, by rw [Hl1.out], HG1.out⟩, ⟨A2, c2, by rw [Hl2.out], Hg2.out⟩, Hs1.out, Hs2.out, fun p => by simp, by simp, Hown3.out, ⟨HB3.out.os, HB3.out.tape, HB3.out.output, HB3.out.size, fun k hk _ _ => HB3.out.block k hk, .inr fun k hk => by cases hk; exact Nat.le_refl _⟩, fun r hr => ?_⟩
      rcases hr with hr | hr | hr
      · cases hr
      · exact .inl hr
      · exact .inr hr
    case round =>
      obtain ⟨l1, l2, R, ⟨B1, d1, rfl, hq1⟩, ⟨B2, d2, rfl, hq2⟩, hmg⟩ := hrel
      cases l1 with
      | nil =>
        have Hq1 := Lib.hid hq1
        have Hq2 := Lib.hid hq2
        have Hmg := Lib.hid hmg
        obtain ⟨n1, hn1'⟩ : ∃ q, ([]).length = q := ⟨_, rfl⟩
        obtain ⟨n2, hn2'⟩ : ∃ q, (l2).length = q := ⟨_, rfl⟩
        obtain ⟨nr, hnr'⟩ : ∃ q, R.length = q := ⟨_, rfl⟩
        have htot : nr + n1 + n2 = n := by have := hmg.len; rw [hn1', hn2', hnr', Hl1.out, Hl2.out] at this; omega
        have hbr : Below w2.heap.size w2 wr := hmg.fr.toBelow (Nat.le_refl _) (fun k e => e.elim)
        have hbz := hbr.size
        have hs1 : Hid (SrcAt wr B1 (([]).flatMap itC)) := grow_src (hq1.keep (Same.of_below hbr)) (by decide) itC_len
        have hln1 : Hid ((([]).flatMap itC).length = n1 * 3) := by show _ = _; rw [flat_it_len, hn1']
        have hln2 : Hid (((l2).flatMap itC).length = n2 * 3) := by show _ = _; rw [flat_it_len, hn2']
        have h3 : Hid (nr + n1 ≤ maxLen) := by show _ ≤ _; unfold maxLen; omega
        have h4 : Hid ((nr + n1) * 56 ≤ 140737488355328) := by show _ ≤ _; omega
        have h3b : Hid (nr + n1 + n2 ≤ maxLen) := by show _ ≤ _; unfold maxLen; omega
        have h4b : Hid ((nr + n1 + n2) * 56 ≤ 140737488355328) := by show _ ≤ _; omega
        have hown : Hid (wr.ownsRow w2.heap.size 48 3 u8 nr (R.flatMap itC)) := by
          have := hmg.own
          rw [hnr'] at this
          exact this
        have Hn1' := Lib.hid hn1'
        have Hn2' := Lib.hid hn2'
        have Hnr' := Lib.hid hnr'
        have Hbr := Lib.hid hbr
        rw [hn1', hn2']
        have z1 : ¬ 0 < n1 := by rw [← hn1']; simp
        clear hq1 hq2 hmg hn1' hn2' hnr' hbr
        go_upto_region 19 with (at_builtin; refine wpList_append_row _ rfl _ _ 46 rfl w2.heap.size 48 i0 _ 3 56 Try.underlying46 hi iz isz iby rfl (by decide) u8 nr _ rfl hown.out B1 n1 d1 _ rfl hln1.out hs1.out (it_one _) h3.out h4.out hbz ?_; intro v5 w5 hown5 hg5 hm5)
        have hp5 : PFr (fun _ => False) w2 (.slice none 0 0) w5 v5 := Hmg.out.fr.trans (PFr.grown hg5 hm5)
        have hb5 : Below w2.heap.size w2 w5 := hp5.toBelow (Nat.le_refl _) (fun k e => e.elim)
        have hs2 : Hid (SrcAt w5 B2 ((l2).flatMap itC)) := grow_src (Hq2.out.keep (Same.of_below hb5)) (by decide) itC_len
        have hbz5 := hb5.size
        have Hp5 := Lib.hid hp5
        clear hg5 hm5 hp5 hb5
        go_wp2_with (at_builtin; refine wpList_append_row _ rfl _ _ 46 rfl w2.heap.size 48 i0 _ 3 56 Try.underlying46 hi iz isz iby rfl (by decide) v5 (nr + n1) _ rfl hown5 B2 n2 d2 _ rfl hln2.out hs2.out (it_one _) h3b.out h4b.out hbz5 ?_; intro v6 w6 hown6 hg6 hm6)
        have hp6 : PFr (fun _ => False) w2 (.slice none 0 0) w6 v6 := Hp5.out.trans (PFr.grown hg6 hm6)
        have hb6 : Below w2.heap.size w2 w6 := hp6.toBelow (Nat.le_refl _) (fun k e => e.elim)
        have hown6' : w6.ownsRow w2.heap.size 48 3 v6 (nr + n1 + n2) ((R ++ [] ++ l2).flatMap itC) := by
          rw [List.flatMap_append, List.flatMap_append]
          exact hown6
        have hll : (R ++ [] ++ l2).length = nr + n1 + n2 := by rw [List.length_append, List.length_append, Hn1'.out, Hn2'.out, Hnr'.out]
        obtain ⟨A6, c6, rfl, hg6', _⟩ := own_grow (c := itC) hown6' hll (fun r _ => rfl)
        go_ret
        refine ⟨A6, c6, R ++ [] ++ l2, by rw [hll]; rfl, hb12.trans (hb6.mono hb12.size), by rw [hll, htot, Hn.out], ?_, fun p => ?_, fun r hr => ?_, hg6'⟩
        · rw [List.append_nil]; exact Hmg.out.p2
        · have h := Hmg.out.cnt p
          rw [Hn1.out, Hn2.out] at h
          rw [List.countP_append, List.countP_append, h, ← List.countP_append, List.take_append_drop]
        · have hr' : r ∈ La ∨ r ∈ Lb := Hmg.out.mem r (by
            rcases List.mem_append.1 hr with hr | hr
            · rcases List.mem_append.1 hr with hr | hr
              · exact .inl hr
              · exact .inr (.inl hr)
            · exact .inr (.inr hr))
          rcases hr' with h | h
          · exact List.mem_of_mem_take (Hm1.out r h)
          · exact List.mem_of_mem_drop (Hm2.out r h)
      | cons x l1 =>
        cases l2 with
        | nil =>
          have Hq1 := Lib.hid hq1
          have Hq2 := Lib.hid hq2
          have Hmg := Lib.hid hmg
          obtain ⟨n1, hn1'⟩ : ∃ q, (x :: l1).length = q := ⟨_, rfl⟩
          obtain ⟨n2, hn2'⟩ : ∃ q, ([]).length = q := ⟨_, rfl⟩
          obtain ⟨nr, hnr'⟩ : ∃ q, R.length = q := ⟨_, rfl⟩
          have htot : nr + n1 + n2 = n := by have := hmg.len; rw [hn1', hn2', hnr', Hl1.out, Hl2.out] at this; omega
          have hbr : Below w2.heap.size w2 wr := hmg.fr.toBelow (Nat.le_refl _) (fun k e => e.elim)
          have hbz := hbr.size
          have hs1 : Hid (SrcAt wr B1 ((x :: l1).flatMap itC)) := grow_src (hq1.keep (Same.of_below hbr)) (by decide) itC_len
          have hln1 : Hid (((x :: l1).flatMap itC).length = n1 * 3) := by show _ = _; rw [flat_it_len, hn1']
          have hln2 : Hid ((([]).flatMap itC).length = n2 * 3) := by show _ = _; rw [flat_it_len, hn2']
          have h3 : Hid (nr + n1 ≤ maxLen) := by show _ ≤ _; unfold maxLen; omega
          have h4 : Hid ((nr + n1) * 56 ≤ 140737488355328) := by show _ ≤ _; omega
          have h3b : Hid (nr + n1 + n2 ≤ maxLen) := by show _ ≤ _; unfold maxLen; omega
          have h4b : Hid ((nr + n1 + n2) * 56 ≤ 140737488355328) := by show _ ≤ _; omega
          have hown : Hid (wr.ownsRow w2.heap.size 48 3 u8 nr (R.flatMap itC)) := by
            have := hmg.own
            rw [hnr'] at this
            exact this
          have Hn1' := Lib.hid hn1'
          have Hn2' := Lib.hid hn2'
          have Hnr' := Lib.hid hnr'
          have Hbr := Lib.hid hbr
          rw [hn1', hn2']
          (have z1 : 0 < n1 := by (rw [← hn1']; simp)); (have z2 : ¬ 0 < n2 := by (rw [← hn2']; simp))
          clear hq1 hq2 hmg hn1' hn2' hnr' hbr
          go_upto_region 19 with (at_builtin; refine wpList_append_row _ rfl _ _ 46 rfl w2.heap.size 48 i0 _ 3 56 Try.underlying46 hi iz isz iby rfl (by decide) u8 nr _ rfl hown.out B1 n1 d1 _ rfl hln1.out hs1.out (it_one _) h3.out h4.out hbz ?_; intro v5 w5 hown5 hg5 hm5)
          have hp5 : PFr (fun _ => False) w2 (.slice none 0 0) w5 v5 := Hmg.out.fr.trans (PFr.grown hg5 hm5)
          have hb5 : Below w2.heap.size w2 w5 := hp5.toBelow (Nat.le_refl _) (fun k e => e.elim)
          have hs2 : Hid (SrcAt w5 B2 (([]).flatMap itC)) := grow_src (Hq2.out.keep (Same.of_below hb5)) (by decide) itC_len
          have hbz5 := hb5.size
          have Hp5 := Lib.hid hp5
          clear hg5 hm5 hp5 hb5
          go_wp2_with (at_builtin; refine wpList_append_row _ rfl _ _ 46 rfl w2.heap.size 48 i0 _ 3 56 Try.underlying46 hi iz isz iby rfl (by decide) v5 (nr + n1) _ rfl hown5 B2 n2 d2 _ rfl hln2.out hs2.out (it_one _) h3b.out h4b.out hbz5 ?_; intro v6 w6 hown6 hg6 hm6)
          have hp6 : PFr (fun _ => False) w2 (.slice none 0 0) w6 v6 := Hp5.out.trans (PFr.grown hg6 hm6)
          have hb6 : Below w2.heap.size w2 w6 := hp6.toBelow (Nat.le_refl _) (fun k e => e.elim)
          have hown6' : w6.ownsRow w2.heap.size 48 3 v6 (nr + n1 + n2) ((R ++ x :: l1 ++ []).flatMap itC) := by
            rw [List.flatMap_append, List.flatMap_append]
            exact hown6
          have hll : (R ++ x :: l1 ++ []).length = nr + n1 + n2 := by rw [List.length_append, List.length_append, Hn1'.out, Hn2'.out, Hnr'.out]
          obtain ⟨A6, c6, rfl, hg6', _⟩ := own_grow (c := itC) hown6' hll (fun r _ => rfl)
          go_ret
          refine ⟨A6, c6, R ++ x :: l1 ++ [], by rw [hll]; rfl, hb12.trans (hb6.mono hb12.size), by rw [hll, htot, Hn.out], ?_, fun p => ?_, fun r hr => ?_, hg6'⟩
          · rw [List.append_nil]; exact Hmg.out.p1
          · have h := Hmg.out.cnt p
            rw [Hn1.out, Hn2.out] at h
            rw [List.countP_append, List.countP_append, h, ← List.countP_append, List.take_append_drop]
          · have hr' : r ∈ La ∨ r ∈ Lb := Hmg.out.mem r (by
              rcases List.mem_append.1 hr with hr | hr
              · rcases List.mem_append.1 hr with hr | hr
                · exact .inl hr
                · exact .inr (.inl hr)
              · exact .inr (.inr hr))
            rcases hr' with h | h
            · exact List.mem_of_mem_take (Hm1.out r h)
            · exact List.mem_of_mem_drop (Hm2.out r h)
        | cons y l2 =>
          obtain ⟨n1, hn1'⟩ : ∃ q, (x :: l1).length = q := ⟨_, rfl⟩
          obtain ⟨n2, hn2'⟩ : ∃ q, (y :: l2).length = q := ⟨_, rfl⟩
          obtain ⟨nr, hnr'⟩ : ∃ q, R.length = q := ⟨_, rfl⟩
          have htot : nr + n1 + n2 = n := by have := hmg.len; rw [hn1', hn2', hnr', Hl1.out, Hl2.out] at this; omega
          have p1 : 0 < n1 := by rw [← hn1']; simp
          have p2 : 0 < n2 := by rw [← hn2']; simp
          have z1 : n1 - 1 = l1.length := by rw [← hn1']; simp
          have z2 : n2 - 1 = l2.length := by rw [← hn2']; simp
          have hbr : Below w2.heap.size w2 wr := hmg.fr.toBelow (Nat.le_refl _) (fun k e => e.elim)
          have hSr : Same w2.heap.size w2 wr := Same.of_below hbr
          obtain ⟨a1, rfl, ha1, u10, u11, u12⟩ := it_head hq1
          obtain ⟨a2, rfl, ha2, u20, u21, u22⟩ := it_head hq2
          have hxr := Hrr2.out x (hmg.mem x (.inr (.inl (by simp))))
          have hyr := Hrr2.out y (hmg.mem y (.inr (.inr (by simp))))
          have hby := Lib.hid (byk_reg (w := wr) (v := .slice x.a.A x.l.length x.a.cap) (v2 := .slice y.a.A y.l.length y.a.cap) rfl rfl)
          have hown : Hid (wr.ownsRow w2.heap.size 48 3 u8 nr (R.flatMap itC)) := by
            have := hmg.own
            rw [hnr'] at this
            exact this
          have k10 := cell_regrown ((hSr.cell ha1).trans u10)
          have k11 := cell_regrown ((hSr.cell (p := ⟨a1.block, a1.off + 1, none⟩) ha1).trans u11)
          have k12 := cell_regrown ((hSr.cell (p := ⟨a1.block, a1.off + 2, none⟩) ha1).trans u12)
          have k20 := cell_regrown ((hSr.cell ha2).trans u20)
          have k21 := cell_regrown ((hSr.cell (p := ⟨a2.block, a2.off + 1, none⟩) ha2).trans u21)
          have k22 := cell_regrown ((hSr.cell (p := ⟨a2.block, a2.off + 2, none⟩) ha2).trans u22)
          obtain ⟨C, hC⟩ : ∃ C, cmpR x y = C := ⟨_, rfl⟩
          have h3 : Hid (nr + 1 ≤ maxLen) := by show _ ≤ _; unfold maxLen; omega
          have h4 : Hid ((nr + 1) * 56 ≤ 140737488355328) := by show _ ≤ _; omega
          have Hn1' := Lib.hid hn1'
          have Hn2' := Lib.hid hn2'
          have Hnr' := Lib.hid hnr'
          have Hbr := Lib.hid hbr
          have Hq1 := Lib.hid hq1
          have Hq2 := Lib.hid hq2
          have Hmg := Lib.hid hmg
          have HC := Lib.hid hC
          have Hxr := Lib.hid hxr
          have Hyr := Lib.hid hyr
          have U10 := Lib.hid u10
          have U11 := Lib.hid u11
          have U12 := Lib.hid u12
          have U20 := Lib.hid u20
          have U21 := Lib.hid u21
          have U22 := Lib.hid u22
          rw [hn1', hn2']
          clear hq1 hq2 hmg hn1' hn2' hnr' hbr hSr hC hxr hyr u10 u11 u12 u20 u21 u22
          go_upto_region 8 with (fail)
          (refine wp_region_quiet_below (by kernel_rfl) (by kernel_rfl) ?_; (repeat (quiet_step (with_reducible first | exact hby.out _ _))); refine wpQuiet_nil ?_; intro _ hw'; obtain ⟨⟨dq, osq⟩, hw''⟩ := hw'; subst hw'')
          have hbwj := below_regrown wr dq osq
          have hw1 : Sort.grow (redrawn wr (Regrown.mk dq osq).d) (Regrown.mk dq osq).os = Sort.grow (redrawn wr dq) osq := rfl
          rw [hw1]
          clear hw1
          generalize Sort.grow (redrawn wr dq) osq = wj at hbwj ⊢
          clear k10 k11 k12 k20 k21 k22 hby
          have hbj : Below w2.heap.size w2 wj := Hbr.out.trans (hbwj.mono Hbr.out.size)
          have hSj : Same w2.heap.size w2 wj := Same.of_below hbj
          have k10 := cell_regrown ((hSj.cell ha1).trans U10.out)
          have k20 := cell_regrown ((hSj.cell ha2).trans U20.out)
          have hcm := Lib.hid (rcmp_reg (Hxr.out.keep (Same.mono hSj hB2)) (Hyr.out.keep (Same.mono hSj hB2)) (Nat.le_trans hB2 hbj.size) HC.out)
          have Hbwj := Lib.hid hbwj
          clear hbwj hbj hSj
          go_upto_region 10 with (fail)
          (refine wp_region_quiet_below (by kernel_rfl) (by kernel_rfl) ?_; (repeat (quiet_step (with_reducible first | exact hcm.out _ _))); refine wpQuiet_nil ?_; intro _ hw'; obtain ⟨⟨dq, osq⟩, hw''⟩ := hw'; subst hw'')
          have hbwk := below_regrown wj dq osq
          have hw1 : Sort.grow (redrawn wj (Regrown.mk dq osq).d) (Regrown.mk dq osq).os = Sort.grow (redrawn wj dq) osq := rfl
          rw [hw1]
          clear hw1
          generalize Sort.grow (redrawn wj dq) osq = wk at hbwk ⊢
          clear k10 k20 hcm
          have hbk : Below wr.heap.size wr wk := Hbwj.out.trans (hbwk.mono Hbwj.out.size)
          have Hbk := Lib.hid hbk
          clear hbwk hbk
          rcases Int.lt_trichotomy C 0 with hlt | hz | hgt
          · have hle : (C == 0) = false := by simp; omega
            have hxy : Hid (0 ≤ cmpR y x) := by show _ ≤ _; have := cmpR_neg x y; have := HC.out; omega
            have hng : C ≤ 0 := by omega
            clear hlt
            go_upto_region 14 with (fail)
            have hbwk : Below w2.heap.size w2 wk := Hbr.out.trans (Hbk.out.mono Hbr.out.size)
            have hSk : Same w2.heap.size w2 wk := Same.of_below hbwk
            have g0 := (hSk.cell ha1).trans U10.out
            have g1 := (hSk.cell (p := ⟨a1.block, a1.off + 1, none⟩) ha1).trans U11.out
            have g2 := (hSk.cell (p := ⟨a1.block, a1.off + 2, none⟩) ha1).trans U12.out
            have hownY : Hid (∀ o, (wk.alloc o).ownsRow w2.heap.size 48 3 u8 nr (R.flatMap itC)) := fun o => (own_below hown.out Hbk.out).alloc o
            have h5 : Hid (∀ o, w2.heap.size ≤ (wk.alloc o).heap.size) := fun o => by have := hbwk.size; simp; omega
            have Hbx := Lib.hid Hbk.out
            clear hbwk hSk
            go_wp2_with (at_builtin; refine wpList_append_row _ rfl _ _ 46 rfl w2.heap.size 48 i0 _ 3 56 Try.underlying46 hi iz isz iby rfl (by decide) u8 nr _ rfl (hownY.out _) (some ⟨wk.heap.size, 0, none⟩) 1 1 [.slice x.a.A x.l.length x.a.cap, .slice none 0 0, .int .i64 0] rfl rfl (new_src3 _ _ _) (by simp [Value.oneCell']) h3.out h4.out (h5.out _) ?_; intro v5 w5 hown5 hg5 hm5)
            have hown5' : w5.ownsRow w2.heap.size 48 3 v5 (R.length + 1) (R.flatMap itC ++ itC x) := by rw [Hnr'.out]; exact hown5
            skip
            go_wp2
            exact ⟨⟨l1, y :: l2, R ++ [x], ⟨_, _, rfl, it_tail Hq1.out⟩, ⟨some a2, d2, by rw [Hn2'.out], Hq2.out⟩, MgI.left Hmg.out hxy.out Hbx.out hown5' hg5 hm5⟩, by simp [slLen]; omega⟩
          · have hxy : Hid (0 ≤ cmpR y x) := by show _ ≤ _; have := cmpR_neg x y; have := HC.out; omega
            subst hz
            have hSk : Same w2.heap.size w2 wk := Same.of_below (Hbr.out.trans (Hbk.out.mono Hbr.out.size))
            have k12 := (hSk.cell (p := ⟨a1.block, a1.off + 2, none⟩) ha1).trans U12.out
            have k22 := (hSk.cell (p := ⟨a2.block, a2.off + 2, none⟩) ha2).trans U22.out
            clear hSk
            go_upto_region 12 with (fail)
            go_quiet (fail)
            generalize hWl : World.drewN _ _ = wl
            have hbl : Below wr.heap.size wr wl := by rw [← hWl]; exact Hbk.out.trans ((below_dN _ _).mono Hbk.out.size)
            have Hbl := Lib.hid hbl
            clear hWl hbl k12 k22 Hbk
            go_upto_region 14 with (fail)
            have hbwl : Below w2.heap.size w2 wl := Hbr.out.trans (Hbl.out.mono Hbr.out.size)
            have hSl : Same w2.heap.size w2 wl := Same.of_below hbwl
            have g0 := (hSl.cell ha1).trans U10.out
            have g1 := (hSl.cell (p := ⟨a1.block, a1.off + 1, none⟩) ha1).trans U11.out
            have g2 := (hSl.cell (p := ⟨a1.block, a1.off + 2, none⟩) ha1).trans U12.out
            have hownY : Hid (∀ o, (wl.alloc o).ownsRow w2.heap.size 48 3 u8 nr (R.flatMap itC)) := fun o => (own_below hown.out Hbl.out).alloc o
            have h5 : Hid (∀ o, w2.heap.size ≤ (wl.alloc o).heap.size) := fun o => by have := hbwl.size; simp; omega
            have Hbx := Lib.hid Hbl.out
            clear hbwl hSl
            go_wp2_with (at_builtin; refine wpList_append_row _ rfl _ _ 46 rfl w2.heap.size 48 i0 _ 3 56 Try.underlying46 hi iz isz iby rfl (by decide) u8 nr _ rfl (hownY.out _) (some ⟨wl.heap.size, 0, none⟩) 1 1 [.slice x.a.A x.l.length x.a.cap, .slice none 0 0, .int .i64 0] rfl rfl (new_src3 _ _ _) (by simp [Value.oneCell']) h3.out h4.out (h5.out _) ?_; intro v5 w5 hown5 hg5 hm5)
            have hown5' : w5.ownsRow w2.heap.size 48 3 v5 (R.length + 1) (R.flatMap itC ++ itC x) := by rw [Hnr'.out]; exact hown5
            skip
            go_wp2
            exact ⟨⟨l1, y :: l2, R ++ [x], ⟨_, _, rfl, it_tail Hq1.out⟩, ⟨some a2, d2, by rw [Hn2'.out], Hq2.out⟩, MgI.left Hmg.out hxy.out Hbx.out hown5' hg5 hm5⟩, by simp [slLen]; omega⟩
          · have hle : (C == 0) = false := by simp; omega
            have hxy : Hid (0 ≤ cmpR x y) := by show _ ≤ _; have := HC.out; omega
            have hng : ¬ C ≤ 0 := by omega
            clear hgt
            go_upto_region 16 with (fail)
            have hbwk : Below w2.heap.size w2 wk := Hbr.out.trans (Hbk.out.mono Hbr.out.size)
            have hSk : Same w2.heap.size w2 wk := Same.of_below hbwk
            have g0 := (hSk.cell ha2).trans U20.out
            have g1 := (hSk.cell (p := ⟨a2.block, a2.off + 1, none⟩) ha2).trans U21.out
            have g2 := (hSk.cell (p := ⟨a2.block, a2.off + 2, none⟩) ha2).trans U22.out
            have hownY : Hid (∀ o, (wk.alloc o).ownsRow w2.heap.size 48 3 u8 nr (R.flatMap itC)) := fun o => (own_below hown.out Hbk.out).alloc o
            have h5 : Hid (∀ o, w2.heap.size ≤ (wk.alloc o).heap.size) := fun o => by have := hbwk.size; simp; omega
            have Hbx := Lib.hid Hbk.out
            clear hbwk hSk
            go_wp2_with (at_builtin; refine wpList_append_row _ rfl _ _ 46 rfl w2.heap.size 48 i0 _ 3 56 Try.underlying46 hi iz isz iby rfl (by decide) u8 nr _ rfl (hownY.out _) (some ⟨wk.heap.size, 0, none⟩) 1 1 [.slice y.a.A y.l.length y.a.cap, .slice none 0 0, .int .i64 0] rfl rfl (new_src3 _ _ _) (by simp [Value.oneCell']) h3.out h4.out (h5.out _) ?_; intro v5 w5 hown5 hg5 hm5)
            have hown5' : w5.ownsRow w2.heap.size 48 3 v5 (R.length + 1) (R.flatMap itC ++ itC y) := by rw [Hnr'.out]; exact hown5
            skip
            go_wp2
            exact ⟨⟨x :: l1, l2, R ++ [y], ⟨some a1, d1, by rw [Hn1'.out], Hq1.out⟩, ⟨_, _, rfl, it_tail Hq2.out⟩, (MgI.left Hmg.out.swap hxy.out Hbx.out hown5' hg5 hm5).swap⟩, by simp [slLen]; omega⟩
end Go.Proofs.Ytcdaipkkddgbeaa
