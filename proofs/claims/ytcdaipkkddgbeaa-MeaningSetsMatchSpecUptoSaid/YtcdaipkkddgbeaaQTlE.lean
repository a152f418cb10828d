/-
  Package meaning: copyRow, copyRows.
-/
import Derived.Test.YtcdaipkkddgbeaaQCopyB
import Derived.Test.YtcdaipkkddgbeaaQTlD
namespace Go.Proofs.Ytcdaipkkddgbeaa
open Go.RowKit
set_option maxRecDepth 100000 in
theorem clipRows_any (A : Option Addr) (n cap : Nat) (w : World) (h1 : n ≤ cap) (h2 : cap ≤ maxLen) (h0 : A = none → n = 0 ∧ cap = 0) :
    Calls Try.prog 16 #[.slice A n cap] w fun e w' => e = .returned (.slice A n n) ∧ w' = w := by
  unfold maxLen at h2
  cases A with
  | none =>
    obtain ⟨rfl, rfl⟩ := h0 rfl
    go_enter Try.func16, Try.ntmps16
    go_wp2
    go_ret
    exact ⟨rfl, rfl⟩
  | some ad =>
    clear h0
    go_enter Try.func16, Try.ntmps16
    go_wp2
    go_ret
    exact ⟨by simp, rfl⟩
/-- What copyRow comes to. -/
def CrPost (l : List VT) (w : World) (e : Ending) (w' : World) : Prop :=
  ∃ (A : Option Addr) (us : List VT), e = .returned (.slice A us.length us.length) ∧ SmL l us ∧ Below w.heap.size w w' ∧ ∀ w'', Keeps w.heap.size w' w'' → VT.Rows w''.heap.size w'' A us.length us
set_option maxRecDepth 100000 in
set_option maxHeartbeats 4000000 in
theorem mcopyRow_any (A : Option Addr) (cap : Nat) (l : List VT) (B : Nat) (w : World) (hr : VT.Rows B w A cap l) (hB : B ≤ w.heap.size) (hlen4 : l.length ≤ 1048576) (hsml : ∀ x, x ∈ l → VT.Sml x) :
    Calls Try.prog 15 #[.slice A l.length cap] w (CrPost l w) := by
  obtain ⟨len, hlen⟩ : ∃ len, l.length = len := ⟨_, rfl⟩
  rw [hlen] at hlen4 ⊢
  have hlen' := Lib.hid hlen
  clear hlen
  obtain ⟨i0, hi, iz, isz, iby⟩ := info_parts infoValue
  have Hr := Lib.hid hr
  have Hsml := Lib.hid hsml
  clear hr hsml
  go_enter Try.func15, Try.ntmps15
  go_wp2
  go_loopw [3, 8] (fun sv i wr => CpRel l w.heap.size w len sv i wr) (fun _ i _ => len - (intOf i).toNat)
  case atStart => exact ⟨0, [], Nat.zero_le _, rfl, rfl, World.ownsRow_nil _ _ _ _, Below.refl _ _, (fun q x y _ h => by simp at h), (fun y h => by simp at h)⟩
  case round =>
    obtain ⟨j, u, hj, rfl, hu, hown, hbr, hsm', hinu⟩ := hrel
    have hzr : w.heap.size ≤ wr.heap.size := hbr.size
    have hSr : Same B w wr := Same.mono (Same.of_below hbr) hB
    by_cases hlt : j < len
    · obtain ⟨x, ad, hx, rfl, hb, d0, d1, d2, d3, d4⟩ := (Hr.out.1.keep hSr).get (show j < l.length by rw [hlen'.out]; exact hlt)
      obtain ⟨o1, ho1⟩ : ∃ o1, Obj.cells #[.int .i64 x.a.k, .int .i64 x.a.n, .int .i64 x.a.sc, .string x.a.s, .slice x.a.A x.l.length x.a.cap] 33 = o1 := ⟨_, rfl⟩
      obtain ⟨W1, hW1⟩ : ∃ W1, wr.alloc o1 = W1 := ⟨_, rfl⟩
      have hbW1 : Below wr.heap.size wr W1 := by rw [← hW1]; exact bel1 _ _
      have hzW1 : W1.heap.size = wr.heap.size + 1 := by rw [← hW1]; simp
      have hic := Lib.hid (vCopy_any x B W1 ((Hr.out.2 x (mem_of_get? hx)).keep (hSr.trans (Same.mono (Same.of_below hbW1) (by omega)))) (by omega) (Hsml.out x (mem_of_get? hx)))
      have HW1 := Lib.hid hW1
      have Ho1 := Lib.hid ho1
      have Hx := Lib.hid hx
      have HzW1 := Lib.hid hzW1
      have Hu := Lib.hid hu
      have Hsm := Lib.hid hsm'
      have Hinu := Lib.hid hinu
      have Hown := Lib.hid hown
      clear hW1 ho1 hx hzW1 hu hsm' hinu hown hlen' Hr
      go_wp2_with fail
      rw [Ho1.out, HW1.out]
      refine hic.out.mono ?_
      rintro e w2 ⟨y, rfl, hb2, hy, hxy⟩
      have hbr2 : Below wr.heap.size wr w2 := hbW1.trans (hb2.mono (by have := HzW1.out; omega))
      have hz2 := hbr2.size
      have hownY := (own_below Hown.out hbr2)
      have h3 : Hid (j + 1 ≤ maxLen) := by show _ ≤ _; unfold maxLen; omega
      have h4 : Hid ((j + 1) * 64 ≤ 140737488355328) := by show _ ≤ _; omega
      have h5 : Hid (∀ o, w.heap.size ≤ (w2.alloc o).heap.size) := fun o => by simp; omega
      go_wp2_with (at_builtin; refine wpList_append_own2 _ rfl _ _ 27 rfl w.heap.size 33 i0 _ 5 64 Try.underlying27 hi iz isz iby rfl (by decide) _ j (u.flatMap vCells) rfl (hownY.alloc _) ⟨w2.heap.size, 0, none⟩ 1 1 (vCells y) rfl (by decide) rfl (fun q u' h => new_cells _ _ _ q u' h) (vCells_one y) h3.out h4.out (h5.out _) ?_; intro sv' w3 hown3 hg3 hm3)
      have hst := CpRel.step rfl Hx.out hlt Hu.out Hown.out hbr Hsm.out Hinu.out hbr2 W1.heap.size (by have := HzW1.out; omega) hy hxy _ hown3 hg3 hm3
      have Hst := Lib.hid hst
      clear hst hown3 hg3 hm3 hownY
      go_wp2
      go_roundw
      case rel => exact Hst.out
      case measure => simp [intOf]; omega
    · obtain ⟨A', cap', rfl, ha, hb', hc', hat⟩ := own_values hown hu
      obtain rfl : j = len := by omega
      have clip := Lib.hid (clipV_any A' j cap' wr ha hb' hc')
      have Hsm := Lib.hid hsm'
      have Hinu := Lib.hid hinu
      have Hat := Lib.hid hat
      have Hu := Lib.hid hu
      clear hsm' hinu hown hat hu
      go_wp2_with fail
      refine clip.out.mono ?_
      rintro e w' ⟨rfl, rfl⟩
      go_wp2
      go_ret
      refine ⟨A', u, by rw [Hu.out]; rfl, ⟨by rw [Hu.out, hlen'.out], Hsm.out⟩, hbr, fun w'' hk => ⟨⟨Nat.le_refl _, by rw [Hu.out]; exact Nat.le_trans ha hb', fun i x hx => ?_⟩, fun x hx => ?_⟩⟩
      · obtain ⟨ad, e1, _, _, _, e2, e3, e4⟩ := Hat.out i x hx
        refine ⟨ad, e1, Nat.lt_of_lt_of_le e3 hk.2, ?_⟩
        exact e4.keepS (S := fun k => w.heap.size ≤ k ∧ k < wr.heap.size) (fun k hk2 => hk.1 k hk2.1 hk2.2) (by rw [block_add]; exact ⟨e2, e3⟩)
      · exact ((Hinu.out x hx).keep (S' := fun q => q < w''.heap.size) (fun k hk2 => hk.1 k hk2.1 hk2.2.1) (fun k hk2 => Nat.lt_of_lt_of_le hk2.2.1 hk.2)).toIn fun q hq => hq
set_option maxRecDepth 100000 in
set_option maxHeartbeats 4000000 in
theorem mcopyRows_any (RA : Option Addr) (rcap len : Nat) (rows : List VT) (B : Nat) (w : World) (hr : VT.RRow B w RA rcap rows) (hB : B ≤ w.heap.size) (hlen : Hid (rows.length = len)) (h2 : len ≤ 2097152) (hw : ∀ r, r ∈ rows → r.l.length ≤ 1048576) (hsm : ∀ r, r ∈ rows → ∀ x, x ∈ r.l → VT.Sml x) :
    Calls Try.prog 8 #[.slice RA len rcap] w (RwPost (fun q r => ∀ y, rows[q]? = some y → SmL y.l r.l) len 0 w) := by
  obtain ⟨ir, hir, irz, irs, irb⟩ := info_parts infoVals
  have Hr := Lib.hid hr
  have Hw := Lib.hid hw
  have Hsm := Lib.hid hsm
  clear hr hw hsm
  go_enter Try.func8, Try.ntmps8
  go_wp2
  go_loopw [3, 8] (fun ov i wr => RwRel (fun q r => ∀ y, rows[q]? = some y → SmL y.l r.l) len 0 w w ov i wr) (fun _ i _ => len - (intOf i).toNat)
  case atStart => exact RwRel.start
  case round =>
    obtain ⟨wo, rfl⟩ : ∃ wo : World, wo = wr := ⟨_, rfl⟩
    obtain ⟨j, R, hj, rfl, hl, hown, hpf, hmd, hP⟩ := hrel
    have hz := hpf.size
    have hbo : Below w.heap.size w wo := hpf.toBelow (Nat.le_refl _) (fun k e => e.elim)
    have hSo : Same B w wo := Same.mono (Same.of_below hbo) hB
    by_cases hlt : j < len
    · obtain ⟨r, ad, hx, rfl, hab, c0⟩ := (Hr.out.keep hSo).get (show j < rows.length by rw [hlen.out]; exact hlt)
      have hrm := mem_of_get? hx
      have hcp := Lib.hid (mcopyRow_any r.a.A r.a.cap r.l B wo ((Hr.out.2.2.1 r hrm).keep hSo) (by omega) (Hw.out r hrm) (Hsm.out r hrm))
      have Hx := Lib.hid hx
      have Hown := Lib.hid hown
      have Hpf := Lib.hid hpf
      have Hmd := Lib.hid hmd
      have HP := Lib.hid hP
      have Hl := Lib.hid hl
      clear hx hown hpf hmd hP hl hrm
      go_wp2_with fail
      refine hcp.out.mono ?_
      rintro e w5 ⟨NA, us, rfl, hss, hb5, hkp⟩
      have hownY := own_below Hown.out hb5
      have h3 : Hid (j + 1 ≤ maxLen) := by show _ ≤ _; unfold maxLen; omega
      have h4 : Hid ((j + 1) * 24 ≤ 140737488355328) := by show _ ≤ _; omega
      have h5 : Hid (∀ o, w.heap.size ≤ (w5.alloc o).heap.size) := fun o => by have := hb5.size; simp; omega
      have Hmod : Hid (∀ w'', Keeps wo.heap.size w5 w'' → Same 0 w w'' → VT.Rows w''.heap.size w'' NA us.length us) := fun w'' hk _ => hkp w'' hk
      have Hss : Hid (∀ y, rows[j]? = some y → SmL y.l us) := fun y hy => by
        rw [Hx.out] at hy
        cases hy
        exact hss
      have Hb5 := Lib.hid hb5
      obtain ⟨un, hun⟩ : ∃ un, us.length = un := ⟨_, rfl⟩
      rw [hun] at Hmod ⊢
      have hrv : rwV (.node ⟨0, 0, 0, ByteArray.empty, NA, un⟩ us) = .slice NA un un := by unfold rwV; rw [VT.a_node, VT.l_node, hun]
      have Hrv := Lib.hid hrv
      clear hkp hss hb5 hun hrv
      go_wp2_with (at_builtin; refine wpList_append_own2 _ rfl _ _ 22 rfl w.heap.size 27 ir _ 1 24 Try.underlying22 hir irz irs irb rfl (by decide) _ j (R.map rwV) rfl (hownY.alloc _) ⟨w5.heap.size, 0, none⟩ 1 1 [.slice NA un un] rfl (by decide) rfl (fun q u' h => new_cells _ _ _ q u' h) (by simp [Value.oneCell']) h3.out h4.out (h5.out _) ?_; intro ov' w4 hown4 hg4 hm4)
      have HST := Lib.hid (RwRel.step (P := fun q r => ∀ y, rows[q]? = some y → SmL y.l r.l) (r := .node ⟨0, 0, 0, ByteArray.empty, NA, un⟩ us) _ hlt Hl.out Hown.out Hpf.out Hmd.out HP.out Hb5.out Hmod.out Hss.out (by rw [Hrv.out]; exact hown4) hg4 hm4)
      clear hown4 hg4 hm4 hownY
      go_wp2
      go_roundw
      case rel => exact HST.out
      case measure => simp [intOf]; omega
    · obtain rfl : j = len := by omega
      obtain ⟨A, cap, rfl, hcr, hnil⟩ := own_list hown hl
      have hca : j ≤ cap := by have := hcr.1; omega
      have hclip := Lib.hid (clipRows_any A j cap wo hca hcr.2.1 hnil)
      have hfin := Lib.hid (RwRel.fin hl (Below.refl _ _) hown hpf hmd hP j (Nat.le_refl _) (Nat.le_trans hca hcr.2.1) (fun h => ⟨(hnil h).1, (hnil h).1⟩) (Below.refl _ _))
      clear hown hpf hmd hP hcr hnil
      go_wp2_with fail
      refine hclip.out.mono ?_
      rintro e w' ⟨rfl, rfl⟩
      go_wp2
      go_ret
      exact hfin.out
/-- What Combine comes to. -/
def CbxPost (op : Int) (all : Bool) (a b : List VT) (w : World) (e : Ending) (w' : World) : Prop :=
  ∃ (A : Option Addr) (cap : Nat) (T : List TT) (R : List VT), e = .returned (.slice A R.length cap) ∧ Below w.heap.size w w' ∧ TalOk a b T ∧ (∀ t, t ∈ T → t.row ∈ a ∨ t.row ∈ b) ∧ R.length = (expR op all T).length ∧ R.length ≤ a.length + b.length ∧ (∀ (q : Nat) r y, R[q]? = some r → (expR op all T)[q]? = some y → SmL y.l r.l) ∧
    ∀ w'', Keeps w.heap.size w' w'' → VT.RRow w''.heap.size w'' A cap R
set_option maxRecDepth 100000 in
set_option maxHeartbeats 4000000 in
theorem mCombine_any (op : Int) (all : Bool) (A A2 : Option Addr) (cap cap2 : Nat) (a b : List VT) (B : Nat) (w : World) (hop : I64 op) (ha : VT.RRow B w A cap a) (hb : VT.RRow B w A2 cap2 b) (hB : B ≤ w.heap.size) (hn : a.length ≤ 1048576) (hn2 : b.length ≤ 1048576)
    (hsa : ∀ r, r ∈ a → r.l.length ≤ 1048576 ∧ ∀ x, x ∈ r.l → VT.Sml x) (hsb : ∀ r, r ∈ b → r.l.length ≤ 1048576 ∧ ∀ x, x ∈ r.l → VT.Sml x) :
    Calls Try.prog 5 #[.int .i64 op, .bool all, .slice A a.length cap, .slice A2 b.length cap2] w (CbxPost op all a b w) := by
  have h1 := Lib.hid (mcombine_any op all A A2 cap cap2 a b B w hop ha hb hB hn hn2)
  have Hsa := Lib.hid hsa
  have Hsb := Lib.hid hsb
  clear ha hb hop hsa hsb
  go_enter Try.func5, Try.ntmps5
  go_wp2_with fail
  refine h1.out.mono ?_
  rintro e w1 ⟨A1, c1, T, rfl, hb1, htal, hmem, hlen, hrow⟩
  have hin : ∀ r, r ∈ expR op all T → r.l.length ≤ 1048576 ∧ ∀ x, x ∈ r.l → VT.Sml x := fun r hr => by
    obtain ⟨t, ht, hxr⟩ := List.mem_flatMap.1 hr
    rw [List.mem_replicate] at hxr
    rw [hxr.2]
    rcases hmem t ht with h | h
    · exact Hsa.out _ h
    · exact Hsb.out _ h
  obtain ⟨m, hm⟩ : ∃ m, (expR op all T).length = m := ⟨_, rfl⟩
  rw [hm] at hlen ⊢
  have h2 := Lib.hid (mcopyRows_any A1 c1 m (expR op all T) w1.heap.size w1 hrow (Nat.le_refl _) hm (by omega) (fun r hr => (hin r hr).1) (fun r hr => (hin r hr).2))
  have Htal := Lib.hid htal
  have Hmem := Lib.hid hmem
  have Hm := Lib.hid hm
  clear htal hmem hrow hin hm h1
  go_wp2_with fail
  refine h2.out.mono ?_
  rintro e w2 ⟨A3, c3, R, hR, rfl, hb2, hrow, hP, _⟩
  go_wp2
  go_ret
  refine ⟨A3, c3, T, R, by rw [hR]; rfl, hb1.trans (hb2.mono hb1.size), Htal.out, Hmem.out, by rw [hR, Hm.out], by omega, fun q r y hr hy => hP q r hr y hy, fun w'' hk => hrow w'' ⟨fun q h1 h2 => hk.1 q (by have := hb1.size; omega) h2, hk.2⟩ fun q hq => absurd hq (Nat.not_lt_zero _)⟩
end Go.Proofs.Ytcdaipkkddgbeaa
