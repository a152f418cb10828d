/-
  plan.list over slices.
  The closures of mapper.own without a state: a row's values copied, a set of numbers copied.
  A region that draws its order, of which the last operations stand in one order behind all others: it is parted there.
-/
import Derived.Test.YthijagpnpcpcbaaGreatQGtNa
import Derived.StillTail
import Derived.Deep.RegionHeld3
namespace Go.Proofs.YthijagpnpcpcbaaGreat
open Go.RowKit Go.Sort
/-- What the function value comes to at one slice. -/
def OnePost1 {σ : Type} (C : Cl σ) (Sq : σ → Prop) (Rel : DT → DT → Prop) (t : Uy) (x : DT) (s : σ) (W : World) (e : Ending) (W1 : World) : Prop :=
  ∃ (A : Option Addr) (cap : Nat) (l : List DT) (s' : σ), e = .returned (.slice A l.length cap) ∧ Fr C s W s' W1 ∧ Sq s' ∧ UIn (Nw C W.heap.size s' W1) W1 t (.node [.slice A l.length cap] [l]) ∧ Rel x (.node [.slice A l.length cap] [l])
set_option maxRecDepth 100000 in
theorem clipRow_u (A : Option Addr) (n cap : Nat) (w : World) (h1 : n ≤ cap) (h2 : cap ≤ maxLen) (h0 : A = none → n = 0 ∧ cap = 0) :
    Calls Tryz.prog 121 #[.slice A n cap] w fun e w' => e = .returned (.slice A n n) ∧ w' = w := by
  unfold maxLen at h2
  cases A with
  | none =>
    obtain ⟨rfl, rfl⟩ := h0 rfl
    go_enter Tryz.func121, Tryz.ntmps121
    go_wp2
    go_ret
    exact ⟨rfl, rfl⟩
  | some ad =>
    clear h0
    go_enter Tryz.func121, Tryz.ntmps121
    go_wp2
    go_ret
    exact ⟨by simp, rfl⟩
theorem infoRow_u : (Tryz.prog.info? 25).map (fun i => (i.zero.map (fun z => z.cells.size), i.size, i.bytes)) = some (some 1, 1, 24) := by kernel_rfl
set_option maxRecDepth 100000 in
set_option maxHeartbeats 4000000 in
theorem listRow_any {σ : Type} (C : Cl σ) (Sq : Nat → σ → Prop) (Rel : DT → DT → Prop) (g : Nat) (lb : Array Value) (eg : ∀ args w, (callFunc g args).run Tryz.prog w = .ok (.enter g args) w) (l : List DT) (A : Option Addr) (cap : Nat) (S0 : Nat → Prop) (s0 : σ) (w : World) (h0 : Sq 0 s0) (hst : C.St s0 w)
    (hS : ∀ k, S0 k → k < w.heap.size ∧ ¬ C.O s0 k) (hl : DRow S0 w 1 A cap l) (hin : ∀ x, x ∈ l → UIn S0 w .row x) (hn : l.length ≤ 1048576)
    (hone : Hid (∀ (j : Nat) x s W, l[j]? = some x → Sq j s → Fr C s0 w s W → ∀ A cap m, x = .node [.slice A m.length cap] [m] → Calls Tryz.prog g (#[.slice A m.length cap] ++ lb) W (OnePost1 C (Sq (j + 1)) Rel .row x s W))) :
    Calls Tryz.prog 100 #[.slice A l.length cap, .func (.func g) #[] lb] w (LsPost C (Sq l.length) Rel .row l s0 w) := by
  obtain ⟨i0, hi, hrest⟩ := Option.map_eq_some_iff.1 infoRow_u
  simp only [Prod.mk.injEq] at hrest
  obtain ⟨hz0, isz, iby⟩ := hrest
  obtain ⟨z, iz, hzs⟩ := Option.map_eq_some_iff.1 hz0
  obtain ⟨n, hlen⟩ : ∃ n, l.length = n := ⟨_, rfl⟩
  rw [hlen] at hn ⊢
  have Hl := Lib.hid hl
  have Hin := Lib.hid hin
  have HS := Lib.hid hS
  have Hlen := Lib.hid hlen
  have H0 := Lib.hid h0
  have Hst := Lib.hid hst
  clear hl hin hS hlen h0 hst
  go_enter Tryz.func100, Tryz.ntmps100
  go_wp2
  go_loopw [5, 10] (fun ov i wr => ∃ (j : Nat) (ys : List DT) (s : σ), j ≤ n ∧ i = .int .i64 j ∧ LsI C Sq Rel .row 25 l s0 w j ys s ov wr) (fun _ i _ => n - (intOf i).toNat)
  case atStart => exact ⟨0, [], s0, Nat.zero_le _, rfl, LsI.start H0.out Hst.out⟩
  case round =>
    obtain ⟨j, ys, s, hj, rfl, hI⟩ := hrel
    have HI := Lib.hid hI
    have hsrc : ∀ k, S0 k → wr.heap[k]? = w.heap[k]? := fun k hk => hI.fr.block k (HS.out k hk).1 (HS.out k hk).2
    by_cases hlt : j < n
    · obtain ⟨x, ad, hx, rfl, hb, hat⟩ := (Hl.out.keep hsrc (fun _ h => h)).get (show j < l.length by rw [Hlen.out]; exact hlt)
      obtain ⟨XA, xcap, xl, hxe, _, _⟩ := (Hin.out x (mem_of_get? hx)).ro
      have hc0 : wr.cell? (ad.add j) = some (.slice XA xl.length xcap) := by
        have := at_add hat 0 (.slice XA xl.length xcap) (by rw [hxe]; rfl)
        rw [add_add] at this
        simpa using this
      have hcall : Calls Tryz.prog g (#[.slice XA xl.length xcap] ++ lb) wr (OnePost1 C (Sq (j + 1)) Rel .row x s wr) := hone.out j x s wr hx hI.sq hI.fr XA xcap xl hxe
      have Hx := Lib.hid hx
      have HI' := HI
      have hjn : j < 1048576 := by omega
      have h3 : Hid (j + 1 ≤ maxLen) := by show _ ≤ _; unfold maxLen; omega
      have h4 : Hid ((j + 1) * 24 ≤ 140737488355328) := by show _ ≤ _; omega
      have hcallH : Hid (Calls Tryz.prog g (#[.slice XA xl.length xcap] ++ lb) wr fun e w3 => ∃ (YA : Option Addr) (ycap : Nat) (yl : List DT) (s' : σ), e = .returned (.slice YA yl.length ycap) ∧ Hid (Fr C s wr s' w3) ∧ Hid (Sq (j + 1) s') ∧ Hid (UIn (Nw C wr.heap.size s' w3) w3 .row (.node [.slice YA yl.length ycap] [yl])) ∧ Hid (Rel x (.node [.slice YA yl.length ycap] [yl])) ∧ Hid (w3.ownsRow w.heap.size 25 1 u5 j (ys.flatMap DT.c)) ∧ Hid (∀ o, w.heap.size ≤ (w3.alloc o).heap.size)) := by
        refine hcall.mono ?_
        rintro e w3 ⟨YA, ycap, yl, s', rfl, hf, hq, hy, hr⟩
        have hfz := hf.size
        have hw0 := hI.fr.size
        refine ⟨YA, ycap, yl, s', rfl, hf, hq, hy, hr, own_fr hI.own (by omega) fun k hk => ?_, fun o => by simp; omega⟩
        have hl := hI.own.lt k hk
        exact hf.block k (by omega) (hI.ne k hk)
      clear hat hx hI hsrc hcall
      go_wp2_with (first | (go_at_fn g; refine hcallH.out.mono ?_; rintro e w3 ⟨YA, ycap, yl, s', rfl, Hf, Hq, Hy, Hr, Hown3, Hz3⟩) | (at_builtin; refine wpList_append_row _ rfl _ _ 53 rfl w.heap.size 25 i0 _ 1 24 Tryz.underlying53 hi iz isz iby hzs (by decide) u5 _ _ rfl (Hown3.out.alloc _) (some ⟨w3.heap.size, 0, none⟩) 1 1 [.slice YA yl.length ycap] rfl rfl (new_srcK _ _ _) (by simp [Value.oneCell']) h3.out h4.out (Hz3.out _) ?_; intro ov' w4 hown4 hg4 hm4))
      have Hst' := Lib.hid (HI.out.step Hst.out Hx.out (Below.refl _ _) Hf.out Hq.out Hy.out Hr.out hown4 hg4 hm4)
      clear hown4
      go_wp2_with fail
      go_roundw
      case rel => exact ⟨j + 1, ys ++ [.node [.slice YA yl.length ycap] [yl]], s', by omega, by simp, Hst'.out⟩
      case measure => simp [intOf]; omega
    · obtain rfl : j = n := by omega
      have hzo := hI.own
      obtain ⟨A2, cap2, rfl, hrow, hnil⟩ := own_structs hzo hI.len (fun x hx => (hI.ins x hx).len)
      have hc1 := hrow.1
      rw [hI.len] at hc1
      have hclip := Lib.hid (clipRow_u A2 j cap2 wr hc1 hrow.2.1 hnil)
      have hfin := Lib.hid (HI.out.fin Hlen.out)
      clear hzo hrow hnil hI hc1
      go_wp2_with fail
      refine hclip.out.mono ?_
      rintro e w' ⟨rfl, rfl⟩
      go_wp2
      go_ret
      exact hfin.out
set_option maxRecDepth 100000 in
theorem clipSet_u (A : Option Addr) (n cap : Nat) (w : World) (h1 : n ≤ cap) (h2 : cap ≤ maxLen) (h0 : A = none → n = 0 ∧ cap = 0) :
    Calls Tryz.prog 122 #[.slice A n cap] w fun e w' => e = .returned (.slice A n n) ∧ w' = w := by
  unfold maxLen at h2
  cases A with
  | none =>
    obtain ⟨rfl, rfl⟩ := h0 rfl
    go_enter Tryz.func122, Tryz.ntmps122
    go_wp2
    go_ret
    exact ⟨rfl, rfl⟩
  | some ad =>
    clear h0
    go_enter Tryz.func122, Tryz.ntmps122
    go_wp2
    go_ret
    exact ⟨by simp, rfl⟩
theorem infoSet_u : (Tryz.prog.info? 39).map (fun i => (i.zero.map (fun z => z.cells.size), i.size, i.bytes)) = some (some 1, 1, 24) := by kernel_rfl
set_option maxRecDepth 100000 in
set_option maxHeartbeats 4000000 in
theorem listSet_any {σ : Type} (C : Cl σ) (Sq : Nat → σ → Prop) (Rel : DT → DT → Prop) (g : Nat) (lb : Array Value) (eg : ∀ args w, (callFunc g args).run Tryz.prog w = .ok (.enter g args) w) (l : List DT) (A : Option Addr) (cap : Nat) (S0 : Nat → Prop) (s0 : σ) (w : World) (h0 : Sq 0 s0) (hst : C.St s0 w)
    (hS : ∀ k, S0 k → k < w.heap.size ∧ ¬ C.O s0 k) (hl : DRow S0 w 1 A cap l) (hin : ∀ x, x ∈ l → UIn S0 w .set x) (hn : l.length ≤ 1048576)
    (hone : Hid (∀ (j : Nat) x s W, l[j]? = some x → Sq j s → Fr C s0 w s W → ∀ A cap m, x = .node [.slice A m.length cap] [m] → Calls Tryz.prog g (#[.slice A m.length cap] ++ lb) W (OnePost1 C (Sq (j + 1)) Rel .set x s W))) :
    Calls Tryz.prog 104 #[.slice A l.length cap, .func (.func g) #[] lb] w (LsPost C (Sq l.length) Rel .set l s0 w) := by
  obtain ⟨i0, hi, hrest⟩ := Option.map_eq_some_iff.1 infoSet_u
  simp only [Prod.mk.injEq] at hrest
  obtain ⟨hz0, isz, iby⟩ := hrest
  obtain ⟨z, iz, hzs⟩ := Option.map_eq_some_iff.1 hz0
  obtain ⟨n, hlen⟩ : ∃ n, l.length = n := ⟨_, rfl⟩
  rw [hlen] at hn ⊢
  have Hl := Lib.hid hl
  have Hin := Lib.hid hin
  have HS := Lib.hid hS
  have Hlen := Lib.hid hlen
  have H0 := Lib.hid h0
  have Hst := Lib.hid hst
  clear hl hin hS hlen h0 hst
  go_enter Tryz.func104, Tryz.ntmps104
  go_wp2
  go_loopw [5, 10] (fun ov i wr => ∃ (j : Nat) (ys : List DT) (s : σ), j ≤ n ∧ i = .int .i64 j ∧ LsI C Sq Rel .set 39 l s0 w j ys s ov wr) (fun _ i _ => n - (intOf i).toNat)
  case atStart => exact ⟨0, [], s0, Nat.zero_le _, rfl, LsI.start H0.out Hst.out⟩
  case round =>
    obtain ⟨j, ys, s, hj, rfl, hI⟩ := hrel
    have HI := Lib.hid hI
    have hsrc : ∀ k, S0 k → wr.heap[k]? = w.heap[k]? := fun k hk => hI.fr.block k (HS.out k hk).1 (HS.out k hk).2
    by_cases hlt : j < n
    · obtain ⟨x, ad, hx, rfl, hb, hat⟩ := (Hl.out.keep hsrc (fun _ h => h)).get (show j < l.length by rw [Hlen.out]; exact hlt)
      obtain ⟨XA, xcap, xl, hxe, _, _⟩ := (Hin.out x (mem_of_get? hx)).se
      have hc0 : wr.cell? (ad.add j) = some (.slice XA xl.length xcap) := by
        have := at_add hat 0 (.slice XA xl.length xcap) (by rw [hxe]; rfl)
        rw [add_add] at this
        simpa using this
      have hcall : Calls Tryz.prog g (#[.slice XA xl.length xcap] ++ lb) wr (OnePost1 C (Sq (j + 1)) Rel .set x s wr) := hone.out j x s wr hx hI.sq hI.fr XA xcap xl hxe
      have Hx := Lib.hid hx
      have HI' := HI
      have hjn : j < 1048576 := by omega
      have h3 : Hid (j + 1 ≤ maxLen) := by show _ ≤ _; unfold maxLen; omega
      have h4 : Hid ((j + 1) * 24 ≤ 140737488355328) := by show _ ≤ _; omega
      have hcallH : Hid (Calls Tryz.prog g (#[.slice XA xl.length xcap] ++ lb) wr fun e w3 => ∃ (YA : Option Addr) (ycap : Nat) (yl : List DT) (s' : σ), e = .returned (.slice YA yl.length ycap) ∧ Hid (Fr C s wr s' w3) ∧ Hid (Sq (j + 1) s') ∧ Hid (UIn (Nw C wr.heap.size s' w3) w3 .set (.node [.slice YA yl.length ycap] [yl])) ∧ Hid (Rel x (.node [.slice YA yl.length ycap] [yl])) ∧ Hid (w3.ownsRow w.heap.size 39 1 u5 j (ys.flatMap DT.c)) ∧ Hid (∀ o, w.heap.size ≤ (w3.alloc o).heap.size)) := by
        refine hcall.mono ?_
        rintro e w3 ⟨YA, ycap, yl, s', rfl, hf, hq, hy, hr⟩
        have hfz := hf.size
        have hw0 := hI.fr.size
        refine ⟨YA, ycap, yl, s', rfl, hf, hq, hy, hr, own_fr hI.own (by omega) fun k hk => ?_, fun o => by simp; omega⟩
        have hl := hI.own.lt k hk
        exact hf.block k (by omega) (hI.ne k hk)
      clear hat hx hI hsrc hcall
      go_wp2_with (first | (go_at_fn g; refine hcallH.out.mono ?_; rintro e w3 ⟨YA, ycap, yl, s', rfl, Hf, Hq, Hy, Hr, Hown3, Hz3⟩) | (at_builtin; refine wpList_append_row _ rfl _ _ 54 rfl w.heap.size 39 i0 _ 1 24 Tryz.underlying54 hi iz isz iby hzs (by decide) u5 _ _ rfl (Hown3.out.alloc _) (some ⟨w3.heap.size, 0, none⟩) 1 1 [.slice YA yl.length ycap] rfl rfl (new_srcK _ _ _) (by simp [Value.oneCell']) h3.out h4.out (Hz3.out _) ?_; intro ov' w4 hown4 hg4 hm4))
      have Hst' := Lib.hid (HI.out.step Hst.out Hx.out (Below.refl _ _) Hf.out Hq.out Hy.out Hr.out hown4 hg4 hm4)
      clear hown4
      go_wp2_with fail
      go_roundw
      case rel => exact ⟨j + 1, ys ++ [.node [.slice YA yl.length ycap] [yl]], s', by omega, by simp, Hst'.out⟩
      case measure => simp [intOf]; omega
    · obtain rfl : j = n := by omega
      have hzo := hI.own
      obtain ⟨A2, cap2, rfl, hrow, hnil⟩ := own_structs hzo hI.len (fun x hx => (hI.ins x hx).len)
      have hc1 := hrow.1
      rw [hI.len] at hc1
      have hclip := Lib.hid (clipSet_u A2 j cap2 wr hc1 hrow.2.1 hnil)
      have hfin := Lib.hid (HI.out.fin Hlen.out)
      clear hzo hrow hnil hI hc1
      go_wp2_with fail
      refine hclip.out.mono ?_
      rintro e w' ⟨rfl, rfl⟩
      go_wp2
      go_ret
      exact hfin.out
end Go.Proofs.YthijagpnpcpcbaaGreat
namespace Go.Proofs.YthijagpnpcpcbaaGreat
open Go.RowKit Go.Sort
theorem infoIntC : (Tryz.prog.info? 3).map (fun i => (i.zero, i.size, i.bytes)) = some (some (.int .i64 0), 1, 8) := by kernel_rfl
set_option maxRecDepth 100000 in
set_option maxHeartbeats 1000000 in
theorem cloneNu_any (A : Option Addr) (cap : Nat) (l : List DT) (S : Nat → Prop) (w : World) (hr : DRow S w 1 A cap l) (hf : ∀ x, x ∈ l → x.c.length = 1) (h1 : ∀ x, x ∈ l → ∀ u, u ∈ x.c → u.oneCell' = true) (hn : l.length ≤ 1048576) :
    Calls Tryz.prog 106 #[.slice A l.length cap] w fun e w' => ∃ v, e = .returned v ∧ w'.ownsRow w.heap.size 3 1 v l.length (l.flatMap DT.c) ∧ Below w.heap.size w w' := by
  obtain ⟨i0, hi, iz, isz, iby⟩ := info_parts infoIntC
  have q : ∀ (w : World) (a : Option Addr) (n c n' c' : Nat), (binOp .eql 39 (.slice a n c) (.slice none n' c')).run Tryz.prog w = .ok (.bool a.isNone) w := fun w a n c n' c' => Lib.run_eql_slice_nil w _ _ a n c n' c' Tryz.underlying39
  cases A with
  | none =>
    have hl0 : l = [] := by
      cases l with
      | nil => rfl
      | cons y l => obtain ⟨ad, e, _⟩ := hr.2.2 0 y rfl; cases e
    subst hl0
    clear hr hf h1
    go_enter Tryz.func106, Tryz.ntmps106
    go_wp2
    go_ret
    exact ⟨_, rfl, World.ownsRow_nil _ _ _ _, Below.refl _ _⟩
  | some ad =>
    have hsrc := hr.src (by decide) hf
    have hlen := flatD_len hf
    have h1' : ∀ u, u ∈ l.flatMap DT.c → u.oneCell' = true := fun u hu => by
      obtain ⟨x, hx, hux⟩ := List.mem_flatMap.1 hu
      exact h1 x hx u hux
    have Hsrc : Hid (∀ o, SrcAt (w.alloc o) (some ad) (l.flatMap DT.c)) := fun o => by
      rcases hsrc with h | ⟨ad', e, h⟩
      · exact .inl h
      · exact .inr ⟨ad', e, fun j u hu => cell_old (h j u hu) o⟩
    have Hlen := Lib.hid hlen
    have H1 := Lib.hid h1'
    have hb : Hid ((0 + l.length) * 8 ≤ 140737488355328) := by show _ ≤ _; omega
    have hm : Hid (0 + l.length ≤ maxLen) := by show _ ≤ _; unfold maxLen; omega
    clear hsrc hlen h1' hr hf h1
    go_enter Tryz.func106, Tryz.ntmps106
    go_wp2_with (at_builtin; refine wpList_append_row _ rfl _ _ 39 rfl w.heap.size 3 i0 _ 1 8 Tryz.underlying39 hi iz isz iby rfl (by decide) (.slice (some ⟨w.heap.size, 0, none⟩) 0 0) 0 [] rfl (World.ownsRow_made w #[] 0 (Nat.le_refl _) (Nat.zero_le _) rfl) (some ad) l.length cap (l.flatMap DT.c) rfl Hlen.out (Hsrc.out _) H1.out hm.out hb.out (by simp) ?_; intro v' w1 hown1 hg1 hm1)
    go_ret
    refine ⟨v', rfl, by simpa using hown1, ?_⟩
    exact ((Below.refl _ w).alloc (Nat.le_refl _) _).grown hg1 (by simp) (fun k hk => by cases hk; exact Nat.le_refl _)
set_option maxRecDepth 100000 in
theorem clipInt_u (A : Option Addr) (n cap : Nat) (w : World) (h1 : n ≤ cap) (h2 : cap ≤ maxLen) (h0 : A = none → n = 0 ∧ cap = 0) :
    Calls Tryz.prog 52 #[.slice A n cap] w fun e w' => e = .returned (.slice A n n) ∧ w' = w := by
  unfold maxLen at h2
  cases A with
  | none =>
    obtain ⟨rfl, rfl⟩ := h0 rfl
    go_enter Tryz.func52, Tryz.ntmps52
    go_wp2
    go_ret
    exact ⟨rfl, rfl⟩
  | some ad =>
    clear h0
    go_enter Tryz.func52, Tryz.ntmps52
    go_wp2
    go_ret
    exact ⟨by simp, rfl⟩

theorem UIn.num_any {S S' : Nat → Prop} {w w' : World} {d : DT} (h : UIn S w .num d) : UIn S' w' .num d := by
  cases h with
  | mk _ c k hl h1 hok hk hr hx => exact .mk .num c k hl h1 hok hk (fun i o s m h => by simp [Uy.sl] at h) fun i o s m h => by simp [Uy.sl] at h
set_option maxRecDepth 100000 in
set_option maxHeartbeats 1000000 in
/-- own$1: a row. -/
theorem own1_any (S0 : Nat → Prop) (w : World) (A : Option Addr) (cap : Nat) (m : List DT) (hx : UIn S0 w .row (.node [.slice A m.length cap] [m])) (hn : (DT.node [.slice A m.length cap] [m]).n ≤ 1048576) (hS : ∀ k, S0 k → k < w.heap.size) :
    Calls Tryz.prog 101 #[.slice A m.length cap] w (OnePost1 C0 (fun _ => True) (USm .row) .row (.node [.slice A m.length cap] [m]) () w) := by
  obtain ⟨A', cap', l, he, rl, il⟩ := hx.ro
  injection he with e1 e2
  simp only [List.cons.injEq, and_true] at e2
  subst e2
  simp only [List.cons.injEq, and_true, Value.slice.injEq] at e1
  obtain ⟨rfl, -, rfl⟩ := e1
  rw [DT.n_node] at hn
  have hnl : nL m ≤ 1048576 := by simp at hn; omega
  have hln := Nat.le_trans (len_nL m) hnl
  have hcall : Hid (Calls Tryz.prog 102 #[.slice A m.length cap, .func (.func 59) #[] #[]] w (LsPost C0 (fun _ => True) (USm .value) .value m () w)) := by
    refine listVal_any C0 (fun _ _ => True) (USm .value) 59 #[] (enters_of Tryz.func59 (by kernel_rfl) rfl) m A cap S0 () w trivial trivial (fun k hk => ⟨hS k hk, fun e => e⟩) rl il hln fun j x s W' hx _ hf => ?_
    have hb' := hf.to0
    have hxn := n_mem (mem_of_get? hx)
    exact vCopyU_any (x.n + 1) x S0 W' (by omega) (by omega) ((il x (mem_of_get? hx)).keep (fun k hk => hb'.block k (hS k hk)) fun _ h => h) fun k hk => Nat.lt_of_lt_of_le (hS k hk) hb'.size
  clear hx rl il hS hn hnl hln
  go_enter Tryz.func101, Tryz.ntmps101
  go_wp2_with (go_at_call 102; refine hcall.out.mono ?_; intro e w3 hp; obtain ⟨A2, ys, s, rfl, hf, -, hr⟩ := hp.lr)
  go_ret
  exact ⟨A2, m.length, ys, (), by rw [hr.len]; rfl, hf, trivial, UIn.mkK rfl rfl ⟨_, rfl⟩ ⟨hr.kr (Nat.le_refl _) (by simp [hr.len]), trivial⟩, USm.mkK rfl (fun j hj => by match j with | 0 => exact absurd (by simp [Uy.sl]) (hj .value) | j + 1 => rfl) ⟨hr.usl, trivial⟩⟩
set_option maxRecDepth 100000 in
set_option maxHeartbeats 1000000 in
/-- own$3: a set. -/
theorem own3_any (S0 : Nat → Prop) (w : World) (A : Option Addr) (cap : Nat) (m : List DT) (hx : UIn S0 w .set (.node [.slice A m.length cap] [m])) (hn : (DT.node [.slice A m.length cap] [m]).n ≤ 1048576) :
    Calls Tryz.prog 105 #[.slice A m.length cap] w (OnePost1 C0 (fun _ => True) (USm .set) .set (.node [.slice A m.length cap] [m]) () w) := by
  obtain ⟨A', cap', l, he, rl, il⟩ := hx.se
  injection he with e1 e2
  simp only [List.cons.injEq, and_true] at e2
  subst e2
  simp only [List.cons.injEq, and_true, Value.slice.injEq] at e1
  obtain ⟨rfl, -, rfl⟩ := e1
  rw [DT.n_node] at hn
  have hln := Nat.le_trans (len_nL m) (show nL m ≤ 1048576 by simp at hn; omega)
  have hcl : Hid (Calls Tryz.prog 106 #[.slice A m.length cap] w fun e w' => ∃ (A2 : Option Addr) (cap2 : Nat), e = .returned (.slice A2 m.length cap2) ∧ Hid (DRow (Nw C0 w.heap.size () w') w' 1 A2 cap2 m) ∧ Hid (Below w.heap.size w w') ∧ Hid (Calls Tryz.prog 52 #[.slice A2 m.length cap2] w' fun e w'' => e = .returned (.slice A2 m.length m.length) ∧ w'' = w')) := by
    refine (cloneNu_any A cap m S0 w rl (fun x hx => (il x hx).len) (fun x hx => (il x hx).ones) hln).mono ?_
    rintro e w' ⟨v, rfl, ho, hb⟩
    obtain ⟨A2, cap2, rfl, hr, hnil⟩ := own_structs ho rfl (fun x hx => (il x hx).len)
    exact ⟨A2, cap2, rfl, hr.keep (fun _ _ => rfl) fun k hk => ⟨.inr hk.2.1, hk.2.2, fun e => e⟩, hb, clipInt_u A2 m.length cap2 w' hr.1 hr.2.1 hnil⟩
  clear hx rl hn hln
  go_enter Tryz.func105, Tryz.ntmps105
  go_wp2_with (first | (go_at_call 106; refine hcl.out.mono ?_; rintro e w3 ⟨A2, cap2, rfl, hr, hb, hc⟩) | (go_at_call 52; refine hc.out.mono ?_; rintro e w4 ⟨rfl, rfl⟩))
  go_ret
  exact ⟨A2, m.length, m, (), rfl, Fr.of0 hb.out, trivial, UIn.mkK rfl rfl ⟨_, rfl⟩ ⟨⟨A2, m.length, rfl, ⟨Nat.le_refl _, Nat.le_trans hr.out.1 hr.out.2.1, hr.out.2.2⟩, fun x hx => (il x hx).num_any⟩, trivial⟩, USm.mkK rfl (fun j hj => by match j with | 0 => exact absurd (by simp [Uy.sl]) (hj .num) | j + 1 => rfl) ⟨USL.refl _ _, trivial⟩⟩
end Go.Proofs.YthijagpnpcpcbaaGreat
namespace Go.Proofs.YthijagpnpcpcbaaGreat
open Go.RowKit
/-- The post of the part ahead. -/
def HeadQ (P : Program) (ops : Array Oper) (tl : List Oper) (Q : Exit → Act → World → Prop) : Exit → Act → World → Prop
  | .normal, a, w => wpList P ops Q tl a w
  | e, a, w => Q e a w
/-- Each operation of the head waits for earlier ones alone, and bears no guard. -/
def backB (md : Region.Mode) (ops : Array Oper) (n : Nat) : Bool :=
  (List.range n).all fun i => ((ops[i]?).map fun o => o.guard.isNone && o.after.all fun e => !Region.binds md e || decide (e.on < i)).getD false
def splitB (ops : Array Oper) (n : Nat) : Bool :=
  decide (n < ops.size) && backB .any ops n && Region.sinkB .any ops n && Region.chainB .any ops n && Region.seqB .any ops (ops.size - n) n (Array.replicate n true ++ Array.replicate (ops.size - n) false)
section
variable {P : Program} {ops : Array Oper} {Q : Exit → Act → World → Prop} {md : Region.Mode}
theorem backB_spec {n i : Nat} {o : Oper} (h : backB md ops n = true) (hi : i < n) (ho : ops[i]? = some o) : o.guard = none ∧ ∀ e ∈ o.after, Region.binds md e = true → e.on < i := by
  have h1 := List.all_eq_true.1 h i (List.mem_range.2 hi)
  rw [ho] at h1
  simp only [Option.map_some, Option.getD_some, Bool.and_eq_true, Option.isNone_iff_eq_none] at h1
  refine ⟨h1.1, fun e he hb => ?_⟩
  have h2 := Array.all_eq_true'.1 h1.2 e he
  simpa [hb] using h2
theorem wpAny_fuel : ∀ (g f : Nat) (listed : Array Bool) (a : Act) (w : World), wpAny P md ops Q g listed a w → wpAny P md ops Q (f + g) listed a w
  | 0, f, listed, a, w, h => by
    cases f with
    | zero => exact h
    | succ f => exact ⟨fun _ => h.2, fun i hi => by rw [h.1] at hi; cases hi⟩
  | g + 1, f, listed, a, w, h => ⟨h.1, fun i hi => wpOp_mono (fun a' w' h' => wpAny_fuel g f _ a' w' h') (h.2 i hi)⟩
theorem upon_head {tl : List Oper} {o : Oper} {a : Act} {w : World} {K : Act → World → Prop} (h : o.wp P a w K (HeadQ P ops tl Q)) : o.wp P a w K Q := by
  unfold Oper.wp at *
  generalize (execOp a.eval o).run P w = r at *
  cases r with
  | ok n w' => cases n <;> exact h
  | halt x w' => cases x <;> exact h
theorem wpAny_split {n : Nat} {H : Array Oper} (hH : ∀ i, i < n → H[i]? = ops[i]?) (hHs : H.size = n) (hn : n < ops.size) (hb : backB md ops n = true) (hs : Region.sinkB md ops n = true) (hc : Region.chainB md ops n = true) (tl : List Oper) (hl : ∀ j, tl[j]? = ops[n + j]?) (hseq : Region.seqB md ops tl.length n (Array.replicate n true ++ Array.replicate tl.length false) = true) (htl : tl.length = ops.size - n) :
    ∀ (f : Nat) (listed LH : Array Bool) (a : Act) (w : World), HeadInv md ops n listed → LH.size = n → (∀ i, i < n → LH.getD i true = listed.getD i true) → (∀ i, i < n → LH.getD i false = listed.getD i false) →
      wpAny P md H (HeadQ P ops tl Q) f LH a w → wpAny P md ops Q (f + tl.length) listed a w := by
  intro f
  induction f with
  | zero =>
    intro listed LH a w inv hz h1 h2 h
    rw [Nat.zero_add]
    by_cases hall : ∀ i, i < n → listed.getD i true = true
    · have he : listed = Array.replicate n true ++ Array.replicate tl.length false := by
        refine Array.ext_getElem? fun i => ?_
        by_cases hi : i < n
        · have := hall i hi
          have his : i < listed.size := by rw [inv.size]; omega
          rw [Array.getElem?_append_left (by simpa using hi)]
          simp [hi, his] at this ⊢
          exact this
        · by_cases hi2 : i < ops.size
          · have := inv.tail i (by omega) hi2
            have his : i < listed.size := by rw [inv.size]; exact hi2
            rw [Array.getElem?_append_right (by simp; omega)]
            simp [his] at this ⊢
            rw [this, Array.getElem?_replicate, if_pos (by omega)]
          · rw [Array.getElem?_eq_none (by rw [inv.size]; omega), Array.getElem?_eq_none (by simp; omega)]
      rw [he]
      exact wpAny_of_seq tl n _ a w hl hseq h.2
    · obtain ⟨i, hi, hu, hmin⟩ : ∃ i, i < n ∧ listed.getD i true = false ∧ ∀ j, j < i → listed.getD j true = true := by
        have : ∃ i, i < n ∧ listed.getD i true = false := by
          simp only [Classical.not_forall] at hall
          obtain ⟨i, hi, h⟩ := hall
          exact ⟨i, hi, by simpa using h⟩
        obtain ⟨i0, hi0, hu0⟩ := this
        induction i0 using Nat.strongRecOn with
        | _ i0 ih =>
          by_cases hj : ∃ j, j < i0 ∧ listed.getD j true = false
          · obtain ⟨j, hj, hju⟩ := hj
            exact ih j hj (by omega) hju
          · refine ⟨i0, hi0, hu0, fun j hj' => ?_⟩
            cases hx : listed.getD j true with
            | true => rfl
            | false => exact absurd ⟨j, hj', hx⟩ hj
      exfalso
      obtain ⟨o, ho⟩ : ∃ o, ops[i]? = some o := ⟨_, Array.getElem?_eq_getElem (by omega)⟩
      have hm : i ∈ Region.ready md H LH := mem_ready.2 ⟨by rw [h1 i hi]; exact hu, o, by rw [hH i hi]; exact ho, fun e he hbe => by
        have hlt := (backB_spec hb hi ho).2 e he hbe
        rw [h2 _ (by omega)]
        have h3 := hmin e.on hlt
        have his : e.on < listed.size := by rw [inv.size]; omega
        simp [his] at h3 ⊢
        exact h3⟩
      rw [h.1] at hm
      cases hm
  | succ f ih =>
    intro listed LH a w inv hz h1 h2 h
    rw [show f + 1 + tl.length = (f + tl.length) + 1 by omega]
    by_cases hall : ∀ i, i < n → listed.getD i true = true
    · have he : listed = Array.replicate n true ++ Array.replicate tl.length false := by
        refine Array.ext_getElem? fun i => ?_
        by_cases hi : i < n
        · have := hall i hi
          have his : i < listed.size := by rw [inv.size]; omega
          rw [Array.getElem?_append_left (by simpa using hi)]
          simp [hi, his] at this ⊢
          exact this
        · by_cases hi2 : i < ops.size
          · have := inv.tail i (by omega) hi2
            have his : i < listed.size := by rw [inv.size]; exact hi2
            rw [Array.getElem?_append_right (by simp; omega)]
            simp [his] at this ⊢
            rw [this, Array.getElem?_replicate, if_pos (by omega)]
          · rw [Array.getElem?_eq_none (by rw [inv.size]; omega), Array.getElem?_eq_none (by simp; omega)]
      have hr0 : Region.ready md H LH = [] := by
        rw [List.eq_nil_iff_forall_not_mem]
        intro i hi
        obtain ⟨hu, o, ho, _⟩ := mem_ready.1 hi
        have hin : i < n := by rw [← hHs]; exact (Array.getElem?_eq_some_iff.1 ho).1
        rw [h1 i hin, hall i hin] at hu
        cases hu
      have hq := h.1 hr0
      rw [he, show f + tl.length + 1 = (f + 1) + tl.length by omega]
      exact wpAny_fuel _ _ _ _ _ (wpAny_of_seq tl n _ a w hl hseq hq)
    · obtain ⟨i, hi, hu, hmin⟩ : ∃ i, i < n ∧ listed.getD i true = false ∧ ∀ j, j < i → listed.getD j true = true := by
        have : ∃ i, i < n ∧ listed.getD i true = false := by
          simp only [Classical.not_forall] at hall
          obtain ⟨i, hi, h⟩ := hall
          exact ⟨i, hi, by simpa using h⟩
        obtain ⟨i0, hi0, hu0⟩ := this
        induction i0 using Nat.strongRecOn with
        | _ i0 ih =>
          by_cases hj : ∃ j, j < i0 ∧ listed.getD j true = false
          · obtain ⟨j, hj, hju⟩ := hj
            exact ih j hj (by omega) hju
          · refine ⟨i0, hi0, hu0, fun j hj' => ?_⟩
            cases hx : listed.getD j true with
            | true => rfl
            | false => exact absurd ⟨j, hj', hx⟩ hj
      have hmem : ∀ j, j ∈ Region.ready md ops listed → j < n ∧ j ∈ Region.ready md H LH := fun j hj => by
        have hjn : j < n := by
          rcases Nat.lt_or_ge j n with h | h
          · exact h
          · exact absurd hj (tail_waits hs hc hn inv _ i rfl hi hu j h)
        obtain ⟨hju, o, ho, hall⟩ := mem_ready.1 hj
        refine ⟨hjn, mem_ready.2 ⟨by rw [h1 j hjn]; exact hju, o, by rw [hH j hjn]; exact ho, fun e he hbe => ?_⟩⟩
        have hlt := (backB_spec hb hjn ho).2 e he hbe
        rw [h2 _ (by omega)]
        exact hall e he hbe
      refine ⟨fun hr => ?_, fun j hj => ?_⟩
      · exfalso
        obtain ⟨o, ho⟩ : ∃ o, ops[i]? = some o := ⟨_, Array.getElem?_eq_getElem (by omega)⟩
        have hm : i ∈ Region.ready md ops listed := mem_ready.2 ⟨hu, o, ho, fun e he hbe => by
          have hlt := (backB_spec hb hi ho).2 e he hbe
          have h3 := hmin e.on hlt
          have his : e.on < listed.size := by rw [inv.size]; omega
          simp [his] at h3 ⊢
          exact h3⟩
        rw [hr] at hm
        cases hm
      · obtain ⟨hjn, hjH⟩ := hmem j hj
        have hst := h.2 j hjH
        obtain ⟨_, o, ho, _⟩ := mem_ready.1 hj
        have hg := (backB_spec hb hjn ho).1
        have hrec : ∀ a' w', wpAny P md H (HeadQ P ops tl Q) f (LH.setIfInBounds j true) a' w' → wpAny P md ops Q (f + tl.length) (listed.setIfInBounds j true) a' w' := fun a' w' h' => by
          have hjl : j < listed.size := by rw [inv.size]; omega
          refine ih _ _ a' w' (inv.set hj hjn) (by simpa using hz) (fun i hi => ?_) (fun i hi => ?_) h'
          · by_cases hij : j = i
            · subst hij; simp [hjl, hz, hi]
            · rw [getD_set_ne true hij, getD_set_ne true hij]; exact h1 i hi
          · by_cases hij : j = i
            · subst hij; simp [hjl, hz, hi]
            · rw [getD_set_ne false hij, getD_set_ne false hij]; exact h2 i hi
        have hw1 : ∀ y, Region.wanted o y = true := fun y => by unfold Region.wanted; rw [hg]
        unfold wpOp at hst ⊢
        rw [hH j hjn] at hst
        simp only [ho, hw1, if_true] at hst ⊢
        rcases hst with hst | ⟨ha, hlt⟩
        · exact .inl (upon_head (Oper.wp_mono hrec hst))
        · exact .inr ⟨ha, hlt⟩
/-- The region is parted at n. -/
theorem wp_region_split {id : Nat} {a : Act} {w : World} {l : List Oper} (n : Nat) (S : World → Prop) (hm : P.follows .mixedOrders = true) (hB : splitB l.toArray n = true)
    (h : wpAnyH P .any (l.take n).toArray (HeadQ P l.toArray (l.drop n) Q) S n (Array.replicate n false) a w.drew) : (Code.region id l.toArray true).wp P Q a w := by
  simp only [splitB, Bool.and_eq_true, decide_eq_true_eq] at hB
  obtain ⟨⟨⟨⟨hn, hb⟩, hs⟩, hc⟩, hseq⟩ := hB
  have hn' : n < l.length := by simpa using hn
  have hdl : (l.drop n).length = l.toArray.size - n := by simp
  refine wp_region_any hm ?_
  have := wpAny_split (Q := Q) (md := .any) (H := (l.take n).toArray) (fun i hi => by simp [hi]) (by simp; omega) hn hb hs hc (l.drop n) (fun j => by simp [List.getElem?_drop]) (by rw [hdl]; exact hseq) hdl n (Array.replicate l.toArray.size false) (Array.replicate n false) a w.drew
    ⟨by simp, fun j oj _ hl => (by rw [getD_replicate_false] at hl; cases hl), fun t _ ht => getD_in (by simpa using ht) (getD_replicate_false _ _)⟩ (by simp) (fun i hi => by simp [hi, show i < l.length by omega]) (fun i hi => by simp [hi, show i < l.length by omega]) (wpAny_of_held _ _ _ _ h)
  rwa [hdl, show n + (l.toArray.size - n) = l.toArray.size by omega] at this
variable {S : World → Prop}
/-- The next call, the only one that may come up: behind it S is shown anew. -/
theorem wpAnyH_one {i : Nat} {o : Oper} {fuel : Nat} {listed : Array Bool} {a : Act} {w : World} (hr : Region.ready md ops listed = [i]) (ho : ops[i]? = some o) (hg : o.guard = none)
    (h : o.wp P a w (fun a' w' => S w' ∧ wpAnyH P md ops Q S fuel (listed.setIfInBounds i true) a' w') Q) : wpAnyH P md ops Q S (fuel + 1) listed a w :=
  wpAnyH_all hr (by simp) fun j hj => by
    rw [List.mem_singleton] at hj
    subst hj
    unfold wpOp
    simp only [ho]
    rw [if_pos (by unfold Region.wanted; rw [hg])]
    exact .inl h
/-- A load of one cell of a block, anywhere in the head. -/
theorem yields_load_one {o : Oper} {a : Act} (hgd : o.guard = none) (t : TypeId) (x : Operand) (ho : o.op = .load t x) (d : TypeDesc)
    (hu : P.underlying t = some d) (hd : d.isRow = false) (b off : Nat) (bt : TypeId) (cur : List Value) (v : Value) (hx : a.eval x = .pointer (some ⟨b, off, none⟩)) (hb : ∀ w, S w → Bk w b cur bt) (hc : cur[off]? = some v) : YieldsIf P ops S o v a :=
  .inl ⟨by unfold Region.wanted; rw [hgd], fun w hw => by
    have hagg : (isAgg t).run P w = .ok false w := by
      unfold isAgg
      rw [Sem.run_bind, run_underlying hu w]
      cases d <;> simp_all [TypeDesc.isRow]
    have hr : (Instr.loadAt t (.pointer (some ⟨b, off, none⟩))).run P w = .ok v w := by
      simp [Instr.loadAt, Instr.sureAddr, Sem.run_bind, Result.andThen, loadVar, hagg, (hb w hw).cell, hc]
    unfold execOp
    simp only [ho, hx, Sem.run_bind, hr, Result.andThen_ok, Sem.run_pure]⟩
/-- A load of a struct that lies in a block, anywhere in the head. -/
theorem yields_load_part {o : Oper} {a : Act} (hgd : o.guard = none) (t : TypeId) (x : Operand) (ho : o.op = .load t x) (d : TypeDesc)
    (hu : P.underlying t = some d) (hd : d.isRow = true) (b off : Nat) (bt : TypeId) (cur cs : List Value) (hx : a.eval x = .pointer (some ⟨b, off, none⟩)) (hb : ∀ w, S w → Bk w b cur bt) (hi : (P.info? t).map (·.size) = some cs.length) (hc : (cur.drop off).take cs.length = cs) : YieldsIf P ops S o (.agg cs.toArray) a :=
  .inl ⟨by unfold Region.wanted; rw [hgd], fun w hw => by
    have hr := run_loadAt_st (P := P) w t d ⟨b, off, none⟩ cs (fun j u hu => by
      have hj : j < cs.length := (List.getElem?_eq_some_iff.1 hu).1
      rw [Addr.add_mid, (hb w hw).cell]
      rw [← hc, List.getElem?_take_of_lt hj, List.getElem?_drop] at hu
      exact hu) hu hd hi
    unfold execOp
    simp only [ho, hx, Sem.run_bind, hr, Result.andThen_ok, Sem.run_pure]⟩
/-- An operation that yields its value is taken first. -/
theorem take_op {l : List Oper} {i : Nat} {oi : Oper} {v : Value} {fuel : Nat} {listed : Array Bool} {a : Act} {w : World} {t : Tmp} (hi : l[i]? = some oi) (ht : oi.dst = some t)
    (hs : Region.noSelect l.toArray = true) (hf : Region.free md l.toArray listed i = true) (hr : (Region.ready md l.toArray listed).contains i = true)
    (hQ : ∀ c a w, Q (.panic c) (a.put oi.dst v) w → Q (.panic c) a w) (hy : YieldsIf P l.toArray S oi v a) (hS : S w)
    (h : wpAnyH P md l.toArray Q S fuel (listed.setIfInBounds i true) { tmps := a.tmps.setIfInBounds t v, defers := a.defers } w) : wpAnyH P md l.toArray Q S (fuel + 1) listed a w :=
  wpAnyH_take (by rw [List.getElem?_toArray]; exact hi) hs hf hr hQ hy hS (by rw [ht]; exact h)
theorem yields_of {o : Oper} {a : Act} {v : Value} (hgd : o.guard = none) (h : ∀ w, S w → (execOp a.eval o).run P w = .ok (.value v) w) : YieldsIf P ops S o v a :=
  .inl ⟨by unfold Region.wanted; rw [hgd], h⟩
/-- The next call. -/
theorem call_op {l : List Oper} {i : Nat} {o : Oper} {fuel : Nat} {listed : Array Bool} {a : Act} {w : World} {t : Tmp} (hr : Region.ready md l.toArray listed = [i]) (ho : l[i]? = some o) (hg : o.guard = none) (ht : o.dst = some t) (f : FuncId) (args : Array Value)
    (hop : (execOp a.eval o).run P w = .ok (.enter f args) w)
    (hc : Calls P f args w fun e w' => ∃ v, e = .returned v ∧ S w' ∧ wpAnyH P md l.toArray Q S fuel (listed.setIfInBounds i true) { tmps := a.tmps.setIfInBounds t v, defers := a.defers } w') : wpAnyH P md l.toArray Q S (fuel + 1) listed a w :=
  wpAnyH_one hr (by rw [List.getElem?_toArray]; exact ho) hg (by
    unfold Oper.wp
    rw [hop, Oper.upon_enter]
    refine hc.mono ?_
    rintro e w' ⟨v, rfl, hS, h⟩
    refine ⟨hS, ?_⟩
    rw [ht]
    exact h)
theorem done_op {l : List Oper} {listed : Array Bool} {a : Act} {w : World} {fuel : Nat} {tl : List Oper} {full : Array Oper} (hr : Region.ready md l.toArray listed = []) (h : wpList P full Q tl a w) : wpAnyH P md l.toArray (HeadQ P full tl Q) S fuel listed a w :=
  wpAnyH_done hr h fuel
end
end Go.Proofs.YthijagpnpcpcbaaGreat

