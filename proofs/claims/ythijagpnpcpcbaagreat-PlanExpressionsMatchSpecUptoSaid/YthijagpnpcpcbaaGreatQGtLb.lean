/-
  plan.list over expressions and relations.
  plan.list over aggregates, window functions and keys.
-/
import Derived.Test.YthijagpnpcpcbaaGreatQGtL
namespace Go.Proofs.YthijagpnpcpcbaaGreat
open Go.RowKit Go.Sort
set_option maxRecDepth 100000 in
theorem clipExp_u (A : Option Addr) (n cap : Nat) (w : World) (h1 : n ≤ cap) (h2 : cap ≤ maxLen) (h0 : A = none → n = 0 ∧ cap = 0) :
    Calls Tryz.prog 39 #[.slice A n cap] w fun e w' => e = .returned (.slice A n n) ∧ w' = w := by
  unfold maxLen at h2
  cases A with
  | none =>
    obtain ⟨rfl, rfl⟩ := h0 rfl
    go_enter Tryz.func39, Tryz.ntmps39
    go_wp2
    go_ret
    exact ⟨rfl, rfl⟩
  | some ad =>
    clear h0
    go_enter Tryz.func39, Tryz.ntmps39
    go_wp2
    go_ret
    exact ⟨by simp, rfl⟩
theorem infoExp_u : (Tryz.prog.info? 31).map (fun i => (i.zero.map (fun z => z.cells.size), i.size, i.bytes)) = some (some 14, 14, 184) := by kernel_rfl
set_option maxRecDepth 100000 in
set_option maxHeartbeats 4000000 in
theorem listExp_any {σ : Type} (C : Cl σ) (Sq : Nat → σ → Prop) (Rel : DT → DT → Prop) (g : Nat) (lb : Array Value) (eg : ∀ args w, (callFunc g args).run Tryz.prog w = .ok (.enter g args) w) (l : List DT) (A : Option Addr) (cap : Nat) (S0 : Nat → Prop) (s0 : σ) (w : World) (h0 : Sq 0 s0) (hst : C.St s0 w)
    (hS : ∀ k, S0 k → k < w.heap.size ∧ ¬ C.O s0 k) (hl : DRow S0 w 14 A cap l) (hin : ∀ x, x ∈ l → UIn S0 w .expr x) (hn : l.length ≤ 1048576)
    (hone : Hid (∀ (j : Nat) x s W, l[j]? = some x → Sq j s → Fr C s0 w s W → Calls Tryz.prog g (#[.agg x.c.toArray] ++ lb) W (OnePost C (Sq (j + 1)) Rel .expr x s W))) :
    Calls Tryz.prog 20 #[.slice A l.length cap, .func (.func g) #[] lb] w (LsPost C (Sq l.length) Rel .expr l s0 w) := by
  obtain ⟨i0, hi, hrest⟩ := Option.map_eq_some_iff.1 infoExp_u
  simp only [Prod.mk.injEq] at hrest
  obtain ⟨hz0, isz, iby⟩ := hrest
  obtain ⟨z, iz, hzs⟩ := Option.map_eq_some_iff.1 hz0
  obtain ⟨n, hlen⟩ : ∃ n, l.length = n := ⟨_, rfl⟩
  rw [hlen] at hn ⊢
  have Hl := Lib.hid hl
  have Hin := Lib.hid hin
  have HS := Lib.hid hS
  have Hlen := Lib.hid hlen
  have H0 := Lib.hid h0
  have Hst := Lib.hid hst
  clear hl hin hS hlen h0 hst
  go_enter Tryz.func20, Tryz.ntmps20
  go_wp2
  go_loopw [5, 10] (fun ov i wr => ∃ (j : Nat) (ys : List DT) (s : σ), j ≤ n ∧ i = .int .i64 j ∧ LsI C Sq Rel .expr 31 l s0 w j ys s ov wr) (fun _ i _ => n - (intOf i).toNat)
  case atStart => exact ⟨0, [], s0, Nat.zero_le _, rfl, LsI.start H0.out Hst.out⟩
  case round =>
    obtain ⟨j, ys, s, hj, rfl, hI⟩ := hrel
    have HI := Lib.hid hI
    have hsrc : ∀ k, S0 k → wr.heap[k]? = w.heap[k]? := fun k hk => hI.fr.block k (HS.out k hk).1 (HS.out k hk).2
    by_cases hlt : j < n
    · obtain ⟨x, ad, hx, rfl, hb, hat⟩ := (Hl.out.keep hsrc (fun _ h => h)).get (show j < l.length by rw [Hlen.out]; exact hlt)
      have hxi := (Hin.out x (mem_of_get? hx))
      have hx6 := hxi.len
      have HiE : Hid ((Tryz.prog.info? 31).map (·.size) = some x.c.length) := by show _ = _; rw [hx6, hi]; simp [isz, Uy.sz]
      have HiE2 : Hid ((Tryz.prog.info? 31).map (·.size) = some x.c.toArray.size) := by show _ = _; rw [List.size_toArray, hx6, hi]; simp [isz, Uy.sz]
      have Hz : Hid (x.c.toArray.size = 14) := by show _ = _; rw [List.size_toArray, hx6]; rfl
      have H1 := Lib.hid (all_one hxi.ones)
      have Hat := Lib.hid (at_add hat)
      obtain ⟨W2, hW2⟩ : ∃ W2, wr.alloc (.cells x.c.toArray 31) = W2 := ⟨_, rfl⟩
      have Hcell : Hid (∀ j u, x.c[j]? = some u → W2.cell? ((⟨wr.heap.size, 0, none⟩ : Addr).add j) = some u) := by show ∀ j u, _ → _; rw [← hW2]; exact new_cellsT wr x.c 31
      have hbW2 : Below wr.heap.size wr W2 := by rw [← hW2]; exact bel1 _ _
      have hcall : Calls Tryz.prog g (#[.agg x.c.toArray] ++ lb) W2 (OnePost C (Sq (j + 1)) Rel .expr x s W2) := hone.out j x s W2 hx hI.sq (hI.fr.trans (Fr.below hI.fr.st hbW2))
      have Hx := Lib.hid hx
      have HW2 := Lib.hid hW2
      have HbW2 := Lib.hid hbW2
      have HI' := HI
      have hjn : j < 1048576 := by omega
      have h3 : Hid (j + 1 ≤ maxLen) := by show _ ≤ _; unfold maxLen; omega
      have h4 : Hid ((j + 1) * 184 ≤ 140737488355328) := by show _ ≤ _; omega
      have hcallH : Hid (Calls Tryz.prog g (#[.agg x.c.toArray] ++ lb) W2 fun e w3 => ∃ (y : DT) (s' : σ), e = .returned (.agg y.c.toArray) ∧ Hid (Fr C s W2 s' w3) ∧ Hid (Sq (j + 1) s') ∧ Hid (UIn (Nw C W2.heap.size s' w3) w3 .expr y) ∧ Hid (Rel x y) ∧ Hid (y.c.toArray.size = 14) ∧ Hid (∀ u, u ∈ y.c → u.oneCell' = true) ∧ Hid (w3.ownsRow w.heap.size 31 14 u5 j (ys.flatMap DT.c)) ∧ Hid (∀ o, w.heap.size ≤ (w3.alloc o).heap.size)) := by
        refine hcall.mono ?_
        rintro e w3 ⟨y, s', rfl, hf, hq, hy, hr⟩
        have hb0 := hbW2.size
        have hfz := hf.size
        have hw0 := hI.fr.size
        refine ⟨y, s', rfl, hf, hq, hy, hr, ?_, hy.ones, own_fr hI.own (by omega) fun k hk => ?_, fun o => by simp; omega⟩
        · show _ = _
          rw [List.size_toArray, hy.len]; rfl
        · have hl := hI.own.lt k hk
          exact (hf.block k (by omega) (hI.ne k hk)).trans (hbW2.block k hl.2)
      clear hat hxi hx6 hx hW2 hI hsrc hbW2 hcall
      go_upto_region 5 with (first | (refine wpList_load_st rfl 31 _ rfl _ Tryz.underlying31 rfl (ad.add (j * 14)) x.c HiE.out rfl Hat.out ?_) | (refine wpList_store_st rfl 31 _ _ rfl _ x.c.toArray HiE2.out Hz.out.symm H1.out rfl rfl ?_))
      rw [HW2.out]
      go_wp2_with (first | (refine wpList_load_st rfl 31 _ rfl _ Tryz.underlying31 rfl ⟨wr.heap.size, 0, none⟩ x.c HiE.out rfl Hcell.out ?_) | (go_at_fn g; refine hcallH.out.mono ?_; rintro e w3 ⟨y, s', rfl, Hf, Hq, Hy, Hr, Hzy, H1y, Hown3, Hz3⟩) | (refine wpList_one_st rfl 28 31 _ rfl i0 Tryz.underlying28 hi _ iz y.c.toArray (isz.trans Hzy.out.symm) (hzs.trans Hzy.out.symm) (by rw [Hzy.out]; decide) (by rw [Hzy.out]; decide) rfl ?_) | (at_builtin; refine wpList_append_row _ rfl _ _ 28 rfl w.heap.size 31 i0 _ 14 184 Tryz.underlying28 hi iz isz iby hzs (by decide) u5 _ _ rfl (Hown3.out.alloc _) (some ⟨w3.heap.size, 0, none⟩) 1 1 y.c rfl (by rw [← List.size_toArray, Hzy.out]) (new_srcK _ _ _) H1y.out h3.out h4.out (Hz3.out _) ?_; intro ov' w4 hown4 hg4 hm4))
      have Hst' := Lib.hid (HI.out.step Hst.out Hx.out HbW2.out Hf.out Hq.out Hy.out Hr.out hown4 hg4 hm4)
      clear hown4
      go_wp2_with fail
      go_roundw
      case rel => exact ⟨j + 1, ys ++ [y], s', by omega, by simp, Hst'.out⟩
      case measure => simp [intOf]; omega
    · obtain rfl : j = n := by omega
      have hzo := hI.own
      obtain ⟨A2, cap2, rfl, hrow, hnil⟩ := own_structs hzo hI.len (fun x hx => (hI.ins x hx).len)
      have hc1 := hrow.1
      rw [hI.len] at hc1
      have hclip := Lib.hid (clipExp_u A2 j cap2 wr hc1 hrow.2.1 hnil)
      have hfin := Lib.hid (HI.out.fin Hlen.out)
      clear hzo hrow hnil hI hc1
      go_wp2_with fail
      refine hclip.out.mono ?_
      rintro e w' ⟨rfl, rfl⟩
      go_wp2
      go_ret
      exact hfin.out
set_option maxRecDepth 100000 in
theorem clipRel_u (A : Option Addr) (n cap : Nat) (w : World) (h1 : n ≤ cap) (h2 : cap ≤ maxLen) (h0 : A = none → n = 0 ∧ cap = 0) :
    Calls Tryz.prog 86 #[.slice A n cap] w fun e w' => e = .returned (.slice A n n) ∧ w' = w := by
  unfold maxLen at h2
  cases A with
  | none =>
    obtain ⟨rfl, rfl⟩ := h0 rfl
    go_enter Tryz.func86, Tryz.ntmps86
    go_wp2
    go_ret
    exact ⟨rfl, rfl⟩
  | some ad =>
    clear h0
    go_enter Tryz.func86, Tryz.ntmps86
    go_wp2
    go_ret
    exact ⟨by simp, rfl⟩
theorem infoRel_u : (Tryz.prog.info? 59).map (fun i => (i.zero.map (fun z => z.cells.size), i.size, i.bytes)) = some (some 14, 14, 248) := by kernel_rfl
set_option maxRecDepth 100000 in
set_option maxHeartbeats 4000000 in
theorem listRel_any {σ : Type} (C : Cl σ) (Sq : Nat → σ → Prop) (Rel : DT → DT → Prop) (g : Nat) (lb : Array Value) (eg : ∀ args w, (callFunc g args).run Tryz.prog w = .ok (.enter g args) w) (l : List DT) (A : Option Addr) (cap : Nat) (S0 : Nat → Prop) (s0 : σ) (w : World) (h0 : Sq 0 s0) (hst : C.St s0 w)
    (hS : ∀ k, S0 k → k < w.heap.size ∧ ¬ C.O s0 k) (hl : DRow S0 w 14 A cap l) (hin : ∀ x, x ∈ l → UIn S0 w .rel x) (hn : l.length ≤ 1048576)
    (hone : Hid (∀ (j : Nat) x s W, l[j]? = some x → Sq j s → Fr C s0 w s W → Calls Tryz.prog g (#[.agg x.c.toArray] ++ lb) W (OnePost C (Sq (j + 1)) Rel .rel x s W))) :
    Calls Tryz.prog 61 #[.slice A l.length cap, .func (.func g) #[] lb] w (LsPost C (Sq l.length) Rel .rel l s0 w) := by
  obtain ⟨i0, hi, hrest⟩ := Option.map_eq_some_iff.1 infoRel_u
  simp only [Prod.mk.injEq] at hrest
  obtain ⟨hz0, isz, iby⟩ := hrest
  obtain ⟨z, iz, hzs⟩ := Option.map_eq_some_iff.1 hz0
  obtain ⟨n, hlen⟩ : ∃ n, l.length = n := ⟨_, rfl⟩
  rw [hlen] at hn ⊢
  have Hl := Lib.hid hl
  have Hin := Lib.hid hin
  have HS := Lib.hid hS
  have Hlen := Lib.hid hlen
  have H0 := Lib.hid h0
  have Hst := Lib.hid hst
  clear hl hin hS hlen h0 hst
  go_enter Tryz.func61, Tryz.ntmps61
  go_wp2
  go_loopw [5, 10] (fun ov i wr => ∃ (j : Nat) (ys : List DT) (s : σ), j ≤ n ∧ i = .int .i64 j ∧ LsI C Sq Rel .rel 59 l s0 w j ys s ov wr) (fun _ i _ => n - (intOf i).toNat)
  case atStart => exact ⟨0, [], s0, Nat.zero_le _, rfl, LsI.start H0.out Hst.out⟩
  case round =>
    obtain ⟨j, ys, s, hj, rfl, hI⟩ := hrel
    have HI := Lib.hid hI
    have hsrc : ∀ k, S0 k → wr.heap[k]? = w.heap[k]? := fun k hk => hI.fr.block k (HS.out k hk).1 (HS.out k hk).2
    by_cases hlt : j < n
    · obtain ⟨x, ad, hx, rfl, hb, hat⟩ := (Hl.out.keep hsrc (fun _ h => h)).get (show j < l.length by rw [Hlen.out]; exact hlt)
      have hxi := (Hin.out x (mem_of_get? hx))
      have hx6 := hxi.len
      have HiE : Hid ((Tryz.prog.info? 59).map (·.size) = some x.c.length) := by show _ = _; rw [hx6, hi]; simp [isz, Uy.sz]
      have HiE2 : Hid ((Tryz.prog.info? 59).map (·.size) = some x.c.toArray.size) := by show _ = _; rw [List.size_toArray, hx6, hi]; simp [isz, Uy.sz]
      have Hz : Hid (x.c.toArray.size = 14) := by show _ = _; rw [List.size_toArray, hx6]; rfl
      have H1 := Lib.hid (all_one hxi.ones)
      have Hat := Lib.hid (at_add hat)
      obtain ⟨W2, hW2⟩ : ∃ W2, wr.alloc (.cells x.c.toArray 59) = W2 := ⟨_, rfl⟩
      have Hcell : Hid (∀ j u, x.c[j]? = some u → W2.cell? ((⟨wr.heap.size, 0, none⟩ : Addr).add j) = some u) := by show ∀ j u, _ → _; rw [← hW2]; exact new_cellsT wr x.c 59
      have hbW2 : Below wr.heap.size wr W2 := by rw [← hW2]; exact bel1 _ _
      have hcall : Calls Tryz.prog g (#[.agg x.c.toArray] ++ lb) W2 (OnePost C (Sq (j + 1)) Rel .rel x s W2) := hone.out j x s W2 hx hI.sq (hI.fr.trans (Fr.below hI.fr.st hbW2))
      have Hx := Lib.hid hx
      have HW2 := Lib.hid hW2
      have HbW2 := Lib.hid hbW2
      have HI' := HI
      have hjn : j < 1048576 := by omega
      have h3 : Hid (j + 1 ≤ maxLen) := by show _ ≤ _; unfold maxLen; omega
      have h4 : Hid ((j + 1) * 248 ≤ 140737488355328) := by show _ ≤ _; omega
      have hcallH : Hid (Calls Tryz.prog g (#[.agg x.c.toArray] ++ lb) W2 fun e w3 => ∃ (y : DT) (s' : σ), e = .returned (.agg y.c.toArray) ∧ Hid (Fr C s W2 s' w3) ∧ Hid (Sq (j + 1) s') ∧ Hid (UIn (Nw C W2.heap.size s' w3) w3 .rel y) ∧ Hid (Rel x y) ∧ Hid (y.c.toArray.size = 14) ∧ Hid (∀ u, u ∈ y.c → u.oneCell' = true) ∧ Hid (w3.ownsRow w.heap.size 59 14 u5 j (ys.flatMap DT.c)) ∧ Hid (∀ o, w.heap.size ≤ (w3.alloc o).heap.size)) := by
        refine hcall.mono ?_
        rintro e w3 ⟨y, s', rfl, hf, hq, hy, hr⟩
        have hb0 := hbW2.size
        have hfz := hf.size
        have hw0 := hI.fr.size
        refine ⟨y, s', rfl, hf, hq, hy, hr, ?_, hy.ones, own_fr hI.own (by omega) fun k hk => ?_, fun o => by simp; omega⟩
        · show _ = _
          rw [List.size_toArray, hy.len]; rfl
        · have hl := hI.own.lt k hk
          exact (hf.block k (by omega) (hI.ne k hk)).trans (hbW2.block k hl.2)
      clear hat hxi hx6 hx hW2 hI hsrc hbW2 hcall
      go_upto_region 5 with (first | (refine wpList_load_st rfl 59 _ rfl _ Tryz.underlying59 rfl (ad.add (j * 14)) x.c HiE.out rfl Hat.out ?_) | (refine wpList_store_st rfl 59 _ _ rfl _ x.c.toArray HiE2.out Hz.out.symm H1.out rfl rfl ?_))
      rw [HW2.out]
      go_wp2_with (first | (refine wpList_load_st rfl 59 _ rfl _ Tryz.underlying59 rfl ⟨wr.heap.size, 0, none⟩ x.c HiE.out rfl Hcell.out ?_) | (go_at_fn g; refine hcallH.out.mono ?_; rintro e w3 ⟨y, s', rfl, Hf, Hq, Hy, Hr, Hzy, H1y, Hown3, Hz3⟩) | (refine wpList_one_st rfl 29 59 _ rfl i0 Tryz.underlying29 hi _ iz y.c.toArray (isz.trans Hzy.out.symm) (hzs.trans Hzy.out.symm) (by rw [Hzy.out]; decide) (by rw [Hzy.out]; decide) rfl ?_) | (at_builtin; refine wpList_append_row _ rfl _ _ 29 rfl w.heap.size 59 i0 _ 14 248 Tryz.underlying29 hi iz isz iby hzs (by decide) u5 _ _ rfl (Hown3.out.alloc _) (some ⟨w3.heap.size, 0, none⟩) 1 1 y.c rfl (by rw [← List.size_toArray, Hzy.out]) (new_srcK _ _ _) H1y.out h3.out h4.out (Hz3.out _) ?_; intro ov' w4 hown4 hg4 hm4))
      have Hst' := Lib.hid (HI.out.step Hst.out Hx.out HbW2.out Hf.out Hq.out Hy.out Hr.out hown4 hg4 hm4)
      clear hown4
      go_wp2_with fail
      go_roundw
      case rel => exact ⟨j + 1, ys ++ [y], s', by omega, by simp, Hst'.out⟩
      case measure => simp [intOf]; omega
    · obtain rfl : j = n := by omega
      have hzo := hI.own
      obtain ⟨A2, cap2, rfl, hrow, hnil⟩ := own_structs hzo hI.len (fun x hx => (hI.ins x hx).len)
      have hc1 := hrow.1
      rw [hI.len] at hc1
      have hclip := Lib.hid (clipRel_u A2 j cap2 wr hc1 hrow.2.1 hnil)
      have hfin := Lib.hid (HI.out.fin Hlen.out)
      clear hzo hrow hnil hI hc1
      go_wp2_with fail
      refine hclip.out.mono ?_
      rintro e w' ⟨rfl, rfl⟩
      go_wp2
      go_ret
      exact hfin.out
end Go.Proofs.YthijagpnpcpcbaaGreat
namespace Go.Proofs.YthijagpnpcpcbaaGreat
open Go.RowKit Go.Sort
set_option maxRecDepth 100000 in
theorem clipAgg_u (A : Option Addr) (n cap : Nat) (w : World) (h1 : n ≤ cap) (h2 : cap ≤ maxLen) (h0 : A = none → n = 0 ∧ cap = 0) :
    Calls Tryz.prog 123 #[.slice A n cap] w fun e w' => e = .returned (.slice A n n) ∧ w' = w := by
  unfold maxLen at h2
  cases A with
  | none =>
    obtain ⟨rfl, rfl⟩ := h0 rfl
    go_enter Tryz.func123, Tryz.ntmps123
    go_wp2
    go_ret
    exact ⟨rfl, rfl⟩
  | some ad =>
    clear h0
    go_enter Tryz.func123, Tryz.ntmps123
    go_wp2
    go_ret
    exact ⟨by simp, rfl⟩
theorem infoAgg_u : (Tryz.prog.info? 99).map (fun i => (i.zero.map (fun z => z.cells.size), i.size, i.bytes)) = some (some 5, 5, 72) := by kernel_rfl
set_option maxRecDepth 100000 in
set_option maxHeartbeats 4000000 in
theorem listAgg_any {σ : Type} (C : Cl σ) (Sq : Nat → σ → Prop) (Rel : DT → DT → Prop) (g : Nat) (lb : Array Value) (eg : ∀ args w, (callFunc g args).run Tryz.prog w = .ok (.enter g args) w) (l : List DT) (A : Option Addr) (cap : Nat) (S0 : Nat → Prop) (s0 : σ) (w : World) (h0 : Sq 0 s0) (hst : C.St s0 w)
    (hS : ∀ k, S0 k → k < w.heap.size ∧ ¬ C.O s0 k) (hl : DRow S0 w 5 A cap l) (hin : ∀ x, x ∈ l → UIn S0 w .agg x) (hn : l.length ≤ 1048576)
    (hone : Hid (∀ (j : Nat) x s W, l[j]? = some x → Sq j s → Fr C s0 w s W → Calls Tryz.prog g (#[.agg x.c.toArray] ++ lb) W (OnePost C (Sq (j + 1)) Rel .agg x s W))) :
    Calls Tryz.prog 107 #[.slice A l.length cap, .func (.func g) #[] lb] w (LsPost C (Sq l.length) Rel .agg l s0 w) := by
  obtain ⟨i0, hi, hrest⟩ := Option.map_eq_some_iff.1 infoAgg_u
  simp only [Prod.mk.injEq] at hrest
  obtain ⟨hz0, isz, iby⟩ := hrest
  obtain ⟨z, iz, hzs⟩ := Option.map_eq_some_iff.1 hz0
  obtain ⟨n, hlen⟩ : ∃ n, l.length = n := ⟨_, rfl⟩
  rw [hlen] at hn ⊢
  have Hl := Lib.hid hl
  have Hin := Lib.hid hin
  have HS := Lib.hid hS
  have Hlen := Lib.hid hlen
  have H0 := Lib.hid h0
  have Hst := Lib.hid hst
  clear hl hin hS hlen h0 hst
  go_enter Tryz.func107, Tryz.ntmps107
  go_wp2
  go_loopw [5, 10] (fun ov i wr => ∃ (j : Nat) (ys : List DT) (s : σ), j ≤ n ∧ i = .int .i64 j ∧ LsI C Sq Rel .agg 99 l s0 w j ys s ov wr) (fun _ i _ => n - (intOf i).toNat)
  case atStart => exact ⟨0, [], s0, Nat.zero_le _, rfl, LsI.start H0.out Hst.out⟩
  case round =>
    obtain ⟨j, ys, s, hj, rfl, hI⟩ := hrel
    have HI := Lib.hid hI
    have hsrc : ∀ k, S0 k → wr.heap[k]? = w.heap[k]? := fun k hk => hI.fr.block k (HS.out k hk).1 (HS.out k hk).2
    by_cases hlt : j < n
    · obtain ⟨x, ad, hx, rfl, hb, hat⟩ := (Hl.out.keep hsrc (fun _ h => h)).get (show j < l.length by rw [Hlen.out]; exact hlt)
      have hxi := (Hin.out x (mem_of_get? hx))
      have hx6 := hxi.len
      have HiE : Hid ((Tryz.prog.info? 99).map (·.size) = some x.c.length) := by show _ = _; rw [hx6, hi]; simp [isz, Uy.sz]
      have HiE2 : Hid ((Tryz.prog.info? 99).map (·.size) = some x.c.toArray.size) := by show _ = _; rw [List.size_toArray, hx6, hi]; simp [isz, Uy.sz]
      have Hz : Hid (x.c.toArray.size = 5) := by show _ = _; rw [List.size_toArray, hx6]; rfl
      have H1 := Lib.hid (all_one hxi.ones)
      have Hat := Lib.hid (at_add hat)
      obtain ⟨W2, hW2⟩ : ∃ W2, wr.alloc (.cells x.c.toArray 99) = W2 := ⟨_, rfl⟩
      have Hcell : Hid (∀ j u, x.c[j]? = some u → W2.cell? ((⟨wr.heap.size, 0, none⟩ : Addr).add j) = some u) := by show ∀ j u, _ → _; rw [← hW2]; exact new_cellsT wr x.c 99
      have hbW2 : Below wr.heap.size wr W2 := by rw [← hW2]; exact bel1 _ _
      have hcall : Calls Tryz.prog g (#[.agg x.c.toArray] ++ lb) W2 (OnePost C (Sq (j + 1)) Rel .agg x s W2) := hone.out j x s W2 hx hI.sq (hI.fr.trans (Fr.below hI.fr.st hbW2))
      have Hx := Lib.hid hx
      have HW2 := Lib.hid hW2
      have HbW2 := Lib.hid hbW2
      have HI' := HI
      have hjn : j < 1048576 := by omega
      have h3 : Hid (j + 1 ≤ maxLen) := by show _ ≤ _; unfold maxLen; omega
      have h4 : Hid ((j + 1) * 72 ≤ 140737488355328) := by show _ ≤ _; omega
      have hcallH : Hid (Calls Tryz.prog g (#[.agg x.c.toArray] ++ lb) W2 fun e w3 => ∃ (y : DT) (s' : σ), e = .returned (.agg y.c.toArray) ∧ Hid (Fr C s W2 s' w3) ∧ Hid (Sq (j + 1) s') ∧ Hid (UIn (Nw C W2.heap.size s' w3) w3 .agg y) ∧ Hid (Rel x y) ∧ Hid (y.c.toArray.size = 5) ∧ Hid (∀ u, u ∈ y.c → u.oneCell' = true) ∧ Hid (w3.ownsRow w.heap.size 99 5 u5 j (ys.flatMap DT.c)) ∧ Hid (∀ o, w.heap.size ≤ (w3.alloc o).heap.size)) := by
        refine hcall.mono ?_
        rintro e w3 ⟨y, s', rfl, hf, hq, hy, hr⟩
        have hb0 := hbW2.size
        have hfz := hf.size
        have hw0 := hI.fr.size
        refine ⟨y, s', rfl, hf, hq, hy, hr, ?_, hy.ones, own_fr hI.own (by omega) fun k hk => ?_, fun o => by simp; omega⟩
        · show _ = _
          rw [List.size_toArray, hy.len]; rfl
        · have hl := hI.own.lt k hk
          exact (hf.block k (by omega) (hI.ne k hk)).trans (hbW2.block k hl.2)
      clear hat hxi hx6 hx hW2 hI hsrc hbW2 hcall
      go_upto_region 5 with (first | (refine wpList_load_st rfl 99 _ rfl _ Tryz.underlying99 rfl (ad.add (j * 5)) x.c HiE.out rfl Hat.out ?_) | (refine wpList_store_st rfl 99 _ _ rfl _ x.c.toArray HiE2.out Hz.out.symm H1.out rfl rfl ?_))
      rw [HW2.out]
      go_wp2_with (first | (refine wpList_load_st rfl 99 _ rfl _ Tryz.underlying99 rfl ⟨wr.heap.size, 0, none⟩ x.c HiE.out rfl Hcell.out ?_) | (go_at_fn g; refine hcallH.out.mono ?_; rintro e w3 ⟨y, s', rfl, Hf, Hq, Hy, Hr, Hzy, H1y, Hown3, Hz3⟩) | (refine wpList_one_st rfl 55 99 _ rfl i0 Tryz.underlying55 hi _ iz y.c.toArray (isz.trans Hzy.out.symm) (hzs.trans Hzy.out.symm) (by rw [Hzy.out]; decide) (by rw [Hzy.out]; decide) rfl ?_) | (at_builtin; refine wpList_append_row _ rfl _ _ 55 rfl w.heap.size 99 i0 _ 5 72 Tryz.underlying55 hi iz isz iby hzs (by decide) u5 _ _ rfl (Hown3.out.alloc _) (some ⟨w3.heap.size, 0, none⟩) 1 1 y.c rfl (by rw [← List.size_toArray, Hzy.out]) (new_srcK _ _ _) H1y.out h3.out h4.out (Hz3.out _) ?_; intro ov' w4 hown4 hg4 hm4))
      have Hst' := Lib.hid (HI.out.step Hst.out Hx.out HbW2.out Hf.out Hq.out Hy.out Hr.out hown4 hg4 hm4)
      clear hown4
      go_wp2_with fail
      go_roundw
      case rel => exact ⟨j + 1, ys ++ [y], s', by omega, by simp, Hst'.out⟩
      case measure => simp [intOf]; omega
    · obtain rfl : j = n := by omega
      have hzo := hI.own
      obtain ⟨A2, cap2, rfl, hrow, hnil⟩ := own_structs hzo hI.len (fun x hx => (hI.ins x hx).len)
      have hc1 := hrow.1
      rw [hI.len] at hc1
      have hclip := Lib.hid (clipAgg_u A2 j cap2 wr hc1 hrow.2.1 hnil)
      have hfin := Lib.hid (HI.out.fin Hlen.out)
      clear hzo hrow hnil hI hc1
      go_wp2_with fail
      refine hclip.out.mono ?_
      rintro e w' ⟨rfl, rfl⟩
      go_wp2
      go_ret
      exact hfin.out
set_option maxRecDepth 100000 in
theorem clipWin_u (A : Option Addr) (n cap : Nat) (w : World) (h1 : n ≤ cap) (h2 : cap ≤ maxLen) (h0 : A = none → n = 0 ∧ cap = 0) :
    Calls Tryz.prog 125 #[.slice A n cap] w fun e w' => e = .returned (.slice A n n) ∧ w' = w := by
  unfold maxLen at h2
  cases A with
  | none =>
    obtain ⟨rfl, rfl⟩ := h0 rfl
    go_enter Tryz.func125, Tryz.ntmps125
    go_wp2
    go_ret
    exact ⟨rfl, rfl⟩
  | some ad =>
    clear h0
    go_enter Tryz.func125, Tryz.ntmps125
    go_wp2
    go_ret
    exact ⟨by simp, rfl⟩
theorem infoWin_u : (Tryz.prog.info? 103).map (fun i => (i.zero.map (fun z => z.cells.size), i.size, i.bytes)) = some (some 12, 12, 176) := by kernel_rfl
set_option maxRecDepth 100000 in
set_option maxHeartbeats 4000000 in
theorem listWin_any {σ : Type} (C : Cl σ) (Sq : Nat → σ → Prop) (Rel : DT → DT → Prop) (g : Nat) (lb : Array Value) (eg : ∀ args w, (callFunc g args).run Tryz.prog w = .ok (.enter g args) w) (l : List DT) (A : Option Addr) (cap : Nat) (S0 : Nat → Prop) (s0 : σ) (w : World) (h0 : Sq 0 s0) (hst : C.St s0 w)
    (hS : ∀ k, S0 k → k < w.heap.size ∧ ¬ C.O s0 k) (hl : DRow S0 w 12 A cap l) (hin : ∀ x, x ∈ l → UIn S0 w .win x) (hn : l.length ≤ 1048576)
    (hone : Hid (∀ (j : Nat) x s W, l[j]? = some x → Sq j s → Fr C s0 w s W → Calls Tryz.prog g (#[.agg x.c.toArray] ++ lb) W (OnePost C (Sq (j + 1)) Rel .win x s W))) :
    Calls Tryz.prog 110 #[.slice A l.length cap, .func (.func g) #[] lb] w (LsPost C (Sq l.length) Rel .win l s0 w) := by
  obtain ⟨i0, hi, hrest⟩ := Option.map_eq_some_iff.1 infoWin_u
  simp only [Prod.mk.injEq] at hrest
  obtain ⟨hz0, isz, iby⟩ := hrest
  obtain ⟨z, iz, hzs⟩ := Option.map_eq_some_iff.1 hz0
  obtain ⟨n, hlen⟩ : ∃ n, l.length = n := ⟨_, rfl⟩
  rw [hlen] at hn ⊢
  have Hl := Lib.hid hl
  have Hin := Lib.hid hin
  have HS := Lib.hid hS
  have Hlen := Lib.hid hlen
  have H0 := Lib.hid h0
  have Hst := Lib.hid hst
  clear hl hin hS hlen h0 hst
  go_enter Tryz.func110, Tryz.ntmps110
  go_wp2
  go_loopw [5, 10] (fun ov i wr => ∃ (j : Nat) (ys : List DT) (s : σ), j ≤ n ∧ i = .int .i64 j ∧ LsI C Sq Rel .win 103 l s0 w j ys s ov wr) (fun _ i _ => n - (intOf i).toNat)
  case atStart => exact ⟨0, [], s0, Nat.zero_le _, rfl, LsI.start H0.out Hst.out⟩
  case round =>
    obtain ⟨j, ys, s, hj, rfl, hI⟩ := hrel
    have HI := Lib.hid hI
    have hsrc : ∀ k, S0 k → wr.heap[k]? = w.heap[k]? := fun k hk => hI.fr.block k (HS.out k hk).1 (HS.out k hk).2
    by_cases hlt : j < n
    · obtain ⟨x, ad, hx, rfl, hb, hat⟩ := (Hl.out.keep hsrc (fun _ h => h)).get (show j < l.length by rw [Hlen.out]; exact hlt)
      have hxi := (Hin.out x (mem_of_get? hx))
      have hx6 := hxi.len
      have HiE : Hid ((Tryz.prog.info? 103).map (·.size) = some x.c.length) := by show _ = _; rw [hx6, hi]; simp [isz, Uy.sz]
      have HiE2 : Hid ((Tryz.prog.info? 103).map (·.size) = some x.c.toArray.size) := by show _ = _; rw [List.size_toArray, hx6, hi]; simp [isz, Uy.sz]
      have Hz : Hid (x.c.toArray.size = 12) := by show _ = _; rw [List.size_toArray, hx6]; rfl
      have H1 := Lib.hid (all_one hxi.ones)
      have Hat := Lib.hid (at_add hat)
      obtain ⟨W2, hW2⟩ : ∃ W2, wr.alloc (.cells x.c.toArray 103) = W2 := ⟨_, rfl⟩
      have Hcell : Hid (∀ j u, x.c[j]? = some u → W2.cell? ((⟨wr.heap.size, 0, none⟩ : Addr).add j) = some u) := by show ∀ j u, _ → _; rw [← hW2]; exact new_cellsT wr x.c 103
      have hbW2 : Below wr.heap.size wr W2 := by rw [← hW2]; exact bel1 _ _
      have hcall : Calls Tryz.prog g (#[.agg x.c.toArray] ++ lb) W2 (OnePost C (Sq (j + 1)) Rel .win x s W2) := hone.out j x s W2 hx hI.sq (hI.fr.trans (Fr.below hI.fr.st hbW2))
      have Hx := Lib.hid hx
      have HW2 := Lib.hid hW2
      have HbW2 := Lib.hid hbW2
      have HI' := HI
      have hjn : j < 1048576 := by omega
      have h3 : Hid (j + 1 ≤ maxLen) := by show _ ≤ _; unfold maxLen; omega
      have h4 : Hid ((j + 1) * 176 ≤ 140737488355328) := by show _ ≤ _; omega
      have hcallH : Hid (Calls Tryz.prog g (#[.agg x.c.toArray] ++ lb) W2 fun e w3 => ∃ (y : DT) (s' : σ), e = .returned (.agg y.c.toArray) ∧ Hid (Fr C s W2 s' w3) ∧ Hid (Sq (j + 1) s') ∧ Hid (UIn (Nw C W2.heap.size s' w3) w3 .win y) ∧ Hid (Rel x y) ∧ Hid (y.c.toArray.size = 12) ∧ Hid (∀ u, u ∈ y.c → u.oneCell' = true) ∧ Hid (w3.ownsRow w.heap.size 103 12 u5 j (ys.flatMap DT.c)) ∧ Hid (∀ o, w.heap.size ≤ (w3.alloc o).heap.size)) := by
        refine hcall.mono ?_
        rintro e w3 ⟨y, s', rfl, hf, hq, hy, hr⟩
        have hb0 := hbW2.size
        have hfz := hf.size
        have hw0 := hI.fr.size
        refine ⟨y, s', rfl, hf, hq, hy, hr, ?_, hy.ones, own_fr hI.own (by omega) fun k hk => ?_, fun o => by simp; omega⟩
        · show _ = _
          rw [List.size_toArray, hy.len]; rfl
        · have hl := hI.own.lt k hk
          exact (hf.block k (by omega) (hI.ne k hk)).trans (hbW2.block k hl.2)
      clear hat hxi hx6 hx hW2 hI hsrc hbW2 hcall
      go_upto_region 5 with (first | (refine wpList_load_st rfl 103 _ rfl _ Tryz.underlying103 rfl (ad.add (j * 12)) x.c HiE.out rfl Hat.out ?_) | (refine wpList_store_st rfl 103 _ _ rfl _ x.c.toArray HiE2.out Hz.out.symm H1.out rfl rfl ?_))
      rw [HW2.out]
      go_wp2_with (first | (refine wpList_load_st rfl 103 _ rfl _ Tryz.underlying103 rfl ⟨wr.heap.size, 0, none⟩ x.c HiE.out rfl Hcell.out ?_) | (go_at_fn g; refine hcallH.out.mono ?_; rintro e w3 ⟨y, s', rfl, Hf, Hq, Hy, Hr, Hzy, H1y, Hown3, Hz3⟩) | (refine wpList_one_st rfl 56 103 _ rfl i0 Tryz.underlying56 hi _ iz y.c.toArray (isz.trans Hzy.out.symm) (hzs.trans Hzy.out.symm) (by rw [Hzy.out]; decide) (by rw [Hzy.out]; decide) rfl ?_) | (at_builtin; refine wpList_append_row _ rfl _ _ 56 rfl w.heap.size 103 i0 _ 12 176 Tryz.underlying56 hi iz isz iby hzs (by decide) u5 _ _ rfl (Hown3.out.alloc _) (some ⟨w3.heap.size, 0, none⟩) 1 1 y.c rfl (by rw [← List.size_toArray, Hzy.out]) (new_srcK _ _ _) H1y.out h3.out h4.out (Hz3.out _) ?_; intro ov' w4 hown4 hg4 hm4))
      have Hst' := Lib.hid (HI.out.step Hst.out Hx.out HbW2.out Hf.out Hq.out Hy.out Hr.out hown4 hg4 hm4)
      clear hown4
      go_wp2_with fail
      go_roundw
      case rel => exact ⟨j + 1, ys ++ [y], s', by omega, by simp, Hst'.out⟩
      case measure => simp [intOf]; omega
    · obtain rfl : j = n := by omega
      have hzo := hI.own
      obtain ⟨A2, cap2, rfl, hrow, hnil⟩ := own_structs hzo hI.len (fun x hx => (hI.ins x hx).len)
      have hc1 := hrow.1
      rw [hI.len] at hc1
      have hclip := Lib.hid (clipWin_u A2 j cap2 wr hc1 hrow.2.1 hnil)
      have hfin := Lib.hid (HI.out.fin Hlen.out)
      clear hzo hrow hnil hI hc1
      go_wp2_with fail
      refine hclip.out.mono ?_
      rintro e w' ⟨rfl, rfl⟩
      go_wp2
      go_ret
      exact hfin.out
set_option maxRecDepth 100000 in
theorem clipKey_u (A : Option Addr) (n cap : Nat) (w : World) (h1 : n ≤ cap) (h2 : cap ≤ maxLen) (h0 : A = none → n = 0 ∧ cap = 0) :
    Calls Tryz.prog 129 #[.slice A n cap] w fun e w' => e = .returned (.slice A n n) ∧ w' = w := by
  unfold maxLen at h2
  cases A with
  | none =>
    obtain ⟨rfl, rfl⟩ := h0 rfl
    go_enter Tryz.func129, Tryz.ntmps129
    go_wp2
    go_ret
    exact ⟨rfl, rfl⟩
  | some ad =>
    clear h0
    go_enter Tryz.func129, Tryz.ntmps129
    go_wp2
    go_ret
    exact ⟨by simp, rfl⟩
theorem infoKey_u : (Tryz.prog.info? 105).map (fun i => (i.zero.map (fun z => z.cells.size), i.size, i.bytes)) = some (some 16, 16, 192) := by kernel_rfl
set_option maxRecDepth 100000 in
set_option maxHeartbeats 4000000 in
theorem listKey_any {σ : Type} (C : Cl σ) (Sq : Nat → σ → Prop) (Rel : DT → DT → Prop) (g : Nat) (lb : Array Value) (eg : ∀ args w, (callFunc g args).run Tryz.prog w = .ok (.enter g args) w) (l : List DT) (A : Option Addr) (cap : Nat) (S0 : Nat → Prop) (s0 : σ) (w : World) (h0 : Sq 0 s0) (hst : C.St s0 w)
    (hS : ∀ k, S0 k → k < w.heap.size ∧ ¬ C.O s0 k) (hl : DRow S0 w 16 A cap l) (hin : ∀ x, x ∈ l → UIn S0 w .key x) (hn : l.length ≤ 1048576)
    (hone : Hid (∀ (j : Nat) x s W, l[j]? = some x → Sq j s → Fr C s0 w s W → Calls Tryz.prog g (#[.agg x.c.toArray] ++ lb) W (OnePost C (Sq (j + 1)) Rel .key x s W))) :
    Calls Tryz.prog 113 #[.slice A l.length cap, .func (.func g) #[] lb] w (LsPost C (Sq l.length) Rel .key l s0 w) := by
  obtain ⟨i0, hi, hrest⟩ := Option.map_eq_some_iff.1 infoKey_u
  simp only [Prod.mk.injEq] at hrest
  obtain ⟨hz0, isz, iby⟩ := hrest
  obtain ⟨z, iz, hzs⟩ := Option.map_eq_some_iff.1 hz0
  obtain ⟨n, hlen⟩ : ∃ n, l.length = n := ⟨_, rfl⟩
  rw [hlen] at hn ⊢
  have Hl := Lib.hid hl
  have Hin := Lib.hid hin
  have HS := Lib.hid hS
  have Hlen := Lib.hid hlen
  have H0 := Lib.hid h0
  have Hst := Lib.hid hst
  clear hl hin hS hlen h0 hst
  go_enter Tryz.func113, Tryz.ntmps113
  go_wp2
  go_loopw [5, 10] (fun ov i wr => ∃ (j : Nat) (ys : List DT) (s : σ), j ≤ n ∧ i = .int .i64 j ∧ LsI C Sq Rel .key 105 l s0 w j ys s ov wr) (fun _ i _ => n - (intOf i).toNat)
  case atStart => exact ⟨0, [], s0, Nat.zero_le _, rfl, LsI.start H0.out Hst.out⟩
  case round =>
    obtain ⟨j, ys, s, hj, rfl, hI⟩ := hrel
    have HI := Lib.hid hI
    have hsrc : ∀ k, S0 k → wr.heap[k]? = w.heap[k]? := fun k hk => hI.fr.block k (HS.out k hk).1 (HS.out k hk).2
    by_cases hlt : j < n
    · obtain ⟨x, ad, hx, rfl, hb, hat⟩ := (Hl.out.keep hsrc (fun _ h => h)).get (show j < l.length by rw [Hlen.out]; exact hlt)
      have hxi := (Hin.out x (mem_of_get? hx))
      have hx6 := hxi.len
      have HiE : Hid ((Tryz.prog.info? 105).map (·.size) = some x.c.length) := by show _ = _; rw [hx6, hi]; simp [isz, Uy.sz]
      have HiE2 : Hid ((Tryz.prog.info? 105).map (·.size) = some x.c.toArray.size) := by show _ = _; rw [List.size_toArray, hx6, hi]; simp [isz, Uy.sz]
      have Hz : Hid (x.c.toArray.size = 16) := by show _ = _; rw [List.size_toArray, hx6]; rfl
      have H1 := Lib.hid (all_one hxi.ones)
      have Hat := Lib.hid (at_add hat)
      obtain ⟨W2, hW2⟩ : ∃ W2, wr.alloc (.cells x.c.toArray 105) = W2 := ⟨_, rfl⟩
      have Hcell : Hid (∀ j u, x.c[j]? = some u → W2.cell? ((⟨wr.heap.size, 0, none⟩ : Addr).add j) = some u) := by show ∀ j u, _ → _; rw [← hW2]; exact new_cellsT wr x.c 105
      have hbW2 : Below wr.heap.size wr W2 := by rw [← hW2]; exact bel1 _ _
      have hcall : Calls Tryz.prog g (#[.agg x.c.toArray] ++ lb) W2 (OnePost C (Sq (j + 1)) Rel .key x s W2) := hone.out j x s W2 hx hI.sq (hI.fr.trans (Fr.below hI.fr.st hbW2))
      have Hx := Lib.hid hx
      have HW2 := Lib.hid hW2
      have HbW2 := Lib.hid hbW2
      have HI' := HI
      have hjn : j < 1048576 := by omega
      have h3 : Hid (j + 1 ≤ maxLen) := by show _ ≤ _; unfold maxLen; omega
      have h4 : Hid ((j + 1) * 192 ≤ 140737488355328) := by show _ ≤ _; omega
      have hcallH : Hid (Calls Tryz.prog g (#[.agg x.c.toArray] ++ lb) W2 fun e w3 => ∃ (y : DT) (s' : σ), e = .returned (.agg y.c.toArray) ∧ Hid (Fr C s W2 s' w3) ∧ Hid (Sq (j + 1) s') ∧ Hid (UIn (Nw C W2.heap.size s' w3) w3 .key y) ∧ Hid (Rel x y) ∧ Hid (y.c.toArray.size = 16) ∧ Hid (∀ u, u ∈ y.c → u.oneCell' = true) ∧ Hid (w3.ownsRow w.heap.size 105 16 u5 j (ys.flatMap DT.c)) ∧ Hid (∀ o, w.heap.size ≤ (w3.alloc o).heap.size)) := by
        refine hcall.mono ?_
        rintro e w3 ⟨y, s', rfl, hf, hq, hy, hr⟩
        have hb0 := hbW2.size
        have hfz := hf.size
        have hw0 := hI.fr.size
        refine ⟨y, s', rfl, hf, hq, hy, hr, ?_, hy.ones, own_fr hI.own (by omega) fun k hk => ?_, fun o => by simp; omega⟩
        · show _ = _
          rw [List.size_toArray, hy.len]; rfl
        · have hl := hI.own.lt k hk
          exact (hf.block k (by omega) (hI.ne k hk)).trans (hbW2.block k hl.2)
      clear hat hxi hx6 hx hW2 hI hsrc hbW2 hcall
      go_upto_region 5 with (first | (refine wpList_load_st rfl 105 _ rfl _ Tryz.underlying105 rfl (ad.add (j * 16)) x.c HiE.out rfl Hat.out ?_) | (refine wpList_store_st rfl 105 _ _ rfl _ x.c.toArray HiE2.out Hz.out.symm H1.out rfl rfl ?_))
      rw [HW2.out]
      go_wp2_with (first | (refine wpList_load_st rfl 105 _ rfl _ Tryz.underlying105 rfl ⟨wr.heap.size, 0, none⟩ x.c HiE.out rfl Hcell.out ?_) | (go_at_fn g; refine hcallH.out.mono ?_; rintro e w3 ⟨y, s', rfl, Hf, Hq, Hy, Hr, Hzy, H1y, Hown3, Hz3⟩) | (refine wpList_one_st rfl 57 105 _ rfl i0 Tryz.underlying57 hi _ iz y.c.toArray (isz.trans Hzy.out.symm) (hzs.trans Hzy.out.symm) (by rw [Hzy.out]; decide) (by rw [Hzy.out]; decide) rfl ?_) | (at_builtin; refine wpList_append_row _ rfl _ _ 57 rfl w.heap.size 105 i0 _ 16 192 Tryz.underlying57 hi iz isz iby hzs (by decide) u5 _ _ rfl (Hown3.out.alloc _) (some ⟨w3.heap.size, 0, none⟩) 1 1 y.c rfl (by rw [← List.size_toArray, Hzy.out]) (new_srcK _ _ _) H1y.out h3.out h4.out (Hz3.out _) ?_; intro ov' w4 hown4 hg4 hm4))
      have Hst' := Lib.hid (HI.out.step Hst.out Hx.out HbW2.out Hf.out Hq.out Hy.out Hr.out hown4 hg4 hm4)
      clear hown4
      go_wp2_with fail
      go_roundw
      case rel => exact ⟨j + 1, ys ++ [y], s', by omega, by simp, Hst'.out⟩
      case measure => simp [intOf]; omega
    · obtain rfl : j = n := by omega
      have hzo := hI.own
      obtain ⟨A2, cap2, rfl, hrow, hnil⟩ := own_structs hzo hI.len (fun x hx => (hI.ins x hx).len)
      have hc1 := hrow.1
      rw [hI.len] at hc1
      have hclip := Lib.hid (clipKey_u A2 j cap2 wr hc1 hrow.2.1 hnil)
      have hfin := Lib.hid (HI.out.fin Hlen.out)
      clear hzo hrow hnil hI hc1
      go_wp2_with fail
      refine hclip.out.mono ?_
      rintro e w' ⟨rfl, rfl⟩
      go_wp2
      go_ret
      exact hfin.out
end Go.Proofs.YthijagpnpcpcbaaGreat

