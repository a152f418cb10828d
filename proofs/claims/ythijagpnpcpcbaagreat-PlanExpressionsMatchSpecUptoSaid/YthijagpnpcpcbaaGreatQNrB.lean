/-
  slices.Grow, slices.Clone, slices.Concat of two at expressions. (printed by wip/gen_nr.py)
  The expressions right in a relation: plain. (printed by wip/gen_nr.py)
-/
import Derived.Test.YthijagpnpcpcbaaGreatQGtB
import Derived.Test.YthijagpnpcpcbaaGreatQGtTb
import Derived.Test.YthijagpnpcpcbaaGreatProg
import Derived.WalkLawsBesides
import Derived.WalkSpells
import Derived.Outline
import Derived.Lib.Hide
import Derived.Lib.AppendZerosOnto
import Derived.Lib.SliceRun
import Derived.OwnWalk
import Derived.Lib.Walk
namespace Go.Proofs.YthijagpnpcpcbaaGreat
open Go.RowKit
theorem infoExpr : (Tryz.prog.info? 31).map (fun i => (i.zero, i.size, i.bytes)) = some (some (.agg #[.int .i64 0, .int .i64 0, .int .i64 0, .int .i64 0, .int .i64 0, .int .i64 0, .slice none 0 0, .int .i64 0, .int .i64 0, .int .i64 0, .string ByteArray.empty, .slice none 0 0, .slice none 0 0, .slice none 0 0]), 14, 184) := by kernel_rfl
theorem zeroCells_size (z : Array Value) (n : Nat) : (Builtin.zeroCells z n).size = n * z.size := by simp [Builtin.zeroCells]
theorem grow_zeros {P : Program} (w : World) (t tn e : TypeId) (i : TypeInfo) (z : Value) (sz by' : Nat) (ht : P.underlying t = some (.slice e)) (htn : P.underlying tn = some (.int .i64)) (hi : P.info? e = some i) (iz : i.zero = some z) (isz : i.size = sz) (iby : i.bytes = by') (hzs : z.cells.size = sz) (hsz : 0 < sz) (n : Nat) (h0 : 0 < n) (hn : n * by' ≤ 140737488355328) (hn63 : n ≤ 140737488355328) :
    ∃ (cp : Nat) (C : Array Value), n ≤ cp ∧ cp ≤ maxLen ∧ C.size = cp * sz ∧ ∀ ty, (Builtin.append_ #[t, tn] ty #[.slice none 0 0, .int .i64 (n : Int)]).run P w = .ok (.slice (some ⟨w.heap.size, 0, none⟩) n cp) (w.drew.alloc (.cells C e)) := by
  have hge := grownCap_ge w n 0 e
  refine ⟨grownCap w n 0 e, (([] : List Value).toArray ++ Builtin.zeroCells z.cells n ++ Builtin.zeroCells z.cells (grownCap w n 0 e - n)), hge, grownCap_le_maxLen w n 0 e (by unfold maxLen; omega), ?_, fun ty => ?_⟩
  · simp only [Array.size_append, zeroCells_size, hzs]
    rw [show ([] : List Value).toArray.size = 0 from rfl, Nat.zero_add, ← Nat.add_mul]
    congr 1
    omega
  · have h := Lib.run_append_grow_zeros (P := P) w t tn ty e i z .i64 .i64 ht htn hi iz none 0 0 [] (by simp [Builtin.firstCells]) n h0 (by omega) (by omega) (by simp; omega) (by rw [iby]; omega) (by simp only [Builtin.nextslicecap]; rw [if_pos (by omega), iby, Nat.zero_add]; omega)
    rw [Nat.zero_add] at h
    exact h
set_option maxRecDepth 100000 in
set_option maxHeartbeats 1000000 in
theorem cloneE_any (A : Option Addr) (cap : Nat) (l : List DT) (S : Nat → Prop) (w : World) (hr : DRow S w 14 A cap l) (hf : ∀ x, x ∈ l → x.c.length = 14) (h1 : ∀ x, x ∈ l → ∀ u, u ∈ x.c → u.oneCell' = true) (hn : l.length ≤ 1048576) :
    Calls Tryz.prog 11 #[.slice A l.length cap] w fun e w' => ∃ v, e = .returned v ∧ w'.ownsRow w.heap.size 31 14 v l.length (l.flatMap DT.c) ∧ Below w.heap.size w w' := by
  obtain ⟨i0, hi, iz, isz, iby⟩ := info_parts infoExpr
  have q : ∀ (w : World) (a : Option Addr) (n c n' c' : Nat), (binOp .eql 28 (.slice a n c) (.slice none n' c')).run Tryz.prog w = .ok (.bool a.isNone) w := fun w a n c n' c' => Lib.run_eql_slice_nil w _ _ a n c n' c' Tryz.underlying28
  cases A with
  | none =>
    have hl0 : l = [] := by
      cases l with
      | nil => rfl
      | cons y l => obtain ⟨ad, e, _⟩ := hr.2.2 0 y rfl; cases e
    subst hl0
    clear hr hf h1
    go_enter Tryz.func11, Tryz.ntmps11
    go_wp2
    go_ret
    exact ⟨_, rfl, World.ownsRow_nil _ _ _ _, Below.refl _ _⟩
  | some ad =>
    have hsrc := hr.src (by decide) hf
    have hlen := flatD_len hf
    have h1' : ∀ u, u ∈ l.flatMap DT.c → u.oneCell' = true := fun u hu => by
      obtain ⟨x, hx, hux⟩ := List.mem_flatMap.1 hu
      exact h1 x hx u hux
    have Hsrc : Hid (∀ o, SrcAt (w.alloc o) (some ad) (l.flatMap DT.c)) := fun o => by
      rcases hsrc with h | ⟨ad', e, h⟩
      · exact .inl h
      · exact .inr ⟨ad', e, fun j u hu => cell_old (h j u hu) o⟩
    have Hlen := Lib.hid hlen
    have H1 := Lib.hid h1'
    have hb : Hid ((0 + l.length) * 184 ≤ 140737488355328) := by show _ ≤ _; omega
    have hm : Hid (0 + l.length ≤ maxLen) := by show _ ≤ _; unfold maxLen; omega
    clear hsrc hlen h1' hr hf h1
    go_enter Tryz.func11, Tryz.ntmps11
    go_wp2_with (at_builtin; refine wpList_append_row _ rfl _ _ 28 rfl w.heap.size 31 i0 _ 14 184 Tryz.underlying28 hi iz isz iby rfl (by decide) (.slice (some ⟨w.heap.size, 0, none⟩) 0 0) 0 [] rfl (World.ownsRow_made w #[] 0 (Nat.le_refl _) (Nat.zero_le _) rfl) (some ad) l.length cap (l.flatMap DT.c) rfl Hlen.out (Hsrc.out _) H1.out hm.out hb.out (by simp) ?_; intro v' w1 hown1 hg1 hm1)
    go_ret
    refine ⟨v', rfl, by simpa using hown1, ?_⟩
    exact ((Below.refl _ w).alloc (Nat.le_refl _) _).grown hg1 (by simp) (fun k hk => by cases hk; exact Nat.le_refl _)
set_option maxRecDepth 100000 in
set_option maxHeartbeats 1000000 in
theorem growE_nil (n : Nat) (w : World) (hn : n * 184 ≤ 140737488355328) :
    Calls Tryz.prog 38 #[.slice none 0 0, .int .i64 n] w fun e w' => ∃ v, e = .returned v ∧ w'.ownsRow w.heap.size 31 14 v 0 [] ∧ Below w.heap.size w w' := by
  obtain ⟨i0, hi, iz, isz, iby⟩ := info_parts infoExpr
  have h1 : ¬ ((n : Int) < 0) := by omega
  by_cases h0 : n = 0
  · subst h0
    go_enter Tryz.func38, Tryz.ntmps38
    go_wp2
    go_ret
    exact ⟨_, rfl, World.ownsRow_nil _ _ _ _, Below.refl _ _⟩
  · obtain ⟨cp, C, hcp, hcm, hC, hrz⟩ := grow_zeros (P := Tryz.prog) w 28 3 31 i0 _ 14 184 Tryz.underlying28 Tryz.underlying3 hi iz isz iby rfl (by decide) n (by omega) hn (by omega)
    have hp : (0 : Int) < (n : Int) := by omega
    have HC := Lib.hid hC
    have Hcm := Lib.hid hcm
    have hcp2 : cp ≤ 9223372036854775807 := by unfold maxLen at hcm; exact hcm
    clear hC hcm
    go_enter Tryz.func38, Tryz.ntmps38
    go_wp2_with (at_builtin; refine Lib.wpList_append_run _ rfl _ _ _ _ rfl _ _ rfl rfl _ _ (hrz _) ?_)
    all_goals
      go_ret
      refine ⟨_, rfl, ?_, ?_⟩
      · exact World.ownsRow_made w.drew C cp (Nat.le_refl _) Hcm.out HC.out
      · exact (Below.refl _ _).drew.alloc (Nat.le_refl _) _
/-- The first j of two. -/
def two {α : Type} (l m : List α) (j : Nat) : List α := if j = 0 then [] else if j = 1 then l else l ++ m
theorem two0 {α : Type} (l m : List α) : two l m 0 = [] := rfl
theorem two1 {α : Type} (l m : List α) : two l m 1 = l := rfl
def CcRel (l m : List DT) (e sz : Nat) (B0 : Nat) (W0 : World) (sv i : Value) (wr : World) : Prop :=
  ∃ j : Nat, j ≤ 2 ∧ i = .int .i64 j ∧ wr.ownsRow B0 e sz sv (two l m j).length ((two l m j).flatMap DT.c) ∧ Below B0 W0 wr
theorem SrcAt.keep {S : Nat → Prop} {w w' : World} {sz : Nat} {A : Option Addr} {cap : Nat} {l : List DT} (h : DRow S w sz A cap l) (hs : ∀ k, S k → w'.heap[k]? = w.heap[k]?) (hsz : 0 < sz) (hf : ∀ x, x ∈ l → x.c.length = sz) : SrcAt w' A (l.flatMap DT.c) :=
  (h.keep hs (S' := fun _ => True) (fun _ _ => trivial)).src hsz hf
theorem CcRel.step {l m : List DT} {e sz B0 : Nat} {W0 wr w' : World} {sv sv' : Value} {j : Nat} (hB : W0.heap.size = B0) (hj : j < 2) (hb : Below B0 W0 wr) (hown0 : wr.ownsRow B0 e sz sv (two l m j).length ((two l m j).flatMap DT.c)) {k : List DT} (hk : two l m j ++ k = two l m (j + 1))
    (hown : w'.ownsRow B0 e sz sv' ((two l m j).length + k.length) ((two l m j).flatMap DT.c ++ k.flatMap DT.c)) (hg : wr.grownBy w' sv.ownBlock) : CcRel l m e sz B0 W0 sv' (.int .i64 ((j : Int) + 1)) w' := by
  refine ⟨j + 1, by omega, by simp, ?_, hb.grown hg (by rw [← hB]; exact hb.size) (fun q hq => (hown0.lt q hq).1)⟩
  rw [← hk, List.length_append, List.flatMap_append]
  exact hown
set_option maxRecDepth 100000 in
set_option maxHeartbeats 4000000 in
theorem concatE_two (A C : Option Addr) (acap ccap : Nat) (l m : List DT) (b : Nat) (S : Nat → Prop) (w : World) (hr : DRow S w 14 A acap l) (hr2 : DRow S w 14 C ccap m) (hS : ∀ k, S k → k < w.heap.size) (hf : ∀ x, x ∈ l ++ m → x.c.length = 14) (h1 : ∀ x, x ∈ l ++ m → ∀ u, u ∈ x.c → u.oneCell' = true) (hn : l.length + m.length ≤ 1048576)
    (c0 : w.cell? ⟨b, 0, none⟩ = some (.slice A l.length acap)) (c1 : w.cell? ⟨b, 1, none⟩ = some (.slice C m.length ccap)) :
    Calls Tryz.prog 19 #[.slice (some ⟨b, 0, none⟩) 2 2] w fun e w' => ∃ v, e = .returned v ∧ w'.ownsRow w.heap.size 31 14 v (l ++ m).length ((l ++ m).flatMap DT.c) ∧ Below w.heap.size w w' := by
  obtain ⟨i0, hi, iz, isz, iby⟩ := info_parts infoExpr
  have hbw : b < w.heap.size := cell_lt c0
  obtain ⟨ll, hll⟩ : ∃ n, l.length = n := ⟨_, rfl⟩
  obtain ⟨ml, hml⟩ : ∃ n, m.length = n := ⟨_, rfl⟩
  rw [hll] at c0
  rw [hml] at c1
  have hlm : ll + ml ≤ 1048576 := by rw [← hll, ← hml]; exact hn
  have Hl := Lib.hid (flatD_len (l := l) (c := 14) (fun x hx => hf x (by simp [hx])))
  have Hm := Lib.hid (flatD_len (l := m) (c := 14) (fun x hx => hf x (by simp [hx])))
  have H1l : Hid (∀ u, u ∈ l.flatMap DT.c → u.oneCell' = true) := fun u hu => by
    obtain ⟨x, hx, hux⟩ := List.mem_flatMap.1 hu
    exact h1 x (by simp [hx]) u hux
  have H1m : Hid (∀ u, u ∈ m.flatMap DT.c → u.oneCell' = true) := fun u hu => by
    obtain ⟨x, hx, hux⟩ := List.mem_flatMap.1 hu
    exact h1 x (by simp [hx]) u hux
  have Hsl : Hid (∀ W, Below w.heap.size w W → SrcAt W A (l.flatMap DT.c)) := fun W h => SrcAt.keep hr (fun k hk => h.block k (hS k hk)) (by decide) (fun x hx => hf x (by simp [hx]))
  have Hsm : Hid (∀ W, Below w.heap.size w W → SrcAt W C (m.flatMap DT.c)) := fun W h => SrcAt.keep hr2 (fun k hk => h.block k (hS k hk)) (by decide) (fun x hx => hf x (by simp [hx]))
  have Hll := Lib.hid hll
  have Hml := Lib.hid hml
  have hgr0 := growE_nil (ll + ml) w (by omega)
  rw [Int.natCast_add] at hgr0
  have hgr := Lib.hid hgr0
  clear hgr0
  clear hr hr2 hS hf h1 hn hll hml
  go_enter Tryz.func19, Tryz.ntmps19
  go_wp2
  go_loop [3, 11] (fun s i => (s = .int .i64 0 ∧ i = .int .i64 0) ∨ (s = .int .i64 (ll : Int) ∧ i = .int .i64 1) ∨ (s = .int .i64 ((ll : Int) + (ml : Int)) ∧ i = .int .i64 2)) (fun _ i => 2 - (intOf i).toNat)
  case atStart => exact .inl ⟨rfl, rfl⟩
  case round =>
    rcases hrel with ⟨rfl, rfl⟩ | ⟨rfl, rfl⟩ | ⟨rfl, rfl⟩
    · go_wp2
      go_round
      case rel => exact .inr (.inl ⟨by simp, rfl⟩)
      case measure => simp [intOf]
    · go_wp2
      go_round
      case rel => exact .inr (.inr ⟨rfl, rfl⟩)
      case measure => simp [intOf]
    · go_wp2_with fail
      refine hgr.out.mono ?_
      rintro e w1 ⟨v, rfl, hown1, hb1⟩
      have hv0 : CcRel l m 31 14 w.heap.size w v (.int .i64 0) w1 := ⟨0, by omega, rfl, hown1, hb1⟩
      have Hv0 := Lib.hid hv0
      clear hv0 hown1
      go_wp2
      go_loopw [6, 27] (fun sv i wr => CcRel l m 31 14 w.heap.size w sv i wr) (fun _ i _ => 2 - (intOf i).toNat)
      case atStart => exact Hv0.out
      case round =>
        obtain ⟨j, hj, rfl, hown, hb⟩ := hrel
        have d0 := (hb.cell (p := ⟨b, 0, none⟩) hbw).trans c0
        have d1 := (hb.cell (p := ⟨b, 1, none⟩) hbw).trans c1
        have hzr := hb.size
        have Hown := Lib.hid hown
        obtain rfl | rfl | rfl : j = 0 ∨ j = 1 ∨ j = 2 := by omega
        · have hm0 : Hid ((two l m 0).length + ll ≤ maxLen) := by show _ ≤ _; rw [two0]; unfold maxLen; simp; omega
          have hb0 : Hid (((two l m 0).length + ll) * 184 ≤ 140737488355328) := by show _ ≤ _; rw [two0]; simp; omega
          have hl0 : Hid ((l.flatMap DT.c).length = ll * 14) := by show _ = _; rw [Hl.out, Hll.out]
          clear hown
          go_wp2_with (at_builtin; refine wpList_append_row _ rfl _ _ 28 rfl w.heap.size 31 i0 _ 14 184 Tryz.underlying28 hi iz isz iby rfl (by decide) u6 _ _ rfl Hown.out A ll acap (l.flatMap DT.c) rfl hl0.out (Hsl.out _ hb) H1l.out hm0.out hb0.out hzr ?_; intro v' w2 hown2 hg2 hm2)
          have hst := CcRel.step (j := 0) (k := l) rfl (by omega) hb Hown.out rfl (by rw [Hll.out]; exact hown2) hg2
          have Hst := Lib.hid hst
          clear hst hown2
          go_roundw
          case rel => exact Hst.out
          case measure => simp [intOf]
        · have hm0 : Hid ((two l m 1).length + ml ≤ maxLen) := by show _ ≤ _; rw [two1, Hll.out]; unfold maxLen; omega
          have hb0 : Hid (((two l m 1).length + ml) * 184 ≤ 140737488355328) := by show _ ≤ _; rw [two1, Hll.out]; omega
          have hl0 : Hid ((m.flatMap DT.c).length = ml * 14) := by show _ = _; rw [Hm.out, Hml.out]
          clear hown
          go_wp2_with (at_builtin; refine wpList_append_row _ rfl _ _ 28 rfl w.heap.size 31 i0 _ 14 184 Tryz.underlying28 hi iz isz iby rfl (by decide) u6 _ _ rfl Hown.out C ml ccap (m.flatMap DT.c) rfl hl0.out (Hsm.out _ hb) H1m.out hm0.out hb0.out hzr ?_; intro v' w2 hown2 hg2 hm2)
          have hst := CcRel.step (j := 1) (k := m) rfl (by omega) hb Hown.out rfl (by rw [Hml.out]; exact hown2) hg2
          have Hst := Lib.hid hst
          clear hst hown2
          go_roundw
          case rel => exact Hst.out
          case measure => simp [intOf]
        · clear hown
          go_wp2
          go_ret
          exact ⟨_, rfl, Hown.out, hb⟩
end Go.Proofs.YthijagpnpcpcbaaGreat
namespace Go.Proofs.YthijagpnpcpcbaaGreat
open Go.RowKit
structure AggD (S : Nat → Prop) (w : World) (d : DT) (k at' : Int) (ds : Bool) (A : Option Addr) (cap : Nat) (az : List DT) (F : Option Addr) (fcap : Nat) (fs : List DT) : Prop where
  e : d = .node [.int .i64 k, .int .i64 at', .bool ds, .slice A az.length cap, .slice F fs.length fcap] [az, fs]
  ra : DRow S w 14 A cap az
  rf : DRow S w 14 F fcap fs
  ia : ∀ x, x ∈ az → DT.In S w .expr x
  if' : ∀ x, x ∈ fs → DT.In S w .expr x
theorem DT.In.agg {S : Nat → Prop} {w : World} {d : DT} (h : DT.In S w .agg d) : ∃ k at' ds A cap az F fcap fs, AggD S w d k at' ds A cap az F fcap fs := by
  cases h with
  | mk _ c kk hl h1 hok hk hr hx =>
    obtain ⟨az, fs, rfl⟩ := len2 hk
    obtain ⟨k, at', ds, v3, v4, rfl⟩ := hok
    obtain ⟨A, cap, eA, rA⟩ := hr 0 3 .expr az rfl rfl
    obtain ⟨F, fcap, eF, rF⟩ := hr 1 4 .expr fs rfl rfl
    simp at eA eF
    subst eA eF
    exact ⟨k, at', ds, A, cap, az, F, fcap, fs, rfl, rA, rF, hx 0 3 .expr az rfl rfl, hx 1 4 .expr fs rfl rfl⟩
structure WinD (S : Nat → Prop) (w : World) (d : DT) (k n : Int) (A : Option Addr) (cap : Nat) (az : List DT) (G : Option Addr) (gcap : Nat) (gs : List DT) (P : Option Addr) (pcap : Nat) (ps : List DT) (K : Option Addr) (kcap : Nat) (ks : List DT) (T : Option Addr) (tcap : Nat) (ts : List DT) (u fk fn tk tn : Int) : Prop where
  e : d = .node [.int .i64 k, .int .i64 n, .slice A az.length cap, .slice G gs.length gcap, .slice P ps.length pcap, .slice K ks.length kcap, .slice T ts.length tcap, .int .i64 u, .int .i64 fk, .int .i64 fn, .int .i64 tk, .int .i64 tn] [az, gs, ps, ks, ts]
  ra : DRow S w 14 A cap az
  rg : DRow S w 5 G gcap gs
  rp : DRow S w 14 P pcap ps
  rk : DRow S w 16 K kcap ks
  rt : DRow S w 16 T tcap ts
  ia : ∀ x, x ∈ az → DT.In S w .expr x
  ig : ∀ x, x ∈ gs → DT.In S w .agg x
  ip : ∀ x, x ∈ ps → DT.In S w .expr x
  ik : ∀ x, x ∈ ks → DT.In S w .key x
  it : ∀ x, x ∈ ts → DT.In S w .key x
theorem DT.In.win {S : Nat → Prop} {w : World} {d : DT} (h : DT.In S w .win d) : ∃ k n A cap az G gcap gs P pcap ps K kcap ks T tcap ts u fk fn tk tn, WinD S w d k n A cap az G gcap gs P pcap ps K kcap ks T tcap ts u fk fn tk tn := by
  cases h with
  | mk _ c kk hl h1 hok hk hr hx =>
    obtain ⟨az, gs, ps, ks, ts, rfl⟩ := len5' hk
    obtain ⟨k, n, v2, v3, v4, v5, v6, u, fk, fn, tk, tn, rfl⟩ := hok
    obtain ⟨A, cap, e2, r2⟩ := hr 0 2 .expr az rfl rfl
    obtain ⟨G, gcap, e3, r3⟩ := hr 1 3 .agg gs rfl rfl
    obtain ⟨P, pcap, e4, r4⟩ := hr 2 4 .expr ps rfl rfl
    obtain ⟨K, kcap, e5, r5⟩ := hr 3 5 .key ks rfl rfl
    obtain ⟨T, tcap, e6, r6⟩ := hr 4 6 .key ts rfl rfl
    simp at e2 e3 e4 e5 e6
    subst e2 e3 e4 e5 e6
    exact ⟨k, n, A, cap, az, G, gcap, gs, P, pcap, ps, K, kcap, ks, T, tcap, ts, u, fk, fn, tk, tn, rfl, r2, r3, r4, r5, r6, hx 0 2 .expr az rfl rfl, hx 1 3 .agg gs rfl rfl, hx 2 4 .expr ps rfl rfl, hx 3 5 .key ks rfl rfl, hx 4 6 .key ts rfl rfl⟩
/-- A key has an expression. -/
theorem DT.In.key {S : Nat → Prop} {w : World} {d : DT} (h : DT.In S w .key d) : DT.In S w .expr (keyE d) ∧ ∃ dn fi, d.c = (keyE d).c ++ [.bool dn, .bool fi] ∧ (keyE d).n = d.n := by
  cases h with
  | mk _ c kk hl h1 hok hk hr hx =>
    obtain ⟨a, v12, v13, dn, fi, rfl, ha⟩ := hok
    refine ⟨.mk .expr _ kk rfl (fun u hu => h1 u (List.mem_of_mem_take hu)) ⟨a, v12, v13, rfl, ha⟩ hk (fun i o s m h2 h3 => ?_) hx, dn, fi, rfl, ?_⟩
    · obtain ⟨A, cap, e, r⟩ := hr i o s m h2 h3
      refine ⟨A, cap, ?_, r⟩
      have ho : o = 12 ∨ o = 13 := by
        rcases i with _ | _ | i
        · simp [Ty.sl] at h2; exact .inl h2.1.symm
        · simp [Ty.sl] at h2; exact .inr h2.1.symm
        · simp [Ty.sl] at h2
      rcases ho with rfl | rfl <;> exact e
    · unfold keyE
      rw [DT.n_node, DT.n_node]
      rfl
theorem len_flat {f : DT → List DT} {l : List DT} (h : ∀ x, x ∈ l → (f x).length ≤ x.n) : (l.flatMap f).length ≤ nL l := by
  induction l with
  | nil => exact Nat.le_refl _
  | cons y l ih =>
    rw [List.flatMap_cons, List.length_append, nL_cons]
    have := h y (by simp)
    have := ih fun x hx => h x (by simp [hx])
    omega
theorem aggE_len (c : List Value) (az fs : List DT) : (aggE (.node c [az, fs])).length ≤ (DT.node c [az, fs]).n := by
  show (az ++ fs).length ≤ _
  rw [DT.n_node, List.length_append]
  have := len_nL az
  have := len_nL fs
  simp
  omega
theorem DT.In.aggLen {S : Nat → Prop} {w : World} {d : DT} (h : DT.In S w .agg d) : (aggE d).length ≤ d.n := by
  obtain ⟨k, at1, ds, A, cap, az, F, fcap, fs, hd⟩ := h.agg
  rw [hd.e]
  exact aggE_len _ _ _
theorem DT.In.winLen {S : Nat → Prop} {w : World} {d : DT} (h : DT.In S w .win d) : (winE d).length ≤ d.n := by
  obtain ⟨k, n, A, cap, az, G, gcap, gs, P, pcap, ps, K, kcap, ks, T, tcap, ts, u, fk, fn, tk, tn, hd⟩ := h.win
  rw [hd.e]
  show (az ++ gs.flatMap aggE ++ ps ++ (ks ++ ts).map keyE).length ≤ _
  rw [DT.n_node]
  have := len_nL az
  have := len_nL ps
  have := len_nL ks
  have := len_nL ts
  have := len_flat (f := aggE) (l := gs) fun x hx => (hd.ig x hx).aggLen
  simp at *
  omega
theorem DT.In.relLen {S : Nat → Prop} {w : World} {d : DT} (h : DT.In S w .rel d) : (relE d).length + 1 ≤ d.n := by
  obtain ⟨a, IA, icap, is, EA, ecap, es, GA, gcap, gs, WA, wcap, ws, KA, kcap, ks, hd⟩ := h.rel
  rw [hd.e]
  show (es ++ gs.flatMap aggE ++ ws.flatMap winE ++ ks.map keyE).length + 1 ≤ _
  rw [DT.n_node]
  have := len_nL es
  have := len_nL ks
  have := len_flat (f := aggE) (l := gs) fun x hx => (hd.ig x hx).aggLen
  have := len_flat (f := winE) (l := ws) fun x hx => (hd.iw x hx).winLen
  simp at *
  omega
/-- What gives expressions: a row of its own with the cells of the expressions. -/
def ExPost (l : List DT) (w : World) (e : Ending) (w' : World) : Prop := ∃ v, e = .returned v ∧ w'.ownsRow w.heap.size 31 14 v l.length (l.flatMap DT.c) ∧ Below w.heap.size w w'
/-- A row of expressions that is being made. -/
def OwnL (B0 : Nat) (W0 : World) (L : List DT) (sv : Value) (wr : World) : Prop := wr.ownsRow B0 31 14 sv L.length (L.flatMap DT.c) ∧ Below B0 W0 wr
theorem OwnL.step {B0 : Nat} {W0 wr w2 w3 : World} {L k : List DT} {sv sv' : Value} (h : OwnL B0 W0 L sv wr) (hB : W0.heap.size = B0) (hb2 : Below wr.heap.size wr w2) (hown : w3.ownsRow B0 31 14 sv' (L.length + k.length) (L.flatMap DT.c ++ k.flatMap DT.c)) (hg : w2.grownBy w3 sv.ownBlock) : OwnL B0 W0 (L ++ k) sv' w3 := by
  refine ⟨by rw [List.length_append, List.flatMap_append]; exact hown, ?_⟩
  have hz := h.2.size
  exact (h.2.trans (hb2.mono (by omega))).grown hg (by have := hb2.size; omega) (fun q hq => (h.1.lt q hq).1)
theorem OwnL.below {B0 : Nat} {W0 wr w2 : World} {L : List DT} {sv : Value} (h : OwnL B0 W0 L sv wr) (hB : W0.heap.size = B0) (hb2 : Below wr.heap.size wr w2) : OwnL B0 W0 L sv w2 :=
  ⟨own_below h.1 hb2, h.2.trans (hb2.mono (by have := h.2.size; omega))⟩
/-- What a loop over aggregates has at its head. -/
def AgRel (B0 : Nat) (W0 : World) (L gs : List DT) (sv i : Value) (wr : World) : Prop := ∃ j : Nat, j ≤ gs.length ∧ i = .int .i64 j ∧ OwnL B0 W0 (L ++ (gs.take j).flatMap aggE) sv wr
/-- What a loop over keys has at its head; the keys lie in the block of v4, which stays as it was in W4. -/
def KeRel (B0 : Nat) (W0 : World) (L ks : List DT) (W4 : World) (v4 : Value) (sv i : Value) (wr : World) : Prop := ∃ j : Nat, j ≤ ks.length ∧ i = .int .i64 j ∧ OwnL B0 W0 (L ++ (ks.take j).map keyE) sv wr ∧ W4.heap.size ≤ wr.heap.size ∧ ∀ q, v4.ownBlock = some q → wr.heap[q]? = W4.heap[q]? ∧ sv.ownBlock ≠ some q
theorem AgRel.step {B0 : Nat} {W0 w3 : World} {L gs : List DT} {sv' : Value} {j : Nat} {x : DT} (hx : gs[j]? = some x) (h : OwnL B0 W0 (L ++ (gs.take j).flatMap aggE ++ aggE x) sv' w3) : AgRel B0 W0 L gs sv' (.int .i64 ((j : Int) + 1)) w3 := by
  refine ⟨j + 1, (List.getElem?_eq_some_iff.1 hx).1, by simp, ?_⟩
  rw [List.take_add_one, hx, List.flatMap_append]
  simpa using h
theorem KeRel.step {B0 : Nat} {W0 wr w2 w3 : World} {L ks : List DT} {W4 : World} {v4 sv sv' : Value} {j : Nat} {x : DT} (hx : ks[j]? = some x) (h : OwnL B0 W0 (L ++ (ks.take j).map keyE ++ [keyE x]) sv' w3) (hb2 : Below wr.heap.size wr w2) (hg : w2.grownBy w3 sv.ownBlock) (hm : Moved w2 sv sv') (hz : W4.heap.size ≤ wr.heap.size) (hv4 : ∀ q, v4.ownBlock = some q → q < W4.heap.size) (hk : ∀ q, v4.ownBlock = some q → wr.heap[q]? = W4.heap[q]? ∧ sv.ownBlock ≠ some q) : KeRel B0 W0 L ks W4 v4 sv' (.int .i64 ((j : Int) + 1)) w3 := by
  have hz2 := hb2.size
  refine ⟨j + 1, (List.getElem?_eq_some_iff.1 hx).1, by simp, ?_, by have := hg.size; omega, fun q hq => ?_⟩
  · rw [List.take_add_one, hx, List.map_append]
    simpa using h
  · obtain ⟨h1, h2⟩ := hk q hq
    have h3 := hv4 q hq
    refine ⟨(hg.block q (by omega) (fun e => h2 e.symm)).trans ((hb2.block q (by omega)).trans h1), fun e => ?_⟩
    rcases hm with hm | hm
    · exact h2 (hm ▸ e)
    · have := hm q e; omega
theorem new_src (w : World) (cs : Array Value) (t : TypeId) : SrcAt (w.alloc (.cells cs t)) (some ⟨w.heap.size, 0, none⟩) cs.toList := .inr ⟨_, rfl, fun j u hu => by
  have hadd : (⟨w.heap.size, 0, none⟩ : Addr).add j = ⟨w.heap.size, j, none⟩ := by unfold Addr.add; split <;> simp_all
  rw [hadd, cell_new, ← Array.getElem?_toList]
  exact hu⟩
theorem DT.In.aggE {S : Nat → Prop} {w : World} {d : DT} (h : DT.In S w .agg d) : ∀ x, x ∈ aggE d → DT.In S w .expr x := by
  obtain ⟨k, at1, ds, A, cap, az, F, fcap, fs, hd⟩ := h.agg
  obtain ⟨he, ra, rf, ia, iff⟩ := hd
  subst he
  intro x hx
  rcases List.mem_append.1 (show x ∈ az ++ fs from hx) with hx | hx
  · exact ia x hx
  · exact iff x hx
theorem ones_flat {l : List DT} {S : Nat → Prop} {w : World} {t : Ty} (h : ∀ x, x ∈ l → DT.In S w t x) : ∀ u, u ∈ l.flatMap DT.c → u.oneCell' = true := fun u hu => by
  obtain ⟨x, hx, hux⟩ := List.mem_flatMap.1 hu
  exact (h x hx).ones u hux
/-- What a loop over structs with expressions has at its head. -/
def FlRel (f : DT → List DT) (B0 : Nat) (W0 : World) (L gs : List DT) (sv i : Value) (wr : World) : Prop := ∃ j : Nat, j ≤ gs.length ∧ i = .int .i64 j ∧ OwnL B0 W0 (L ++ (gs.take j).flatMap f) sv wr
theorem FlRel.step {f : DT → List DT} {B0 : Nat} {W0 w3 : World} {L gs : List DT} {sv' : Value} {j : Nat} {x : DT} (hx : gs[j]? = some x) (h : OwnL B0 W0 (L ++ (gs.take j).flatMap f ++ f x) sv' w3) : FlRel f B0 W0 L gs sv' (.int .i64 ((j : Int) + 1)) w3 := by
  refine ⟨j + 1, (List.getElem?_eq_some_iff.1 hx).1, by simp, ?_⟩
  rw [List.take_add_one, hx, List.flatMap_append]
  simpa using h
theorem map_flat (l : List DT) : l.flatMap (fun x => [keyE x]) = l.map keyE := List.map_eq_flatMap.symm
theorem DT.In.winE {S : Nat → Prop} {w : World} {d : DT} (h : DT.In S w .win d) : ∀ x, x ∈ winE d → DT.In S w .expr x := by
  obtain ⟨k, n, A, cap, az, G, gcap, gs, P, pcap, ps, K, kcap, ks, T, tcap, ts, u, fk, fn, tk, tn, hd⟩ := h.win
  obtain ⟨he, ra, rg, rp, rk, rt, ia, ig, ip, ik, it⟩ := hd
  subst he
  intro x hx
  rcases List.mem_append.1 (show x ∈ az ++ gs.flatMap Go.Proofs.YthijagpnpcpcbaaGreat.aggE ++ ps ++ (ks ++ ts).map keyE from hx) with hx | hx
  · rcases List.mem_append.1 hx with hx | hx
    · rcases List.mem_append.1 hx with hx | hx
      · exact ia x hx
      · obtain ⟨y, hy, hxy⟩ := List.mem_flatMap.1 hx
        exact (ig y hy).aggE x hxy
    · exact ip x hx
  · obtain ⟨y, hy, rfl⟩ := List.mem_map.1 hx
    rcases List.mem_append.1 hy with hy | hy
    · exact (ik y hy).key.1
    · exact (it y hy).key.1
end Go.Proofs.YthijagpnpcpcbaaGreat

