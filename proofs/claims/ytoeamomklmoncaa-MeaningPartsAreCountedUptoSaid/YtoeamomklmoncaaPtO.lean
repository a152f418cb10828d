/-
  The visitor's method at a relation: it gathers a table.
-/
import Derived.Test.YtoeamomklmoncaaPtOa
import Derived.Deep.RegionLawGrows
namespace Go.Proofs.Ytoeamomklmoncaa
open Go.RowKit
theorem step_append_own {P : Program} {ops : Array Oper} {o : Oper} {a : Act} {w : World} {K : Act → World → Prop} {Q : Exit → Act → World → Prop} {E : Prop}
    (hgd : o.guard = none) (s x : Operand) (t : TypeId) (ho : o.op = Op.call { callee := Callee.builtin Builtin.append, args := #[s, x], argTypes := #[t, t] })
    (base : Nat) (e : TypeId) (i : TypeInfo) (z : Value) (size bytes : Nat) (ht : P.underlying t = some (.slice e)) (hi : P.info? e = some i) (hz : i.zero = some z)
    (hsize : i.size = size) (hby : i.bytes = bytes) (hzs : z.cells.size = size) (hsz : 0 < size)
    (v : Value) (n : Nat) (xs : List Value) (hs : a.eval s = v) (hown : w.ownsRow base e size v n xs)
    (ad : Addr) (m c : Nat) (news : List Value) (hx : a.eval x = .slice (some ad) m c) (hm : 0 < m) (hl : news.length = m * size) (hnews : ∀ j u, news[j]? = some u → w.cell? (ad.add j) = some u) (h1 : ∀ u ∈ news, u.oneCell' = true)
    (h63 : n + m ≤ maxLen) (hbytes : (n + m) * bytes ≤ 140737488355328) (hbase : base ≤ w.heap.size)
    (hK : ∀ g cap' w', w'.ownsRow base e size (.slice (some ⟨g, 0, none⟩) (n + m) cap') (n + m) (xs ++ news) → w.grownBy w' v.ownBlock → Moved w v (.slice (some ⟨g, 0, none⟩) (n + m) cap') → K (a.put o.dst (.slice (some ⟨g, 0, none⟩) (n + m) cap')) w') :
    if Region.wanted o (yielded ops a.tmps) = true then Oper.wp P o a w K Q else E := by
  have hw : Region.wanted o (yielded ops a.tmps) = true := by simp [Region.wanted, hgd]
  have grows : ∀ (ao : Option Addr) (cap : Nat), v = .slice ao n cap → (ao = none → n = 0 ∧ cap = 0) → (∀ b, ao = some b → ∀ j u, xs[j]? = some u → w.cell? (b.add j) = some u) → cap < n + m → (if Region.wanted o (yielded ops a.tmps) = true then Oper.wp P o a w K Q else E) := by
    intro ao cap hv hnone holds hfull
    refine step_append_grows hgd s x t ho e i z size bytes ht hi hz hsize hby hzs hsz ao n cap xs (hs.trans hv) hnone hown.1 holds ad m c news hx hl hnews h1 hfull h63 hbytes fun v' w' ho' hg' => ?_
    rcases ho'.2 with hn | ⟨g, cap', cur, e1, e2, e3⟩
    · have := hn.2
      omega
    · subst e1
      exact hK g cap' w' ⟨ho'.1, .inr ⟨g, cap', cur, rfl, by omega, e3⟩⟩ ⟨hg'.os, hg'.tape, hg'.output, hg'.size, fun k hk _ => hg'.block k hk (by simp)⟩ (.inr fun k hk => (ho'.lt k hk).1)
  rcases hown.2 with ⟨hv, hn⟩ | ⟨g, cap, cur, hv, hbg, hg, hnc, hcm, hcs, htake⟩
  · subst hn
    exact grows none 0 hv (fun _ => ⟨rfl, rfl⟩) (fun b hb => by cases hb) (by omega)
  · by_cases hroom : n + m ≤ cap
    · subst hsize
      have hlen : (xs ++ news).length = (n + m) * i.size := by rw [List.length_append, hown.1, hl, Nat.add_mul]
      have hfit : n * i.size + news.length ≤ cur.size := by rw [hl, hcs, ← Nat.add_mul]; exact Nat.mul_le_mul_right _ hroom
      have hr := run_append_room (P := P) w t o.type e i ht hi g n cap cur hg ad m c news hl hnews h1 hroom hfit
      have hres := hK g cap (w.setRow g (cur.toList.take (n * i.size) ++ news ++ cur.toList.drop (n * i.size + news.length)).toArray)
        ⟨hlen, .inr ⟨g, cap, _, rfl, hbg, setRow_heap w g cur _ e _ hg, hroom, hcm, by
          simp only [List.size_toArray, List.length_append, List.length_take, List.length_drop, Array.length_toList]
          omega, by rw [htake, ← hlen]; exact List.take_left⟩⟩
        ⟨rfl, rfl, rfl, by simp, fun k _ hk => setRow_other w g k _ (fun e => hk (by rw [hv, e]; rfl))⟩ (.inl (by rw [hv]; rfl))
      rw [if_pos hw]
      unfold Oper.wp
      rw [hv] at hs
      simp [execOp, ho, resolve, invoke, builtin, hs, hx, hr, Result.andThen]
      rw [List.append_assoc] at hres
      exact hres
    · exact grows (some ⟨g, 0, none⟩) cap hv (fun h => by cases h) (fun b hb j u hu => by cases hb; exact hown.cells (g := g) (by rw [hv]; rfl) j u hu) (by omega)
set_option maxRecDepth 100000 in
set_option maxHeartbeats 8000000 in
theorem tabrel_not (g B : Nat) (d : DT) (S : Nat → Prop) (w : World) (v : Value) (L : List DT) (hd : DT.In S w .rel d) (h : TInv g B w v L) (h1 : dInt d 0 ≠ 1) : Calls Try.prog 66 #[.pointer (some ⟨g, 0, none⟩), .agg d.c.toArray] w (XPost g B v (L ++ if dInt d 0 = 1 then [d] else []) w) := by
  rw [if_neg h1, List.append_nil]
  obtain ⟨a, IA, icap, is, EA, ecap, es, GA, gcap, gs, WA, wcap, ws, KA, kcap, ks, hr⟩ := hd.rel
  have hd2 := hr.e
  subst hd2
  have hkd : a.k ≠ 1 := h1
  have h1b : (a.k == 1) = false := by simpa using hkd
  have hb := bel1 w (.cells #[.int .i64 a.k, .int .i64 a.op, .string a.nm, .bool a.all, .slice a.TA a.tl a.tc, .slice a.RA a.rl a.rc, .slice IA is.length icap, .slice EA es.length ecap, .slice a.SA a.sl a.sc, .slice GA gs.length gcap, .slice WA ws.length wcap, .slice KA ks.length kcap, .int .i64 a.off, .int .i64 a.cnt] 31)
  have H := Lib.hid (h.below hb)
  have Hb := Lib.hid hb
  clear h h1 hd hr hb
  change Calls _ _ #[_, .agg #[.int .i64 a.k, .int .i64 a.op, .string a.nm, .bool a.all, .slice a.TA a.tl a.tc, .slice a.RA a.rl a.rc, .slice IA is.length icap, .slice EA es.length ecap, .slice a.SA a.sl a.sc, .slice GA gs.length gcap, .slice WA ws.length wcap, .slice KA ks.length kcap, .int .i64 a.off, .int .i64 a.cnt]] _ _
  go_enter Try.func66, Try.ntmps66
  go_wp2_with fail
  go_end0
  exact ⟨rfl, v, H.out, PFr.below Hb.out⟩
theorem own_tail {w : World} {B n : Nat} {e : TypeId} {q cap : Nat} {xs news : List Value} (h : w.ownsRow B e 14 (.slice (some ⟨q, 0, none⟩) (n + 1) cap) (n + 1) (xs ++ news)) (hx : xs.length = n * 14) : (∀ i u, news[i]? = some u → w.cell? ⟨q, n * 14 + i, none⟩ = some u) ∧ (∀ k, w.frozen? ⟨q, k, none⟩ = false) ∧ ∃ cur, w.heap[q]? = some (.cells cur e (0, 0)) := by
  rcases h.2 with ⟨hv, _⟩ | ⟨g, cap', cur, hv, _, hg, _, _, _, htake⟩
  · cases hv
  · cases hv
    refine ⟨fun i u hu => ?_, fun k => by simp [World.frozen?, hg], cur, hg⟩
    rw [cell_of_row _ _ _ _ _ _ hg]
    have h1 : (xs ++ news)[n * 14 + i]? = some u := by rw [List.getElem?_append_right (by omega), hx, Nat.add_sub_cancel_left]; exact hu
    rw [← htake, List.getElem?_take] at h1
    split at h1
    · simpa using h1
    · cases h1
/-- The cells of a zero relation. -/
def zRel : List Value := [.int .i64 0, .int .i64 0, .string ByteArray.empty, .bool false, .slice none 0 0, .slice none 0 0, .slice none 0 0, .slice none 0 0, .slice none 0 0, .slice none 0 0, .slice none 0 0, .slice none 0 0, .int .i64 0, .int .i64 0]
set_option maxRecDepth 100000 in
set_option maxHeartbeats 8000000 in
theorem tabrel_tab (g B : Nat) (d : DT) (S : Nat → Prop) (w : World) (v : Value) (L : List DT) (hd : DT.In S w .rel d) (h : TInv g B w v L) (h1 : dInt d 0 = 1) (hL : L.length + 1 ≤ 1048576) : Calls Try.prog 66 #[.pointer (some ⟨g, 0, none⟩), .agg d.c.toArray] w (XPost g B v (L ++ if dInt d 0 = 1 then [d] else []) w) := by
  rw [if_pos h1]
  obtain ⟨i0, hi, iz, isz, iby⟩ := info_parts infoRel
  obtain ⟨a, IA, icap, is, EA, ecap, es, GA, gcap, gs, WA, wcap, ws, KA, kcap, ks, hr⟩ := hd.rel
  have hd2 := hr.e
  obtain ⟨ak, aop, anm, aall, aTA, atl, atc, aRA, arl, arc, aSA, asl, asc, aoff, acnt⟩ := a
  subst hd2
  obtain rfl : ak = 1 := h1
  obtain ⟨W0, hW0⟩ : ∃ W0, w.alloc (.cells #[.int .i64 1, .int .i64 aop, .string anm, .bool aall, .slice aTA atl atc, .slice aRA arl arc, .slice IA is.length icap, .slice EA es.length ecap, .slice aSA asl asc, .slice GA gs.length gcap, .slice WA ws.length wcap, .slice KA ks.length kcap, .int .i64 aoff, .int .i64 acnt] 31) = W0 := ⟨_, rfl⟩
  have e0 : W0.heap[w.heap.size]? = some (.cells #[.int .i64 1, .int .i64 aop, .string anm, .bool aall, .slice aTA atl atc, .slice aRA arl arc, .slice IA is.length icap, .slice EA es.length ecap, .slice aSA asl asc, .slice GA gs.length gcap, .slice WA ws.length wcap, .slice KA ks.length kcap, .int .i64 aoff, .int .i64 acnt] 31 (0, 0)) := by rw [← hW0]; exact heap_alloc_new w _
  have hb0 : Below w.heap.size w W0 := by rw [← hW0]; exact bel1 _ _
  have hi0 := h.below hb0
  have hg0 := hi0.1
  have hgl := hi0.lt
  obtain ⟨A, vcap, rfl, _, _, _, _⟩ := own_srcN hi0.2.2
  have cg : W0.cell? ⟨g, 0, none⟩ = some (.slice A L.length vcap) := by rw [cell_of_row _ _ 0 _ _ _ hg0]; rfl
  have fg : W0.frozen? ⟨g, 0, none⟩ = false := free_of_one hg0
  have c0 := cell_of_row _ _ 0 _ _ _ e0
  have c1 := cell_of_row _ _ 1 _ _ _ e0
  have c2 := cell_of_row _ _ 2 _ _ _ e0
  have c3 := cell_of_row _ _ 3 _ _ _ e0
  have c4 := cell_of_row _ _ 4 _ _ _ e0
  have c5 := cell_of_row _ _ 5 _ _ _ e0
  have c6 := cell_of_row _ _ 6 _ _ _ e0
  have c7 := cell_of_row _ _ 7 _ _ _ e0
  have c8 := cell_of_row _ _ 8 _ _ _ e0
  have c9 := cell_of_row _ _ 9 _ _ _ e0
  have c10 := cell_of_row _ _ 10 _ _ _ e0
  have c11 := cell_of_row _ _ 11 _ _ _ e0
  have c12 := cell_of_row _ _ 12 _ _ _ e0
  have c13 := cell_of_row _ _ 13 _ _ _ e0
  simp at c0 c1 c2 c3 c4 c5 c6 c7 c8 c9 c10 c11 c12 c13
  have hxl : (L.flatMap DT.c).length = L.length * 14 := hi0.2.2.1
  have hb5 : Below W0.heap.size W0 (W0.drew.alloc (.cells #[.int .i64 0, .int .i64 0, .string ByteArray.empty, .bool false, .slice none 0 0, .slice none 0 0, .slice none 0 0, .slice none 0 0, .slice none 0 0, .slice none 0 0, .slice none 0 0, .slice none 0 0, .int .i64 0, .int .i64 0] 31)) := (Below.refl _ _).drew.trans (bel1 W0.drew _)
  have Hown : Hid ((W0.drew.alloc (.cells #[.int .i64 0, .int .i64 0, .string ByteArray.empty, .bool false, .slice none 0 0, .slice none 0 0, .slice none 0 0, .slice none 0 0, .slice none 0 0, .slice none 0 0, .slice none 0 0, .slice none 0 0, .int .i64 0, .int .i64 0] 31)).ownsRow B 31 14 (.slice A L.length vcap) L.length (L.flatMap DT.c)) := own_below hi0.2.2 hb5
  have Hnew : Hid (∀ j u, zRel[j]? = some u → (W0.drew.alloc (.cells #[.int .i64 0, .int .i64 0, .string ByteArray.empty, .bool false, .slice none 0 0, .slice none 0 0, .slice none 0 0, .slice none 0 0, .slice none 0 0, .slice none 0 0, .slice none 0 0, .slice none 0 0, .int .i64 0, .int .i64 0] 31)).cell? ((⟨W0.heap.size, 0, none⟩ : Addr).add j) = some u) := fun j u hu => new_cells W0.drew zRel _ j u hu
  have Hone : Hid (∀ u ∈ zRel, u.oneCell' = true) := by show ∀ u ∈ zRel, _; decide
  have h3 : Hid (L.length + 1 ≤ maxLen) := by show _ ≤ _; unfold maxLen; omega
  have h4 : Hid ((L.length + 1) * 248 ≤ 140737488355328) := by show _ ≤ _; omega
  have h5 : Hid (B ≤ (W0.drew.alloc (.cells #[.int .i64 0, .int .i64 0, .string ByteArray.empty, .bool false, .slice none 0 0, .slice none 0 0, .slice none 0 0, .slice none 0 0, .slice none 0 0, .slice none 0 0, .slice none 0 0, .slice none 0 0, .int .i64 0, .int .i64 0] 31)).heap.size) := by show _ ≤ _; have := hb5.size; omega
  have Hg5 : Hid (∀ w6 q qc, (W0.drew.alloc (.cells #[.int .i64 0, .int .i64 0, .string ByteArray.empty, .bool false, .slice none 0 0, .slice none 0 0, .slice none 0 0, .slice none 0 0, .slice none 0 0, .slice none 0 0, .slice none 0 0, .slice none 0 0, .int .i64 0, .int .i64 0] 31)).grownBy w6 (Value.slice A L.length vcap).ownBlock → Moved (W0.drew.alloc (.cells #[.int .i64 0, .int .i64 0, .string ByteArray.empty, .bool false, .slice none 0 0, .slice none 0 0, .slice none 0 0, .slice none 0 0, .slice none 0 0, .slice none 0 0, .slice none 0 0, .slice none 0 0, .int .i64 0, .int .i64 0] 31)) (.slice A L.length vcap) (.slice (some ⟨q, 0, none⟩) (L.length + 1) qc) → w6.heap[g]? = W0.heap[g]? ∧ g ≠ q) := fun w6 q qc hgr hmv => by
    have hne : some g ≠ (Value.slice A L.length vcap).ownBlock := own_neN hi0.2.2 hg0 (by decide)
    refine ⟨(hgr.block g (by have := hb5.size; omega) hne).trans (hb5.block g hgl.1), fun e => ?_⟩
    subst e
    rcases hmv with h | h
    · exact hne h
    · have := h g rfl
      have := hb5.size
      omega
  have hws : w.heap.size < W0.heap.size := (Array.getElem?_eq_some_iff.1 e0).1
  have hgs : g < W0.heap.size := hgl.1
  have hwn : w.heap.size ≠ W0.heap.size := Nat.ne_of_lt hws
  have hgn : g ≠ W0.heap.size := Nat.ne_of_lt hgs
  have Hxl := Lib.hid hxl
  have Hb5 := Lib.hid hb5
  have Hg0 := Lib.hid hg0
  have Hgl := Lib.hid hgl
  have HW0 := Lib.hid hW0
  have Hb0 := Lib.hid hb0
  have Hi0 := Lib.hid hi0
  clear hd hr hW0 e0 hb0 hi0 hg0 h hxl hb5 hgl
  change Calls _ _ #[_, .agg #[.int .i64 1, .int .i64 aop, .string anm, .bool aall, .slice aTA atl atc, .slice aRA arl arc, .slice IA is.length icap, .slice EA es.length ecap, .slice aSA asl asc, .slice GA gs.length gcap, .slice WA ws.length wcap, .slice KA ks.length kcap, .int .i64 aoff, .int .i64 acnt]] _ _
  go_enter Try.func66, Try.ntmps66
  go_upto_region 2 with (fail)
  rw [HW0.out]
  go_region_law (refine step_append_own rfl (.tmp 10) (.tmp 13) 24 rfl B 31 i0 _ 14 248 Try.underlying24 hi iz isz iby rfl (by decide) (.slice A L.length vcap) L.length (L.flatMap DT.c) (by simp [Act.eval, Act.put]) Hown.out ⟨W0.heap.size, 0, none⟩ 1 1 zRel (by simp [Act.eval, Act.put]) (by decide) rfl Hnew.out Hone.out h3.out h4.out h5.out ?_; intro q qc w6 hown6 hgr6 hmv6; obtain ⟨hg6, hgq⟩ := Hg5.out w6 q qc hgr6 hmv6; have g6 : w6.cell? ⟨g, 0, none⟩ = some (.slice A L.length vcap) := (World.cell?_of_block hg6).trans cg; have f6 : w6.frozen? ⟨g, 0, none⟩ = false := (World.frozen?_of_block hg6).trans fg; obtain ⟨hzz, hzf, hcur⟩ := own_tail hown6 Hxl.out; have z0 : w6.cell? ⟨q, L.length * 14, none⟩ = some (.int .i64 0) := hzz 0 _ rfl; have hlt : (L.length : Int) < (L.length : Int) + 1 := Int.lt_succ _; have z1 : w6.cell? ⟨q, L.length * 14 + 1, none⟩ = some (.int .i64 0) := hzz 1 _ rfl; have z2 : w6.cell? ⟨q, L.length * 14 + 2, none⟩ = some (.string ByteArray.empty) := hzz 2 _ rfl; have z3 : w6.cell? ⟨q, L.length * 14 + 3, none⟩ = some (.bool false) := hzz 3 _ rfl; have z4 : w6.cell? ⟨q, L.length * 14 + 4, none⟩ = some (.slice none 0 0) := hzz 4 _ rfl; have z5 : w6.cell? ⟨q, L.length * 14 + 5, none⟩ = some (.slice none 0 0) := hzz 5 _ rfl; have z6 : w6.cell? ⟨q, L.length * 14 + 6, none⟩ = some (.slice none 0 0) := hzz 6 _ rfl; have z7 : w6.cell? ⟨q, L.length * 14 + 7, none⟩ = some (.slice none 0 0) := hzz 7 _ rfl; have z8 : w6.cell? ⟨q, L.length * 14 + 8, none⟩ = some (.slice none 0 0) := hzz 8 _ rfl; have z9 : w6.cell? ⟨q, L.length * 14 + 9, none⟩ = some (.slice none 0 0) := hzz 9 _ rfl; have z10 : w6.cell? ⟨q, L.length * 14 + 10, none⟩ = some (.slice none 0 0) := hzz 10 _ rfl; have z11 : w6.cell? ⟨q, L.length * 14 + 11, none⟩ = some (.slice none 0 0) := hzz 11 _ rfl; have z12 : w6.cell? ⟨q, L.length * 14 + 12, none⟩ = some (.int .i64 0) := hzz 12 _ rfl; have z13 : w6.cell? ⟨q, L.length * 14 + 13, none⟩ = some (.int .i64 0) := hzz 13 _ rfl; have Hown6 := Lib.hid hown6; have Hgr6 := Lib.hid hgr6; have Hmv6 := Lib.hid hmv6; have Hcur := Lib.hid hcur; clear hown6 hgr6 hmv6 hzz hcur; dsimp only)
  all_goals
    go_wp2_with fail
    go_end0
    refine tab_close (zs := zRel) rfl rfl Hgl.out.2 Hown6.out Hxl.out (hg6.trans Hg0.out) hgq ((pfr_step (Hb0.out.trans (Hb5.out.mono Hb0.out.size)) Hgr6.out Hmv6.out).more (fun _ h => False.elim h)) (fun hq => ?_) _ (by first | (left; simp only [World.setCells, DT.c, Nat.add_assoc, Nat.reduceAdd]; done) | (right; simp only [World.setCells, DT.c, Nat.add_assoc, Nat.reduceAdd]; done))
    rcases Hmv6.out with h | h
    · exact h
    · exact absurd hq (Nat.not_lt.2 (Nat.le_trans (Nat.le_of_lt hws) (Nat.le_trans Hb5.out.size (h q rfl))))
theorem tab_ok : TabOk := fun g B d S w v L hd h hL => by
  by_cases h1 : dInt d 0 = 1
  · exact tabrel_tab g B d S w v L hd h h1 (hL.resolve_right (fun hn => hn h1))
  · exact tabrel_not g B d S w v L hd h h1
end Go.Proofs.Ytoeamomklmoncaa
