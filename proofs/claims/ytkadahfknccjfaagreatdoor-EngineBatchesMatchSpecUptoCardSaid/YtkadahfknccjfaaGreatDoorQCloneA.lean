/-
  An append of any row to a row that the call owns.
  slices.Clone of numbers and texts.
  An append to a row that the call owns, at a step of a region that draws its order.
-/
import Derived.Test.YtkadahfknccjfaaGreatDoorQApp
import Derived.Test.YtkadahfknccjfaaGreatDoorQWideB
import Derived.Test.YtkadahfknccjfaaGreatDoorQNewAa
import Derived.Test.YtkadahfknccjfaaGreatDoorProg
import Derived.WalkLawsBesides
import Derived.WalkSpells
import Derived.Outline
import Derived.Lib.Hide
import Derived.Lib.AppendZerosOnto
import Derived.Lib.SliceRun
import Derived.OwnWalk
import Derived.Lib.Walk
import Derived.Deep.RegionLawGrows
namespace Go.Proofs.YtkadahfknccjfaaGreatDoor
open Go.RowKit
theorem run_append_zero {P : Program} (w : World) {base : Nat} {t ty e : TypeId} {i : TypeInfo} {size : Nat} (ht : P.underlying t = some (.slice e)) (hi : P.info? e = some i) {v : Value} {n : Nat} {xs : List Value} (hown : w.ownsRow base e size v n xs) (A : Option Addr) (c : Nat) :
    (Builtin.append_ #[t, t] ty #[v, .slice A 0 c]).run P w = .ok v w := by
  rcases hown.2 with ⟨rfl, rfl⟩ | ⟨g, cap, cur, rfl, _, _, hnc, _⟩ <;> cases A <;> simp [Builtin.append_, run_underlying ht, sizeOf, typeInfo, Builtin.lenOf, Builtin.firstCells, storeCells, loadCells, loadCellsFrom, *]
/-- Where the cells of a source lie. -/
def SrcAt (w : World) (A : Option Addr) (news : List Value) : Prop := news = [] ∨ ∃ ad, A = some ad ∧ ∀ j u, news[j]? = some u → w.cell? (ad.add j) = some u
theorem wpList_append_row {P : Program} (w : World) {ops : Array Oper} {rest : List Oper} {o : Oper} {a : Act} {Q : Exit → Act → World → Prop} (hgd : o.guard = none) (s x : Operand) (t : TypeId)
    (ho : o.op = .call { callee := .builtin .append, args := #[s, x], argTypes := #[t, t] })
    (base : Nat) (e : TypeId) (i : TypeInfo) (z : Value) (size bytes : Nat) (ht : P.underlying t = some (.slice e)) (hi : P.info? e = some i) (hz : i.zero = some z)
    (hsize : i.size = size) (hby : i.bytes = bytes) (hzs : z.cells.size = size) (hsz : 0 < size)
    (v : Value) (n : Nat) (xs : List Value) (hs : a.eval s = v) (hown : w.ownsRow base e size v n xs)
    (A : Option Addr) (m c : Nat) (news : List Value) (hx : a.eval x = .slice A m c) (hl : news.length = m * size) (hnews : SrcAt w A news) (h1 : ∀ u ∈ news, u.oneCell' = true)
    (h63 : n + m ≤ maxLen) (hbytes : (n + m) * bytes ≤ 140737488355328) (hbase : base ≤ w.heap.size)
    (h : ∀ v' w', w'.ownsRow base e size v' (n + m) (xs ++ news) → w.grownBy w' v.ownBlock → Moved w v v' → wpList P ops Q rest (a.put o.dst v') w') : wpList P ops Q (o :: rest) a w := by
  by_cases hm : m = 0
  · subst hm
    have hn0 : news = [] := List.length_eq_zero_iff.1 (by rw [hl]; omega)
    subst hn0
    have hres := h v w (by simpa using hown) ⟨rfl, rfl, rfl, Nat.le_refl _, fun _ _ _ => rfl⟩ (.inl rfl)
    refine wpList_plain hgd fun K hK => ?_
    have hr := run_append_zero (P := P) (ty := o.type) w ht hi hown A c
    unfold Oper.wp
    simp [execOp, ho, resolve, invoke, builtin, hs, hx, hr, Result.andThen]
    exact hK _ _ hres
  · rcases hnews with rfl | ⟨ad, rfl, hc⟩
    · have : 0 < m * size := Nat.mul_pos (by omega) hsz
      simp at hl
      omega
    · exact wpList_append_own2 w hgd s x t ho base e i z size bytes ht hi hz hsize hby hzs hsz v n xs hs hown ad m c news hx (by omega) hl hc h1 h63 hbytes hbase h
end Go.Proofs.YtkadahfknccjfaaGreatDoor
namespace Go.Proofs.YtkadahfknccjfaaGreatDoor
open Go.RowKit
theorem infoInt0 : (Tryz.prog.info? 3).map (fun i => (i.zero, i.size, i.bytes)) = some (some (.int .i64 0), 1, 8) := by kernel_rfl
theorem CRow.src {α : Type} {f : α → Value} {B : Nat} {w : World} {A : Option Addr} {cap : Nat} {l : List α} (h : CRow f B w A cap l) : SrcAt w A (l.map f) := by
  cases l with
  | nil => exact .inl rfl
  | cons y r =>
    obtain ⟨ad, e, _, _⟩ := h.2.2 0 y rfl
    refine .inr ⟨ad, e, fun j u hu => ?_⟩
    rw [List.getElem?_map] at hu
    cases hj : (y :: r)[j]? with
    | none => rw [hj] at hu; cases hu
    | some x =>
      rw [hj] at hu
      cases hu
      obtain ⟨ad2, e2, _, hat⟩ := h.2.2 j x hj
      rw [e] at e2
      cases e2
      exact hat
set_option maxRecDepth 100000 in
set_option maxHeartbeats 1000000 in
theorem cloneU_any (A : Option Addr) (cap : Nat) (l : List Int) (B : Nat) (w : World) (hr : CRow (Value.int .u64) B w A cap l) (hn : l.length ≤ 1048576) :
    Calls Tryz.prog 30 #[.slice A l.length cap] w fun e w' => ∃ v, e = .returned v ∧ w'.ownsRow w.heap.size 66 1 v l.length (l.map (Value.int .u64)) ∧ Below w.heap.size w w' := by
  obtain ⟨i0, hi, iz, isz, iby⟩ := info_parts infoU64
  have q : ∀ (w : World) (a : Option Addr) (n c n' c' : Nat), (binOp .eql 51 (.slice a n c) (.slice none n' c')).run Tryz.prog w = .ok (.bool a.isNone) w := fun w a n c n' c' => Lib.run_eql_slice_nil w _ _ a n c n' c' Tryz.underlying51
  cases A with
  | none =>
    have hl0 : l = [] := by
      cases l with
      | nil => rfl
      | cons y l => obtain ⟨ad, e, _⟩ := hr.2.2 0 y rfl; cases e
    subst hl0
    clear hr
    go_enter Tryz.func30, Tryz.ntmps30
    go_wp2
    go_ret
    exact ⟨_, rfl, World.ownsRow_nil _ _ _ _, Below.refl _ _⟩
  | some ad =>
    have hsrc := hr.src
    have hlen : (l.map (Value.int .u64)).length = l.length * 1 := by simp
    have h1' : ∀ u, u ∈ l.map (Value.int .u64) → u.oneCell' = true := fun u hu => by
      obtain ⟨x, hx, rfl⟩ := List.mem_map.1 hu
      rfl
    have Hsrc : Hid (∀ o, SrcAt (w.alloc o) (some ad) (l.map (Value.int .u64))) := fun o => by
      rcases hsrc with h | ⟨ad', e, h⟩
      · exact .inl h
      · exact .inr ⟨ad', e, fun j u hu => cell_old (h j u hu) o⟩
    have Hlen := Lib.hid hlen
    have H1 := Lib.hid h1'
    have hb : Hid ((0 + l.length) * 8 ≤ 140737488355328) := by show _ ≤ _; omega
    have hm : Hid (0 + l.length ≤ maxLen) := by show _ ≤ _; unfold maxLen; omega
    clear hsrc hlen h1' hr
    go_enter Tryz.func30, Tryz.ntmps30
    go_wp2_with (at_builtin; refine wpList_append_row _ rfl _ _ 51 rfl w.heap.size 66 i0 _ 1 8 Tryz.underlying51 hi iz isz iby rfl (by decide) (.slice (some ⟨w.heap.size, 0, none⟩) 0 0) 0 [] rfl (World.ownsRow_made w #[] 0 (Nat.le_refl _) (Nat.zero_le _) rfl) (some ad) l.length cap (l.map (Value.int .u64)) rfl Hlen.out (Hsrc.out _) H1.out hm.out hb.out (by simp) ?_; intro v' w1 hown1 hg1 hm1)
    go_ret
    refine ⟨v', rfl, by simpa using hown1, ?_⟩
    exact ((Below.refl _ w).alloc (Nat.le_refl _) _).grown hg1 (by simp) (fun k hk => by cases hk; exact Nat.le_refl _)
set_option maxRecDepth 100000 in
set_option maxHeartbeats 1000000 in
theorem cloneI_any (A : Option Addr) (cap : Nat) (l : List Int) (B : Nat) (w : World) (hr : CRow (Value.int .i64) B w A cap l) (hn : l.length ≤ 1048576) :
    Calls Tryz.prog 32 #[.slice A l.length cap] w fun e w' => ∃ v, e = .returned v ∧ w'.ownsRow w.heap.size 3 1 v l.length (l.map (Value.int .i64)) ∧ Below w.heap.size w w' := by
  obtain ⟨i0, hi, iz, isz, iby⟩ := info_parts infoInt0
  have q : ∀ (w : World) (a : Option Addr) (n c n' c' : Nat), (binOp .eql 30 (.slice a n c) (.slice none n' c')).run Tryz.prog w = .ok (.bool a.isNone) w := fun w a n c n' c' => Lib.run_eql_slice_nil w _ _ a n c n' c' Tryz.underlying30
  cases A with
  | none =>
    have hl0 : l = [] := by
      cases l with
      | nil => rfl
      | cons y l => obtain ⟨ad, e, _⟩ := hr.2.2 0 y rfl; cases e
    subst hl0
    clear hr
    go_enter Tryz.func32, Tryz.ntmps32
    go_wp2
    go_ret
    exact ⟨_, rfl, World.ownsRow_nil _ _ _ _, Below.refl _ _⟩
  | some ad =>
    have hsrc := hr.src
    have hlen : (l.map (Value.int .i64)).length = l.length * 1 := by simp
    have h1' : ∀ u, u ∈ l.map (Value.int .i64) → u.oneCell' = true := fun u hu => by
      obtain ⟨x, hx, rfl⟩ := List.mem_map.1 hu
      rfl
    have Hsrc : Hid (∀ o, SrcAt (w.alloc o) (some ad) (l.map (Value.int .i64))) := fun o => by
      rcases hsrc with h | ⟨ad', e, h⟩
      · exact .inl h
      · exact .inr ⟨ad', e, fun j u hu => cell_old (h j u hu) o⟩
    have Hlen := Lib.hid hlen
    have H1 := Lib.hid h1'
    have hb : Hid ((0 + l.length) * 8 ≤ 140737488355328) := by show _ ≤ _; omega
    have hm : Hid (0 + l.length ≤ maxLen) := by show _ ≤ _; unfold maxLen; omega
    clear hsrc hlen h1' hr
    go_enter Tryz.func32, Tryz.ntmps32
    go_wp2_with (at_builtin; refine wpList_append_row _ rfl _ _ 30 rfl w.heap.size 3 i0 _ 1 8 Tryz.underlying30 hi iz isz iby rfl (by decide) (.slice (some ⟨w.heap.size, 0, none⟩) 0 0) 0 [] rfl (World.ownsRow_made w #[] 0 (Nat.le_refl _) (Nat.zero_le _) rfl) (some ad) l.length cap (l.map (Value.int .i64)) rfl Hlen.out (Hsrc.out _) H1.out hm.out hb.out (by simp) ?_; intro v' w1 hown1 hg1 hm1)
    go_ret
    refine ⟨v', rfl, by simpa using hown1, ?_⟩
    exact ((Below.refl _ w).alloc (Nat.le_refl _) _).grown hg1 (by simp) (fun k hk => by cases hk; exact Nat.le_refl _)
set_option maxRecDepth 100000 in
set_option maxHeartbeats 1000000 in
theorem cloneS_any (A : Option Addr) (cap : Nat) (l : List ByteArray) (B : Nat) (w : World) (hr : CRow Value.string B w A cap l) (hn : l.length ≤ 1048576) :
    Calls Tryz.prog 34 #[.slice A l.length cap] w fun e w' => ∃ v, e = .returned v ∧ w'.ownsRow w.heap.size 9 1 v l.length (l.map Value.string) ∧ Below w.heap.size w w' := by
  obtain ⟨i0, hi, iz, isz, iby⟩ := info_parts infoStr
  have q : ∀ (w : World) (a : Option Addr) (n c n' c' : Nat), (binOp .eql 52 (.slice a n c) (.slice none n' c')).run Tryz.prog w = .ok (.bool a.isNone) w := fun w a n c n' c' => Lib.run_eql_slice_nil w _ _ a n c n' c' Tryz.underlying52
  cases A with
  | none =>
    have hl0 : l = [] := by
      cases l with
      | nil => rfl
      | cons y l => obtain ⟨ad, e, _⟩ := hr.2.2 0 y rfl; cases e
    subst hl0
    clear hr
    go_enter Tryz.func34, Tryz.ntmps34
    go_wp2
    go_ret
    exact ⟨_, rfl, World.ownsRow_nil _ _ _ _, Below.refl _ _⟩
  | some ad =>
    have hsrc := hr.src
    have hlen : (l.map Value.string).length = l.length * 1 := by simp
    have h1' : ∀ u, u ∈ l.map Value.string → u.oneCell' = true := fun u hu => by
      obtain ⟨x, hx, rfl⟩ := List.mem_map.1 hu
      rfl
    have Hsrc : Hid (∀ o, SrcAt (w.alloc o) (some ad) (l.map Value.string)) := fun o => by
      rcases hsrc with h | ⟨ad', e, h⟩
      · exact .inl h
      · exact .inr ⟨ad', e, fun j u hu => cell_old (h j u hu) o⟩
    have Hlen := Lib.hid hlen
    have H1 := Lib.hid h1'
    have hb : Hid ((0 + l.length) * 16 ≤ 140737488355328) := by show _ ≤ _; omega
    have hm : Hid (0 + l.length ≤ maxLen) := by show _ ≤ _; unfold maxLen; omega
    clear hsrc hlen h1' hr
    go_enter Tryz.func34, Tryz.ntmps34
    go_wp2_with (at_builtin; refine wpList_append_row _ rfl _ _ 52 rfl w.heap.size 9 i0 _ 1 16 Tryz.underlying52 hi iz isz iby rfl (by decide) (.slice (some ⟨w.heap.size, 0, none⟩) 0 0) 0 [] rfl (World.ownsRow_made w #[] 0 (Nat.le_refl _) (Nat.zero_le _) rfl) (some ad) l.length cap (l.map Value.string) rfl Hlen.out (Hsrc.out _) H1.out hm.out hb.out (by simp) ?_; intro v' w1 hown1 hg1 hm1)
    go_ret
    refine ⟨v', rfl, by simpa using hown1, ?_⟩
    exact ((Below.refl _ w).alloc (Nat.le_refl _) _).grown hg1 (by simp) (fun k hk => by cases hk; exact Nat.le_refl _)
end Go.Proofs.YtkadahfknccjfaaGreatDoor
namespace Go.Proofs.YtkadahfknccjfaaGreatDoor
open Go.RowKit
theorem step_append_own {P : Program} {ops : Array Oper} {o : Oper} {a : Act} {w : World} {K : Act → World → Prop} {Q : Exit → Act → World → Prop} {E : Prop}
    (hgd : o.guard = none) (s x : Operand) (t : TypeId) (ho : o.op = Op.call { callee := Callee.builtin Builtin.append, args := #[s, x], argTypes := #[t, t] })
    (base : Nat) (e : TypeId) (i : TypeInfo) (z : Value) (size bytes : Nat) (ht : P.underlying t = some (.slice e)) (hi : P.info? e = some i) (hz : i.zero = some z)
    (hsize : i.size = size) (hby : i.bytes = bytes) (hzs : z.cells.size = size) (hsz : 0 < size)
    (v : Value) (n : Nat) (xs : List Value) (hs : a.eval s = v) (hown : w.ownsRow base e size v n xs)
    (ad : Addr) (m c : Nat) (news : List Value) (hx : a.eval x = .slice (some ad) m c) (hm : 0 < m) (hl : news.length = m * size) (hnews : ∀ j u, news[j]? = some u → w.cell? (ad.add j) = some u) (h1 : ∀ u ∈ news, u.oneCell' = true)
    (h63 : n + m ≤ maxLen) (hbytes : (n + m) * bytes ≤ 140737488355328) (hbase : base ≤ w.heap.size)
    (hK : ∀ g cap' w', w'.ownsRow base e size (.slice (some ⟨g, 0, none⟩) (n + m) cap') (n + m) (xs ++ news) → w.grownBy w' v.ownBlock → Moved w v (.slice (some ⟨g, 0, none⟩) (n + m) cap') → K (a.put o.dst (.slice (some ⟨g, 0, none⟩) (n + m) cap')) w') :
    if Region.wanted o (yielded ops a.tmps) = true then Oper.wp P o a w K Q else E := by
  have hw : Region.wanted o (yielded ops a.tmps) = true := by simp [Region.wanted, hgd]
  have grows : ∀ (ao : Option Addr) (cap : Nat), v = .slice ao n cap → (ao = none → n = 0 ∧ cap = 0) → (∀ b, ao = some b → ∀ j u, xs[j]? = some u → w.cell? (b.add j) = some u) → cap < n + m → (if Region.wanted o (yielded ops a.tmps) = true then Oper.wp P o a w K Q else E) := by
    intro ao cap hv hnone holds hfull
    refine step_append_grows hgd s x t ho e i z size bytes ht hi hz hsize hby hzs hsz ao n cap xs (hs.trans hv) hnone hown.1 holds ad m c news hx hl hnews h1 hfull h63 hbytes fun v' w' ho' hg' => ?_
    rcases ho'.2 with hn | ⟨g, cap', cur, e1, e2, e3⟩
    · have := hn.2
      omega
    · subst e1
      exact hK g cap' w' ⟨ho'.1, .inr ⟨g, cap', cur, rfl, by omega, e3⟩⟩ ⟨hg'.os, hg'.tape, hg'.output, hg'.size, fun k hk _ => hg'.block k hk (by simp)⟩ (.inr fun k hk => (ho'.lt k hk).1)
  rcases hown.2 with ⟨hv, hn⟩ | ⟨g, cap, cur, hv, hbg, hg, hnc, hcm, hcs, htake⟩
  · subst hn
    exact grows none 0 hv (fun _ => ⟨rfl, rfl⟩) (fun b hb => by cases hb) (by omega)
  · by_cases hroom : n + m ≤ cap
    · subst hsize
      have hlen : (xs ++ news).length = (n + m) * i.size := by rw [List.length_append, hown.1, hl, Nat.add_mul]
      have hfit : n * i.size + news.length ≤ cur.size := by rw [hl, hcs, ← Nat.add_mul]; exact Nat.mul_le_mul_right _ hroom
      have hr := run_append_room (P := P) w t o.type e i ht hi g n cap cur hg ad m c news hl hnews h1 hroom hfit
      have hres := hK g cap (w.setRow g (cur.toList.take (n * i.size) ++ news ++ cur.toList.drop (n * i.size + news.length)).toArray)
        ⟨hlen, .inr ⟨g, cap, _, rfl, hbg, setRow_heap w g cur _ e _ hg, hroom, hcm, by
          simp only [List.size_toArray, List.length_append, List.length_take, List.length_drop, Array.length_toList]
          omega, by rw [htake, ← hlen]; exact List.take_left⟩⟩
        ⟨rfl, rfl, rfl, by simp, fun k _ hk => setRow_other w g k _ (fun e => hk (by rw [hv, e]; rfl))⟩ (.inl (by rw [hv]; rfl))
      rw [if_pos hw]
      unfold Oper.wp
      rw [hv] at hs
      simp [execOp, ho, resolve, invoke, builtin, hs, hx, hr, Result.andThen]
      rw [List.append_assoc] at hres
      exact hres
    · exact grows (some ⟨g, 0, none⟩) cap hv (fun h => by cases h) (fun b hb j u hu => by cases hb; exact hown.cells (g := g) (by rw [hv]; rfl) j u hu) (by omega)
end Go.Proofs.YtkadahfknccjfaaGreatDoor
