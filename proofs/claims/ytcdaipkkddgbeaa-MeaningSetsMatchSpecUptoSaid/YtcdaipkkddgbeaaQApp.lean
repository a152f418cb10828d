/-
  An append to a row that the call owns: the row stays in its block, or lies in a new one. Types and values in memory of which it is known in which blocks they lie.
-/
import Derived.Test.YtcdaipkkddgbeaaQData3
import Derived.Laws.AppendOwn
import Derived.ArgAppend
import Derived.Below
namespace Go.Proofs.Ytcdaipkkddgbeaa
open Go.RowKit
/-- Where a row lies behind an append. -/
def Moved (w : World) (v v' : Value) : Prop := v'.ownBlock = v.ownBlock ∨ ∀ k, v'.ownBlock = some k → w.heap.size ≤ k
theorem wpList_append_own2 {P : Program} (w : World) {ops : Array Oper} {rest : List Oper} {o : Oper} {a : Act} {Q : Exit → Act → World → Prop} (hgd : o.guard = none) (s x : Operand) (t : TypeId)
    (ho : o.op = .call { callee := .builtin .append, args := #[s, x], argTypes := #[t, t] })
    (base : Nat) (e : TypeId) (i : TypeInfo) (z : Value) (size bytes : Nat) (ht : P.underlying t = some (.slice e)) (hi : P.info? e = some i) (hz : i.zero = some z)
    (hsize : i.size = size) (hby : i.bytes = bytes) (hzs : z.cells.size = size) (hsz : 0 < size)
    (v : Value) (n : Nat) (xs : List Value) (hs : a.eval s = v) (hown : w.ownsRow base e size v n xs)
    (ad : Addr) (m c : Nat) (news : List Value) (hx : a.eval x = .slice (some ad) m c) (hm : 0 < m) (hl : news.length = m * size) (hnews : ∀ j u, news[j]? = some u → w.cell? (ad.add j) = some u) (h1 : ∀ u ∈ news, u.oneCell' = true)
    (h63 : n + m ≤ maxLen) (hbytes : (n + m) * bytes ≤ 140737488355328) (hbase : base ≤ w.heap.size)
    (h : ∀ v' w', w'.ownsRow base e size v' (n + m) (xs ++ news) → w.grownBy w' v.ownBlock → Moved w v v' → wpList P ops Q rest (a.put o.dst v') w') : wpList P ops Q (o :: rest) a w := by
  have grows : ∀ (ao : Option Addr) (cap : Nat), v = .slice ao n cap → (ao = none → n = 0 ∧ cap = 0) → (∀ b, ao = some b → ∀ j u, xs[j]? = some u → w.cell? (b.add j) = some u) → cap < n + m → wpList P ops Q (o :: rest) a w := by
    intro ao cap hv hnone holds hfull
    refine wpList_append_grows w hgd s x t ho e i z size bytes ht hi hz hsize hby hzs hsz ao n cap xs (hs.trans hv) hnone hown.1 holds ad m c news hx hl hnews h1 hfull h63 hbytes fun v' w' ho' hg' => ?_
    refine h v' w' ⟨ho'.1, ?_⟩ ⟨hg'.os, hg'.tape, hg'.output, hg'.size, fun k hk _ => hg'.block k hk (by simp)⟩ (.inr fun k hk => (ho'.lt k hk).1)
    rcases ho'.2 with hn | ⟨g, cap', cur, e1, e2, e3⟩
    · exact .inl hn
    · exact .inr ⟨g, cap', cur, e1, by omega, e3⟩
  rcases hown.2 with ⟨hv, hn⟩ | ⟨g, cap, cur, hv, hbg, hg, hnc, hcm, hcs, htake⟩
  · subst hn
    exact grows none 0 hv (fun _ => ⟨rfl, rfl⟩) (fun b hb => by cases hb) (by omega)
  · by_cases hroom : n + m ≤ cap
    · subst hsize
      have hlen : (xs ++ news).length = (n + m) * i.size := by rw [List.length_append, hown.1, hl, Nat.add_mul]
      have hfit : n * i.size + news.length ≤ cur.size := by rw [hl, hcs, ← Nat.add_mul]; exact Nat.mul_le_mul_right _ hroom
      have hr := run_append_room (P := P) w t o.type e i ht hi g n cap cur hg ad m c news hl hnews h1 hroom hfit
      have hres := h (.slice (some ⟨g, 0, none⟩) (n + m) cap) (w.setRow g (cur.toList.take (n * i.size) ++ news ++ cur.toList.drop (n * i.size + news.length)).toArray)
        ⟨hlen, .inr ⟨g, cap, _, rfl, hbg, setRow_heap w g cur _ e _ hg, hroom, hcm, by
          simp only [List.size_toArray, List.length_append, List.length_take, List.length_drop, Array.length_toList]
          omega, by rw [htake, ← hlen]; exact List.take_left⟩⟩
        ⟨rfl, rfl, rfl, by simp, fun k _ hk => setRow_other w g k _ (fun e => hk (by rw [hv, e]; rfl))⟩ (.inl (by rw [hv]; rfl))
      refine wpList_plain hgd fun K hK => ?_
      unfold Oper.wp
      rw [hv] at hs
      simp [execOp, ho, resolve, invoke, builtin, hs, hx, hr, Result.andThen]
      rw [List.append_assoc] at hres
      exact hK _ _ hres
    · exact grows (some ⟨g, 0, none⟩) cap hv (fun h => by cases h) (fun b hb j u hu => by cases hb; exact hown.cells (g := g) (by rw [hv]; rfl) j u hu) (by omega)
/-! ## In which blocks they lie -/
def VT.RowS (S : Nat → Prop) (w : World) (A : Option Addr) (cap : Nat) (l : List VT) : Prop :=
  l.length ≤ cap ∧ cap ≤ maxLen ∧ ∀ (i : Nat) (x : VT), l[i]? = some x → ∃ ad : Addr, A = some ad ∧ S ad.block ∧ x.At w (ad.add (i * 5))
inductive VT.InS (S : Nat → Prop) (w : World) : VT → Prop
  | mk (k n sc : Int) (s : ByteArray) (A : Option Addr) (cap : Nat) (l : List VT) (hk : I64 k) (hn : I64 n) (hsc : I64 sc) (hs : s.size ≤ maxLen)
      (hr : VT.RowS S w A cap l) (hl : ∀ x, x ∈ l → VT.InS S w x) : VT.InS S w (.node ⟨k, n, sc, s, A, cap⟩ l)
theorem VT.At.keepS {S : Nat → Prop} {w w' : World} {q : Addr} {x : VT} (h : x.At w q) (hs : ∀ k, S k → w'.heap[k]? = w.heap[k]?) (hq : S q.block) : x.At w' q := by
  obtain ⟨h0, h1, h2, h3, h4⟩ := h
  have e := hs _ hq
  exact ⟨(World.cell?_of_block e).trans h0, (World.cell?_of_block (a := ⟨q.block, q.off + 1, none⟩) e).trans h1, (World.cell?_of_block (a := ⟨q.block, q.off + 2, none⟩) e).trans h2,
    (World.cell?_of_block (a := ⟨q.block, q.off + 3, none⟩) e).trans h3, (World.cell?_of_block (a := ⟨q.block, q.off + 4, none⟩) e).trans h4⟩
theorem VT.InS.keep {S S' : Nat → Prop} {w w' : World} {v : VT} (h : VT.InS S w v) (hs : ∀ k, S k → w'.heap[k]? = w.heap[k]?) (hS : ∀ k, S k → S' k) : VT.InS S' w' v := by
  induction h with
  | mk k n sc s A cap l hk hn hsc hs' hr hl ih =>
    refine .mk k n sc s A cap l hk hn hsc hs' ⟨hr.1, hr.2.1, fun i x hx => ?_⟩ ih
    obtain ⟨ad, e, hb, hat⟩ := hr.2.2 i x hx
    exact ⟨ad, e, hS _ hb, hat.keepS hs (by rw [block_add]; exact hb)⟩
theorem VT.InS.toIn {S : Nat → Prop} {B : Nat} {w : World} {v : VT} (h : VT.InS S w v) (hS : ∀ k, S k → k < B) : VT.In B w v := by
  induction h with
  | mk k n sc s A cap l hk hn hsc hs' hr hl ih =>
    refine .mk k n sc s A cap l hk hn hsc hs' ⟨hr.1, hr.2.1, fun i x hx => ?_⟩ ih
    obtain ⟨ad, e, hb, hat⟩ := hr.2.2 i x hx
    exact ⟨ad, e, hS _ hb, hat⟩
def FT.RowS (S : Nat → Prop) (w : World) (A : Option Addr) (cap : Nat) (l : List FT) : Prop :=
  l.length ≤ cap ∧ cap ≤ maxLen ∧ ∀ (i : Nat) (x : FT), l[i]? = some x → ∃ ad : Addr, A = some ad ∧ S ad.block ∧ x.At w (ad.add (i * 6))
inductive FT.InS (S : Nat → Prop) (w : World) : FT → Prop
  | mk (id : Int) (nm : ByteArray) (nd : Bool) (k sc : Int) (A : Option Addr) (cap : Nat) (l : List FT) (hid : I64 id) (hnm : nm.size ≤ maxLen) (hk : I64 k) (hsc : I64 sc)
      (hr : FT.RowS S w A cap l) (hl : ∀ x, x ∈ l → FT.InS S w x) : FT.InS S w (.node ⟨id, nm, nd, k, sc, A, cap⟩ l)
theorem FT.At.keepS {S : Nat → Prop} {w w' : World} {q : Addr} {x : FT} (h : x.At w q) (hs : ∀ k, S k → w'.heap[k]? = w.heap[k]?) (hq : S q.block) : x.At w' q := by
  obtain ⟨h0, h1, h2, h3, h4, h5⟩ := h
  have e := hs _ hq
  exact ⟨(World.cell?_of_block e).trans h0, (World.cell?_of_block (a := ⟨q.block, q.off + 1, none⟩) e).trans h1, (World.cell?_of_block (a := ⟨q.block, q.off + 2, none⟩) e).trans h2,
    (World.cell?_of_block (a := ⟨q.block, q.off + 3, none⟩) e).trans h3, (World.cell?_of_block (a := ⟨q.block, q.off + 4, none⟩) e).trans h4, (World.cell?_of_block (a := ⟨q.block, q.off + 5, none⟩) e).trans h5⟩
theorem FT.InS.keep {S S' : Nat → Prop} {w w' : World} {v : FT} (h : FT.InS S w v) (hs : ∀ k, S k → w'.heap[k]? = w.heap[k]?) (hS : ∀ k, S k → S' k) : FT.InS S' w' v := by
  induction h with
  | mk id nm nd k sc A cap l hid hnm hk hsc hr hl ih =>
    refine .mk id nm nd k sc A cap l hid hnm hk hsc ⟨hr.1, hr.2.1, fun i x hx => ?_⟩ ih
    obtain ⟨ad, e, hb, hat⟩ := hr.2.2 i x hx
    exact ⟨ad, e, hS _ hb, hat.keepS hs (by rw [block_add]; exact hb)⟩
theorem FT.InS.toIn {S : Nat → Prop} {B : Nat} {w : World} {v : FT} (h : FT.InS S w v) (hS : ∀ k, S k → k < B) : FT.In B w v := by
  induction h with
  | mk id nm nd k sc A cap l hid hnm hk hsc hr hl ih =>
    refine .mk id nm nd k sc A cap l hid hnm hk hsc ⟨hr.1, hr.2.1, fun i x hx => ?_⟩ ih
    obtain ⟨ad, e, hb, hat⟩ := hr.2.2 i x hx
    exact ⟨ad, e, hS _ hb, hat⟩
/-- New blocks, and not the row's own. -/
def Fresh (B : Nat) (w : World) (v : Value) (k : Nat) : Prop := B ≤ k ∧ k < w.heap.size ∧ some k ≠ v.ownBlock
/-- New blocks. -/
def New (B : Nat) (w : World) (k : Nat) : Prop := B ≤ k ∧ k < w.heap.size
theorem own_below {w w' : World} {B e size n : Nat} {v : Value} {xs : List Value} (h : w.ownsRow B e size v n xs) (hb : Below w.heap.size w w') : w'.ownsRow B e size v n xs := by
  refine ⟨h.1, ?_⟩
  rcases h.2 with hn | ⟨g, cap, cur, e1, e2, e3, rest⟩
  · exact .inl hn
  · exact .inr ⟨g, cap, cur, e1, e2, (hb.block g (Array.getElem?_eq_some_iff.1 e3).1).trans e3, rest⟩
end Go.Proofs.Ytcdaipkkddgbeaa
