/-
  Plain data: expressions and relations as trees, and what it means that they lie in memory.
-/
import Derived.Test.YtoeamomklmoncaaBox2
namespace Go.Proofs.Ytoeamomklmoncaa
open Go.RowKit
/-- A struct with slices of structs in it: its cells, and what its slices hold. -/
inductive DT where
  | node (c : List Value) (k : List (List DT))
def DT.c : DT → List Value
  | .node c _ => c
def DT.k : DT → List (List DT)
  | .node _ k => k
theorem DT.ind {P : DT → Prop} (h : ∀ c k, (∀ l, l ∈ k → ∀ x, x ∈ l → P x) → P (.node c k)) : ∀ d, P d
  | .node c k => h c k fun l hl x hx => by
      have : SizeOf.sizeOf x < SizeOf.sizeOf (DT.node c k) := by
        have h1 := List.sizeOf_lt_of_mem hx
        have h2 := List.sizeOf_lt_of_mem hl
        simp only [DT.node.sizeOf_spec]
        omega
      exact DT.ind h x
termination_by d => SizeOf.sizeOf d
decreasing_by assumption
/-- How many structs there are in it. -/
def DT.n : DT → Nat
  | .node c k => 1 + (k.attach.map fun l => (l.1.attach.map fun x => DT.n x.1).sum).sum
termination_by d => SizeOf.sizeOf d
decreasing_by
  have h1 := List.sizeOf_lt_of_mem x.2
  have h2 := List.sizeOf_lt_of_mem l.2
  simp only [DT.node.sizeOf_spec]
  omega
/-- How many there are in a list. -/
def nL (l : List DT) : Nat := (l.map DT.n).sum
theorem DT.n_node (c : List Value) (k : List (List DT)) : (DT.node c k).n = 1 + (k.map nL).sum := by
  rw [DT.n]
  congr 2
  have : ∀ l : List DT, (l.attach.map fun x => DT.n x.1).sum = nL l := fun l => by unfold nL; rw [List.attach_map_val (f := DT.n)]
  simp only [this]
  rw [List.attach_map_val (f := nL)]
theorem nL_cons (x : DT) (l : List DT) : nL (x :: l) = x.n + nL l := by simp [nL]
theorem nL_append (l m : List DT) : nL (l ++ m) = nL l + nL m := by simp [nL]
theorem nL_nil : nL [] = 0 := rfl
theorem DT.n_pos (d : DT) : 1 ≤ d.n := by
  obtain ⟨c, k⟩ := d
  rw [DT.n_node]
  omega
theorem len_nL (l : List DT) : l.length ≤ nL l := by
  induction l with
  | nil => exact Nat.le_refl _
  | cons x l ih => rw [nL_cons, List.length_cons]; have := x.n_pos; omega
theorem n_mem {x : DT} {l : List DT} (h : x ∈ l) : x.n ≤ nL l := by
  induction l with
  | nil => cases h
  | cons y l ih =>
    rw [nL_cons]
    rcases List.mem_cons.1 h with rfl | h
    · omega
    · have := ih h; omega
theorem nL_take (l : List DT) (j : Nat) : nL (l.take j) + nL (l.drop j) = nL l := by rw [← nL_append, List.take_append_drop]
/-- The kinds of structs. -/
inductive Ty where
  | expr
  | rel
  | agg
  | win
  | key
def Ty.sz : Ty → Nat
  | .expr => 14
  | .rel => 14
  | .agg => 5
  | .win => 12
  | .key => 16
/-- Its slices: where they stand, and of what. -/
def Ty.sl : Ty → List (Nat × Ty)
  | .expr => [(12, .expr), (13, .rel)]
  | .rel => [(6, .rel), (7, .expr), (9, .agg), (10, .win), (11, .key)]
  | .agg => [(3, .expr), (4, .expr)]
  | .win => [(2, .expr), (3, .agg), (4, .expr), (5, .key), (6, .key)]
  | .key => [(12, .expr), (13, .rel)]
/-- The parts of an expression but for its slices of structs. -/
structure EP where
  k : Int
  op : Int
  up : Int
  pos : Int
  tk : Int
  tsc : Int
  TA : Option Addr
  tl : Nat
  tc : Nat
  vk : Int
  vn : Int
  vsc : Int
  s : ByteArray
  VA : Option Addr
  vl : Nat
  vc : Nat
def EP.Ok (a : EP) : Prop := I64 a.k ∧ I64 a.op ∧ I64 a.up ∧ I64 a.pos
/-- The parts of a relation but for its slices of structs. -/
structure RP where
  k : Int
  op : Int
  nm : ByteArray
  all : Bool
  TA : Option Addr
  tl : Nat
  tc : Nat
  RA : Option Addr
  rl : Nat
  rc : Nat
  SA : Option Addr
  sl : Nat
  sc : Nat
  off : Int
  cnt : Int
/-- What is known of its cells. -/
def Ty.ok : Ty → List Value → Prop
  | .expr, c => ∃ (a : EP) (v12 v13 : Value), c = [.int .i64 a.k, .int .i64 a.op, .int .i64 a.up, .int .i64 a.pos, .int .i64 a.tk, .int .i64 a.tsc, .slice a.TA a.tl a.tc, .int .i64 a.vk, .int .i64 a.vn, .int .i64 a.vsc, .string a.s, .slice a.VA a.vl a.vc, v12, v13] ∧ a.Ok
  | .rel, c => ∃ (a : RP) (v6 v7 v9 v10 v11 : Value), c = [.int .i64 a.k, .int .i64 a.op, .string a.nm, .bool a.all, .slice a.TA a.tl a.tc, .slice a.RA a.rl a.rc, v6, v7, .slice a.SA a.sl a.sc, v9, v10, v11, .int .i64 a.off, .int .i64 a.cnt] ∧ I64 a.k ∧ a.tl ≤ 1048576
  | .agg, c => ∃ (k at' : Int) (ds : Bool) (v3 v4 : Value), c = [.int .i64 k, .int .i64 at', .bool ds, v3, v4]
  | .win, c => ∃ (k n : Int) (v2 v3 v4 v5 v6 : Value) (u fk fn tk tn : Int), c = [.int .i64 k, .int .i64 n, v2, v3, v4, v5, v6, .int .i64 u, .int .i64 fk, .int .i64 fn, .int .i64 tk, .int .i64 tn]
  | .key, c => ∃ (a : EP) (v12 v13 : Value) (dn fi : Bool), c = [.int .i64 a.k, .int .i64 a.op, .int .i64 a.up, .int .i64 a.pos, .int .i64 a.tk, .int .i64 a.tsc, .slice a.TA a.tl a.tc, .int .i64 a.vk, .int .i64 a.vn, .int .i64 a.vsc, .string a.s, .slice a.VA a.vl a.vc, v12, v13, .bool dn, .bool fi] ∧ a.Ok
/-- The cells of a struct lie at q. -/
def DT.At (w : World) (q : Addr) (x : DT) : Prop := ∀ (j : Nat) (u : Value), x.c[j]? = some u → w.cell? (if j = 0 then q else ⟨q.block, q.off + j, none⟩) = some u
/-- A slice of structs, in blocks of S. -/
def DRow (S : Nat → Prop) (w : World) (sz : Nat) (A : Option Addr) (cap : Nat) (l : List DT) : Prop :=
  l.length ≤ cap ∧ cap ≤ maxLen ∧ ∀ (i : Nat) (x : DT), l[i]? = some x → ∃ ad : Addr, A = some ad ∧ S ad.block ∧ x.At w (ad.add (i * sz))
inductive DT.In (S : Nat → Prop) (w : World) : Ty → DT → Prop
  | mk (t : Ty) (c : List Value) (k : List (List DT)) (hl : c.length = t.sz) (h1 : ∀ u, u ∈ c → u.oneCell' = true) (hok : t.ok c) (hk : k.length = t.sl.length)
      (hr : ∀ (i o : Nat) (s : Ty) (m : List DT), t.sl[i]? = some (o, s) → k[i]? = some m → ∃ A cap, c[o]? = some (.slice A m.length cap) ∧ DRow S w s.sz A cap m)
      (hx : ∀ (i o : Nat) (s : Ty) (m : List DT), t.sl[i]? = some (o, s) → k[i]? = some m → ∀ x, x ∈ m → DT.In S w s x) : DT.In S w t (.node c k)
theorem DT.At.keep {S : Nat → Prop} {w w' : World} {q : Addr} {x : DT} (h : x.At w q) (hs : ∀ k, S k → w'.heap[k]? = w.heap[k]?) (hq : S q.block) : x.At w' q := fun j u hu => by
  have := h j u hu
  split at this
  · rw [if_pos (by assumption)]; exact (World.cell?_of_block (hs _ hq)).trans this
  · rw [if_neg (by assumption)]; exact (World.cell?_of_block (a := ⟨q.block, q.off + j, none⟩) (hs _ hq)).trans this
theorem DRow.keep {S S' : Nat → Prop} {w w' : World} {sz : Nat} {A : Option Addr} {cap : Nat} {l : List DT} (h : DRow S w sz A cap l) (hs : ∀ k, S k → w'.heap[k]? = w.heap[k]?) (hS : ∀ k, S k → S' k) : DRow S' w' sz A cap l := by
  refine ⟨h.1, h.2.1, fun i x hx => ?_⟩
  obtain ⟨ad, e, hb, hat⟩ := h.2.2 i x hx
  exact ⟨ad, e, hS _ hb, hat.keep hs (by rw [block_add]; exact hb)⟩
theorem DT.In.keep {S S' : Nat → Prop} {w w' : World} {t : Ty} {d : DT} (h : DT.In S w t d) (hs : ∀ k, S k → w'.heap[k]? = w.heap[k]?) (hS : ∀ k, S k → S' k) : DT.In S' w' t d := by
  induction h with
  | mk t c k hl h1 hok hk hr hx ih =>
    refine .mk t c k hl h1 hok hk (fun i o s m h2 h3 => ?_) ih
    obtain ⟨A, cap, e, hrow⟩ := hr i o s m h2 h3
    exact ⟨A, cap, e, hrow.keep hs hS⟩
theorem DRow.get {S : Nat → Prop} {w : World} {sz : Nat} {A : Option Addr} {cap : Nat} {l : List DT} (h : DRow S w sz A cap l) {i : Nat} (hi : i < l.length) :
    ∃ (x : DT) (ad : Addr), l[i]? = some x ∧ A = some ad ∧ S ad.block ∧ x.At w (ad.add (i * sz)) := by
  obtain ⟨ad, e, hb, hat⟩ := h.2.2 i l[i] (List.getElem?_eq_getElem hi)
  exact ⟨l[i], ad, List.getElem?_eq_getElem hi, e, hb, hat⟩
theorem DRow.nil (S : Nat → Prop) (w : World) (sz : Nat) : DRow S w sz none 0 [] := ⟨Nat.le_refl _, Nat.zero_le _, fun i x hx => by simp at hx⟩
theorem len2 {α : Type} : ∀ {l : List α}, l.length = 2 → ∃ a b, l = [a, b]
  | [a, b], _ => ⟨a, b, rfl⟩
theorem len5' {α : Type} : ∀ {l : List α}, l.length = 5 → ∃ a b c d e, l = [a, b, c, d, e]
  | [a, b, c, d, e], _ => ⟨a, b, c, d, e, rfl⟩
/-- An expression, taken apart. -/
structure ExprD (S : Nat → Prop) (w : World) (d : DT) (a : EP) (A : Option Addr) (cap : Nat) (az : List DT) (B : Option Addr) (bcap : Nat) (ss : List DT) : Prop where
  e : d = .node [.int .i64 a.k, .int .i64 a.op, .int .i64 a.up, .int .i64 a.pos, .int .i64 a.tk, .int .i64 a.tsc, .slice a.TA a.tl a.tc, .int .i64 a.vk, .int .i64 a.vn, .int .i64 a.vsc, .string a.s, .slice a.VA a.vl a.vc, .slice A az.length cap, .slice B ss.length bcap] [az, ss]
  ok : a.Ok
  ra : DRow S w 14 A cap az
  rs : DRow S w 14 B bcap ss
  ia : ∀ x, x ∈ az → DT.In S w .expr x
  is : ∀ x, x ∈ ss → DT.In S w .rel x
theorem DT.In.expr {S : Nat → Prop} {w : World} {d : DT} (h : DT.In S w .expr d) : ∃ a A cap az B bcap ss, ExprD S w d a A cap az B bcap ss := by
  cases h with
  | mk _ c ks hl h1 hok hk hr hx =>
    obtain ⟨az, ss, rfl⟩ := len2 hk
    obtain ⟨a, v12, v13, rfl, ha⟩ := hok
    obtain ⟨A, cap, eA, rA⟩ := hr 0 12 .expr az rfl rfl
    obtain ⟨B, bcap, eB, rB⟩ := hr 1 13 .rel ss rfl rfl
    simp at eA eB
    subst eA eB
    exact ⟨a, A, cap, az, B, bcap, ss, rfl, ha, rA, rB, hx 0 12 .expr az rfl rfl, hx 1 13 .rel ss rfl rfl⟩
/-- A relation, taken apart. -/
structure RelD (S : Nat → Prop) (w : World) (d : DT) (a : RP) (IA : Option Addr) (icap : Nat) (is : List DT) (EA : Option Addr) (ecap : Nat) (es : List DT) (GA : Option Addr) (gcap : Nat) (gs : List DT) (WA : Option Addr) (wcap : Nat) (ws : List DT) (KA : Option Addr) (kcap : Nat) (ks : List DT) : Prop where
  e : d = .node [.int .i64 a.k, .int .i64 a.op, .string a.nm, .bool a.all, .slice a.TA a.tl a.tc, .slice a.RA a.rl a.rc, .slice IA is.length icap, .slice EA es.length ecap, .slice a.SA a.sl a.sc, .slice GA gs.length gcap, .slice WA ws.length wcap, .slice KA ks.length kcap, .int .i64 a.off, .int .i64 a.cnt] [is, es, gs, ws, ks]
  hk : I64 a.k
  ht : a.tl ≤ 1048576
  ri : DRow S w 14 IA icap is
  re : DRow S w 14 EA ecap es
  rg : DRow S w 5 GA gcap gs
  rw' : DRow S w 12 WA wcap ws
  rk : DRow S w 16 KA kcap ks
  ii : ∀ x, x ∈ is → DT.In S w .rel x
  ie : ∀ x, x ∈ es → DT.In S w .expr x
  ig : ∀ x, x ∈ gs → DT.In S w .agg x
  iw : ∀ x, x ∈ ws → DT.In S w .win x
  ik : ∀ x, x ∈ ks → DT.In S w .key x
theorem DT.In.rel {S : Nat → Prop} {w : World} {d : DT} (h : DT.In S w .rel d) : ∃ a IA icap is EA ecap es GA gcap gs WA wcap ws KA kcap ks, RelD S w d a IA icap is EA ecap es GA gcap gs WA wcap ws KA kcap ks := by
  cases h with
  | mk _ c kk hl h1 hok hk hr hx =>
    obtain ⟨is, es, gs, ws, ks, rfl⟩ := len5' hk
    obtain ⟨a, v6, v7, v9, v10, v11, rfl, b0, b4⟩ := hok
    obtain ⟨IA, icap, e6, r6⟩ := hr 0 6 .rel is rfl rfl
    obtain ⟨EA, ecap, e7, r7⟩ := hr 1 7 .expr es rfl rfl
    obtain ⟨GA, gcap, e9, r9⟩ := hr 2 9 .agg gs rfl rfl
    obtain ⟨WA, wcap, e10, r10⟩ := hr 3 10 .win ws rfl rfl
    obtain ⟨KA, kcap, e11, r11⟩ := hr 4 11 .key ks rfl rfl
    simp at e6 e7 e9 e10 e11
    subst e6 e7 e9 e10 e11
    exact ⟨a, IA, icap, is, EA, ecap, es, GA, gcap, gs, WA, wcap, ws, KA, kcap, ks, rfl, b0, b4, r6, r7, r9, r10, r11,
      hx 0 6 .rel is rfl rfl, hx 1 7 .expr es rfl rfl, hx 2 9 .agg gs rfl rfl, hx 3 10 .win ws rfl rfl, hx 4 11 .key ks rfl rfl⟩
/-! ## What Reads comes to -/
def dInt (d : DT) (i : Nat) : Int := match d.c[i]? with
  | some (.int _ n) => n
  | _ => 0
def dLen (d : DT) (i : Nat) : Nat := match d.c[i]? with
  | some (.slice _ n _) => n
  | _ => 0
def DT.kid (d : DT) (i : Nat) : List DT := d.k.getD i []
/-- The expression of a key. -/
def keyE (d : DT) : DT := .node (d.c.take 14) d.k
def aggE (d : DT) : List DT := d.kid 0 ++ d.kid 1
def winE (d : DT) : List DT := d.kid 0 ++ (d.kid 1).flatMap aggE ++ d.kid 2 ++ (d.kid 3 ++ d.kid 4).map keyE
/-- The expressions right in a relation. -/
def relE (d : DT) : List DT := d.kid 1 ++ (d.kid 2).flatMap aggE ++ (d.kid 3).flatMap winE ++ (d.kid 4).map keyE
end Go.Proofs.Ytoeamomklmoncaa
