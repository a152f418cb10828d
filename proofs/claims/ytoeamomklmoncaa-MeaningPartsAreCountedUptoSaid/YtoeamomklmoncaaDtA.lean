/-
  Rows of structs that grow: an append of a whole row; rows that a call owns, as lists of trees.
-/
import Derived.Test.YtoeamomklmoncaaDt
import Derived.Test.YtoeamomklmoncaaApp
namespace Go.Proofs.Ytoeamomklmoncaa
open Go.RowKit
theorem run_append_zero {P : Program} (w : World) {base : Nat} {t ty e : TypeId} {i : TypeInfo} {size : Nat} (ht : P.underlying t = some (.slice e)) (hi : P.info? e = some i) {v : Value} {n : Nat} {xs : List Value} (hown : w.ownsRow base e size v n xs) (A : Option Addr) (c : Nat) :
    (Builtin.append_ #[t, t] ty #[v, .slice A 0 c]).run P w = .ok v w := by
  rcases hown.2 with ⟨rfl, rfl⟩ | ⟨g, cap, cur, rfl, _, _, hnc, _⟩ <;> cases A <;> simp [Builtin.append_, run_underlying ht, sizeOf, typeInfo, hi, Builtin.lenOf, Builtin.firstCells, storeCells, loadCells, loadCellsFrom, *]
/-- Where the cells of a source lie. -/
def SrcAt (w : World) (A : Option Addr) (news : List Value) : Prop := news = [] ∨ ∃ ad, A = some ad ∧ ∀ j u, news[j]? = some u → w.cell? (ad.add j) = some u
theorem wpList_append_row {P : Program} (w : World) {ops : Array Oper} {rest : List Oper} {o : Oper} {a : Act} {Q : Exit → Act → World → Prop} (hgd : o.guard = none) (s x : Operand) (t : TypeId)
    (ho : o.op = .call { callee := .builtin .append, args := #[s, x], argTypes := #[t, t] })
    (base : Nat) (e : TypeId) (i : TypeInfo) (z : Value) (size bytes : Nat) (ht : P.underlying t = some (.slice e)) (hi : P.info? e = some i) (hz : i.zero = some z)
    (hsize : i.size = size) (hby : i.bytes = bytes) (hzs : z.cells.size = size) (hsz : 0 < size)
    (v : Value) (n : Nat) (xs : List Value) (hs : a.eval s = v) (hown : w.ownsRow base e size v n xs)
    (A : Option Addr) (m c : Nat) (news : List Value) (hx : a.eval x = .slice A m c) (hl : news.length = m * size) (hnews : SrcAt w A news) (h1 : ∀ u ∈ news, u.oneCell' = true)
    (h63 : n + m ≤ maxLen) (hbytes : (n + m) * bytes ≤ 140737488355328) (hbase : base ≤ w.heap.size)
    (h : ∀ v' w', w'.ownsRow base e size v' (n + m) (xs ++ news) → w.grownBy w' v.ownBlock → Moved w v v' → wpList P ops Q rest (a.put o.dst v') w') : wpList P ops Q (o :: rest) a w := by
  by_cases hm : m = 0
  · subst hm
    have hn0 : news = [] := List.length_eq_zero_iff.1 (by rw [hl]; omega)
    subst hn0
    have hres := h v w (by simpa using hown) ⟨rfl, rfl, rfl, Nat.le_refl _, fun _ _ _ => rfl⟩ (.inl rfl)
    refine wpList_plain hgd fun K hK => ?_
    have hr := run_append_zero (P := P) (ty := o.type) w ht hi hown A c
    unfold Oper.wp
    simp [execOp, ho, resolve, invoke, builtin, hs, hx, hr, Result.andThen]
    exact hK _ _ hres
  · rcases hnews with rfl | ⟨ad, rfl, hc⟩
    · have : 0 < m * size := Nat.mul_pos (by omega) hsz
      simp at hl
      omega
    · exact wpList_append_own2 w hgd s x t ho base e i z size bytes ht hi hz hsize hby hzs hsz v n xs hs hown ad m c news hx (by omega) hl hc h1 h63 hbytes hbase h
theorem add_add (a : Addr) (m n : Nat) : (a.add m).add n = a.add (m + n) := by
  unfold Addr.add
  by_cases hn : n = 0
  · subst hn; simp
  · by_cases hm : m = 0
    · subst hm; simp [hn]
    · simp [hm, hn, Nat.add_assoc]
theorem flatD_at (c : Nat) : ∀ (l : List DT) (_ : ∀ x, x ∈ l → x.c.length = c) (i : Nat) (x : DT) (k : Nat), l[i]? = some x → k < c → (l.flatMap DT.c)[i * c + k]? = x.c[k]?
  | [], _, i, x, k, h, _ => by simp at h
  | y :: l, hf, 0, x, k, h, hk => by
    simp at h
    subst h
    rw [List.flatMap_cons, Nat.zero_mul, Nat.zero_add, List.getElem?_append_left (by rw [hf y (by simp)]; exact hk)]
  | y :: l, hf, i + 1, x, k, h, hk => by
    rw [List.flatMap_cons, List.getElem?_append_right (by rw [hf y (by simp), Nat.add_mul]; omega), hf y (by simp), show (i + 1) * c + k - c = i * c + k by rw [Nat.add_mul]; omega]
    exact flatD_at c l (fun x hx => hf x (by simp [hx])) i x k (by simpa using h) hk
theorem flatD_len {c : Nat} : ∀ {l : List DT}, (∀ x, x ∈ l → x.c.length = c) → (l.flatMap DT.c).length = l.length * c
  | [], _ => by simp
  | y :: l, hf => by
    rw [List.flatMap_cons, List.length_append, hf y (by simp), flatD_len fun x hx => hf x (by simp [hx]), List.length_cons, Nat.add_mul]
    omega
theorem DT.In.len {S : Nat → Prop} {w : World} {t : Ty} {d : DT} (h : DT.In S w t d) : d.c.length = t.sz := by
  cases h with
  | mk _ c k hl => exact hl
theorem DT.In.ones {S : Nat → Prop} {w : World} {t : Ty} {d : DT} (h : DT.In S w t d) : ∀ u, u ∈ d.c → u.oneCell' = true := by
  cases h with
  | mk _ c k hl h1 => exact h1
/-- The cells of a slice of structs, one behind the other. -/
theorem DRow.src {S : Nat → Prop} {w : World} {sz : Nat} {A : Option Addr} {cap : Nat} {l : List DT} (h : DRow S w sz A cap l) (hsz : 0 < sz) (hf : ∀ x, x ∈ l → x.c.length = sz) : SrcAt w A (l.flatMap DT.c) := by
  cases l with
  | nil => exact .inl rfl
  | cons y l =>
    obtain ⟨ad, rfl, _, _⟩ := h.2.2 0 y rfl
    refine .inr ⟨ad, rfl, fun j u hu => ?_⟩
    have hj : j < (y :: l).length * sz := by rw [← flatD_len hf]; exact (List.getElem?_eq_some_iff.1 hu).1
    have hi : j / sz < (y :: l).length := Nat.div_lt_of_lt_mul (by rw [Nat.mul_comm]; exact hj)
    have hk : j % sz < sz := Nat.mod_lt _ hsz
    have e : j / sz * sz + j % sz = j := by rw [Nat.mul_comm]; exact Nat.div_add_mod j sz
    obtain ⟨ad', e1, _, hat⟩ := h.2.2 (j / sz) _ (List.getElem?_eq_getElem hi)
    cases e1
    rw [← e, flatD_at sz _ hf _ _ _ (List.getElem?_eq_getElem hi) hk] at hu
    have := hat (j % sz) u hu
    have e2 : (if j % sz = 0 then ad.add (j / sz * sz) else (⟨(ad.add (j / sz * sz)).block, (ad.add (j / sz * sz)).off + j % sz, none⟩ : Addr)) = (ad.add (j / sz * sz)).add (j % sz) := rfl
    rw [e2, add_add, e] at this
    exact this
/-- A row of structs that a call owns, as a list. -/
theorem own_structs {w : World} {base e sz : Nat} {v : Value} {n : Nat} {l : List DT} (h : w.ownsRow base e sz v n (l.flatMap DT.c)) (hn : l.length = n) (hf : ∀ x, x ∈ l → x.c.length = sz) :
    ∃ (A : Option Addr) (cap : Nat), v = .slice A n cap ∧ DRow (fun q => v.ownBlock = some q ∧ base ≤ q ∧ q < w.heap.size) w sz A cap l ∧ (A = none → n = 0 ∧ cap = 0) := by
  rcases h.2 with ⟨rfl, rfl⟩ | ⟨g, cap, cur, rfl, hb, hg, h1, h2, h3, h4⟩
  · refine ⟨none, 0, rfl, ⟨by omega, Nat.zero_le _, fun i x hx => ?_⟩, fun _ => ⟨rfl, rfl⟩⟩
    have := (List.getElem?_eq_some_iff.1 hx).1
    omega
  · refine ⟨some ⟨g, 0, none⟩, cap, rfl, ⟨by omega, h2, fun i x hx => ⟨⟨g, 0, none⟩, rfl, ⟨rfl, hb, (Array.getElem?_eq_some_iff.1 hg).1⟩, fun j u hu => ?_⟩⟩, fun h => by cases h⟩
    have hj : j < sz := by rw [← hf x (List.mem_of_getElem? hx)]; exact (List.getElem?_eq_some_iff.1 hu).1
    have := h.cells (g := g) rfl (i * sz + j) u (by rw [flatD_at sz l hf i x j hx hj]; exact hu)
    rw [← add_add] at this
    exact this
end Go.Proofs.Ytoeamomklmoncaa
