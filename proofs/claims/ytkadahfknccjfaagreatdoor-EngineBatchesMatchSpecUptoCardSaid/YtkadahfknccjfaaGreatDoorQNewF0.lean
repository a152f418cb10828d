/-
  Package engine: newVector at any kind; slices.Clip of numbers and texts.
  Package engine: NewVector: what it comes to. No code is walked here.
-/
import Derived.Test.YtkadahfknccjfaaGreatDoorQMeanBa
import Derived.Test.YtkadahfknccjfaaGreatDoorQNewC
import Derived.Test.YtkadahfknccjfaaGreatDoorQNewD
namespace Go.Proofs.YtkadahfknccjfaaGreatDoor
open Go.RowKit
/-- A row that a call owns, as a list. -/
theorem own_list {α : Type} {f : α → Value} {w : World} {base e n : Nat} {v : Value} {xs : List α} (h : w.ownsRow base e 1 v n (xs.map f)) (hn : xs.length = n) :
    ∃ (A : Option Addr) (cap : Nat), v = .slice A n cap ∧ CRow f w.heap.size w A cap xs ∧ (A = none → n = 0 ∧ cap = 0) := by
  rcases h.2 with ⟨rfl, rfl⟩ | ⟨g, cap, cur, rfl, hb, hg, h1, h2, h3, h4⟩
  · refine ⟨none, 0, rfl, ⟨by omega, Nat.zero_le _, fun i x hx => ?_⟩, fun _ => ⟨rfl, rfl⟩⟩
    have := (List.getElem?_eq_some_iff.1 hx).1
    omega
  · refine ⟨some ⟨g, 0, none⟩, cap, rfl, ⟨by omega, h2, fun i x hx => ⟨⟨g, 0, none⟩, rfl, (Array.getElem?_eq_some_iff.1 hg).1, ?_⟩⟩, fun h => by cases h⟩
    exact h.cells (g := g) rfl i (f x) (by rw [List.getElem?_map, hx]; rfl)
/-- The blocks from b on are kept. -/
def Keeps (b : Nat) (w w' : World) : Prop := (∀ q, b ≤ q → q < w.heap.size → w'.heap[q]? = w.heap[q]?) ∧ w.heap.size ≤ w'.heap.size
theorem Keeps.refl (b : Nat) (w : World) : Keeps b w w := ⟨fun _ _ _ => rfl, Nat.le_refl _⟩
theorem own_listK {α : Type} {f : α → Value} {w : World} {b base e n : Nat} {v : Value} {xs : List α} (h : w.ownsRow base e 1 v n (xs.map f)) (hn : xs.length = n) (hb : b ≤ base) :
    ∃ (A : Option Addr) (cap : Nat), v = .slice A n cap ∧ (∀ w', Keeps b w w' → CRow f w'.heap.size w' A cap xs) ∧ (A = none → n = 0 ∧ cap = 0) := by
  obtain ⟨A, cap, rfl, _, h0⟩ := own_list h hn
  refine ⟨A, cap, rfl, fun w' hk => ?_, h0⟩
  obtain ⟨A2, cap2, e, hrow, _⟩ := own_list (own_keep h fun k h1 h2 => hk.1 k (by omega) h2) hn
  cases e
  exact hrow
theorem own_valuesK {w : World} {b base n : Nat} {v : Value} {u : List VT} (h : w.ownsRow base 61 5 v n (u.flatMap vCells)) (hn : u.length = n) (hb : b ≤ base) :
    ∃ (A : Option Addr) (cap : Nat), v = .slice A n cap ∧ (∀ w', Keeps b w w' → VT.Row w'.heap.size w' A cap u) ∧ (A = none → n = 0 ∧ cap = 0) := by
  obtain ⟨A, cap, rfl, _, _, h0, _⟩ := own_values h hn
  refine ⟨A, cap, rfl, fun w' hk => ?_, h0⟩
  obtain ⟨A2, cap2, e, h1, h2, _, hat⟩ := own_values (own_keep h fun k h1 h2 => hk.1 k (by omega) h2) hn
  cases e
  refine ⟨by omega, h2, fun i x hx => ?_⟩
  obtain ⟨ad, e1, _, _, _, e2, e3, e4⟩ := hat i x hx
  exact ⟨ad, e1, e3, e4⟩
/-- A whole block, as a list. -/
theorem blk_crow {α : Type} {f : α → Value} {w : World} {g : Nat} {t : TypeId} {xs : List α} (h : w.heap[g]? = some (.cells (xs.map f).toArray t (0, 0))) (hl : xs.length ≤ maxLen) : CRow f w.heap.size w (some ⟨g, 0, none⟩) xs.length xs := by
  refine ⟨Nat.le_refl _, hl, fun i x hx => ⟨⟨g, 0, none⟩, rfl, (Array.getElem?_eq_some_iff.1 h).1, ?_⟩⟩
  have hadd : (⟨g, 0, none⟩ : Addr).add i = ⟨g, i, none⟩ := by unfold Addr.add; split <;> simp_all
  rw [hadd, cell_of_row w g i _ _ _ h, List.getElem?_toArray, List.getElem?_map, hx]
  rfl
theorem CRow.nil {α : Type} (f : α → Value) (B : Nat) (w : World) : CRow f B w none 0 ([] : List α) := ⟨Nat.le_refl _, Nat.zero_le _, fun i x hx => by simp at hx⟩
theorem VT.Rows.nil (B : Nat) (w : World) : VT.Rows B w none 0 [] := ⟨⟨Nat.le_refl _, Nat.zero_le _, fun i x hx => by simp at hx⟩, fun x hx => by cases hx⟩
/-- A vector has a type and values. -/
structure VecOf (t : FT) (l : List VT) (v : VecT) : Prop where
  ty : FT.Sm t v.t
  ns : ∃ ws : List Nat, v.ns = wI ws ∧ BitsOf l l.length ws ∧ ws.length = (l.length + 63) / 64
  is : v.is = if kindS t.a.k = 2 then l.map (fun x => x.a.n) else []
  ss : v.ss = if kindS t.a.k = 4 then l.map (fun x => x.a.s) else []
  vs : if kindS t.a.k = 6 then SmL l v.vs else v.vs = []
/-- No slice of it that is nil has room. -/
structure VecT.Nil (v : VecT) : Prop where
  i : v.IA = none → v.is.length = 0 ∧ v.icap = 0
  s : v.SA = none → v.ss.length = 0 ∧ v.scap = 0
  v : v.VA = none → v.vs.length = 0 ∧ v.vcap = 0
theorem kindS_any (k : Int) : kindS k = 2 ∨ kindS k = 4 ∨ kindS k = 6 := by
  unfold kindS
  split
  · exact .inr (.inl rfl)
  split
  · exact .inr (.inr rfl)
  · exact .inl rfl
def NvAll (u : FT) (l : List VT) (w : World) (e : Ending) (w' : World) : Prop :=
  ∃ v : VecT, e = .returned (.agg #[.int .i64 v.t.a.k, .int .i64 v.t.a.sc, .slice v.t.a.A v.t.l.length v.t.a.cap, .slice v.NA v.ns.length v.ncap, .slice v.IA v.is.length v.icap, .slice v.SA v.ss.length v.scap, .slice v.VA v.vs.length v.vcap]) ∧ Below w.heap.size w w' ∧ v.t = u ∧ (∀ w'', Keeps w.heap.size w' w'' → FT.In w''.heap.size w'' u → VecT.In w''.heap.size w'' v) ∧ VecOf u l v ∧ v.Nil
theorem wI_bound {ws : List Nat} (h : ∀ x, x ∈ ws → x < 18446744073709551616) : ∀ x, x ∈ wI ws → 0 ≤ x ∧ x ≤ 18446744073709551615 := fun x hx => by
  unfold wI at hx
  obtain ⟨y, hy, rfl⟩ := List.mem_map.1 hx
  have := h y hy
  omega
theorem FT.Sm.refl : ∀ t : FT, FT.Sm t t := by
  refine FT.ind fun a l ih => .mk a a l l rfl rfl rfl (fun i x y hx hy => ?_) fun i x y hx hy => ?_
  · rw [hx] at hy; cases hy; exact ⟨rfl, rfl, rfl⟩
  · rw [hx] at hy; cases hy; exact ih x (mem_of_get? hx)
theorem VT.In.n64 {B : Nat} {w : World} {x : VT} (h : VT.In B w x) : I64 x.a.n := by
  obtain ⟨a, l⟩ := x
  exact h.parts.2.1
theorem VT.In.s64 {B : Nat} {w : World} {x : VT} (h : VT.In B w x) : x.a.s.size ≤ maxLen := by
  obtain ⟨a, l⟩ := x
  exact h.parts.2.2.2.1
theorem enewVector_any (u : FT) (A2 : Option Addr) (size cap2 : Nat) (w : World) (l : List VT) (B : Nat) (hr : VT.Row B w A2 cap2 l) (hB : B ≤ w.heap.size) (hlen : l.length = size) (hs : size ≤ 1024) (hin : ∀ x, x ∈ l → VT.In B w x ∧ VT.Sml x) :
    Calls Tryz.prog 38 #[.agg #[.int .i64 u.a.k, .int .i64 u.a.sc, .slice u.a.A u.l.length u.a.cap], .slice A2 size cap2] w (NvAll u l w) := by
  have hm : ∀ n : Nat, n ≤ 1024 → n ≤ maxLen := fun n h => by unfold maxLen; omega
  rcases kindS_any u.a.k with hk | hk | hk
  · refine (enewVector_n u.a.k u.a.sc u.a.A A2 u.l.length u.a.cap size cap2 _ w l B hr hB hlen hk hs rfl hin).mono ?_
    rintro e w' ⟨nb, ws, r2, r3, r4, rfl, hb, hnb, hwl, hbits, hblk, hown, rfl, rfl⟩
    rw [List.take_of_length_le (by omega)] at hown
    obtain ⟨A, cap, rfl, hrow, hnil⟩ := own_listK (b := w.heap.size) (f := Value.int .i64) (xs := l.map fun x => x.a.n) (by rw [List.map_map]; exact hown) (by rw [List.length_map]; exact hlen) (by omega)
    have hwl' : (wI ws).length = (size + 63) / 64 := by unfold wI; rw [List.length_map]; exact hwl
    have hc : ∀ w'', Keeps w.heap.size w' w'' → CRow (.int .u64) w''.heap.size w'' (some ⟨nb, 0, none⟩) ((size + 63) / 64) (wI ws) := fun w'' hk => by
      have := blk_crow (f := Value.int .u64) ((hk.1 nb hnb (Array.getElem?_eq_some_iff.1 hblk).1).trans hblk) (hm _ (by omega))
      rw [hwl'] at this
      exact this
    refine ⟨⟨u, some ⟨nb, 0, none⟩, (size + 63) / 64, wI ws, A, cap, l.map fun x => x.a.n, none, 0, [], none, 0, []⟩, ?_, hb, rfl, fun w'' hk hu => ⟨hu, hc w'' hk, wI_bound hbits.2, hrow w'' hk, ?_, CRow.nil _ _ _, fun x hx => (by cases hx), VT.Rows.nil _ _⟩, ⟨FT.Sm.refl u, ⟨ws, rfl, by rw [hlen]; exact hbits, by rw [hlen]; exact hwl⟩, ?_, ?_, ?_⟩, ⟨fun h => ?_, fun _ => ⟨rfl, rfl⟩, fun _ => ⟨rfl, rfl⟩⟩⟩
    · simp only [hwl', List.length_map, hlen, List.length_nil]
    · intro x hx
      obtain ⟨y, hy, rfl⟩ := List.mem_map.1 hx
      exact (hin y hy).1.n64
    · rw [if_pos hk]
    · rw [if_neg (by omega)]
    · rw [if_neg (by omega)]
    · have := hnil h; simp only [List.length_map, hlen]; exact this
  · refine (enewVector_s u.a.k u.a.sc u.a.A A2 u.l.length u.a.cap size cap2 _ w l B hr hB hlen hk hs rfl hin).mono ?_
    rintro e w' ⟨nb, ws, r2, r3, r4, rfl, hb, hnb, hwl, hbits, hblk, hown, rfl, rfl⟩
    rw [List.take_of_length_le (by omega)] at hown
    obtain ⟨A, cap, rfl, hrow, hnil⟩ := own_listK (b := w.heap.size) (f := Value.string) (xs := l.map fun x => x.a.s) (by rw [List.map_map]; exact hown) (by rw [List.length_map]; exact hlen) (by omega)
    have hwl' : (wI ws).length = (size + 63) / 64 := by unfold wI; rw [List.length_map]; exact hwl
    have hc : ∀ w'', Keeps w.heap.size w' w'' → CRow (.int .u64) w''.heap.size w'' (some ⟨nb, 0, none⟩) ((size + 63) / 64) (wI ws) := fun w'' hk => by
      have := blk_crow (f := Value.int .u64) ((hk.1 nb hnb (Array.getElem?_eq_some_iff.1 hblk).1).trans hblk) (hm _ (by omega))
      rw [hwl'] at this
      exact this
    refine ⟨⟨u, some ⟨nb, 0, none⟩, (size + 63) / 64, wI ws, none, 0, [], A, cap, l.map fun x => x.a.s, none, 0, []⟩, ?_, hb, rfl, fun w'' hk hu => ⟨hu, hc w'' hk, wI_bound hbits.2, CRow.nil _ _ _, fun x hx => (by cases hx), hrow w'' hk, ?_, VT.Rows.nil _ _⟩, ⟨FT.Sm.refl u, ⟨ws, rfl, by rw [hlen]; exact hbits, by rw [hlen]; exact hwl⟩, ?_, ?_, ?_⟩, ⟨fun _ => ⟨rfl, rfl⟩, fun h => ?_, fun _ => ⟨rfl, rfl⟩⟩⟩
    · simp only [hwl', List.length_map, hlen, List.length_nil]
    · intro x hx
      obtain ⟨y, hy, rfl⟩ := List.mem_map.1 hx
      exact (hin y hy).1.s64
    · rw [if_neg (by omega)]
    · rw [if_pos hk]
    · rw [if_neg (by omega)]
    · have := hnil h; simp only [List.length_map, hlen]; exact this
  · refine (enewVector_v u.a.k u.a.sc u.a.A A2 u.l.length u.a.cap size cap2 _ w l B hr hB hlen hk hs rfl hin).mono ?_
    rintro e w' ⟨nb, ws, r2, r3, r4, rfl, hb, hnb, hwl, hbits, hblk, us, hul, hown, hsm, huin, rfl, rfl⟩
    obtain ⟨A, cap, rfl, hrow, hnil⟩ := own_valuesK (b := w.heap.size) hown hul (by omega)
    have hwl' : (wI ws).length = (size + 63) / 64 := by unfold wI; rw [List.length_map]; exact hwl
    have hc : ∀ w'', Keeps w.heap.size w' w'' → CRow (.int .u64) w''.heap.size w'' (some ⟨nb, 0, none⟩) ((size + 63) / 64) (wI ws) := fun w'' hk => by
      have := blk_crow (f := Value.int .u64) ((hk.1 nb hnb (Array.getElem?_eq_some_iff.1 hblk).1).trans hblk) (hm _ (by omega))
      rw [hwl'] at this
      exact this
    refine ⟨⟨u, some ⟨nb, 0, none⟩, (size + 63) / 64, wI ws, none, 0, [], none, 0, [], A, cap, us⟩, ?_, hb, rfl, fun w'' hk hu => ⟨hu, hc w'' hk, wI_bound hbits.2, CRow.nil _ _ _, fun x hx => (by cases hx), CRow.nil _ _ _, fun x hx => (by cases hx), ⟨hrow w'' hk, fun x hx => ((huin x hx).keep (S' := fun q => q < w''.heap.size) (fun q hq => hk.1 q (by have := hq.1; omega) hq.2.1) (fun q hq => by have := hq.2.1; have := hk.2; omega)).toIn fun q hq => hq⟩⟩, ⟨FT.Sm.refl u, ⟨ws, rfl, by rw [hlen]; exact hbits, by rw [hlen]; exact hwl⟩, ?_, ?_, ?_⟩, ⟨fun _ => ⟨rfl, rfl⟩, fun _ => ⟨rfl, rfl⟩, fun h => ?_⟩⟩
    · simp only [hwl', hul, List.length_nil]
    · rw [if_neg (by omega)]
    · rw [if_neg (by omega)]
    · rw [if_pos hk]; exact ⟨by show l.length = us.length; omega, hsm⟩
    · have := hnil h; simp only [hul]; exact this
set_option maxRecDepth 100000 in
theorem clipI_any (A : Option Addr) (n cap : Nat) (w : World) (h1 : n ≤ cap) (h2 : cap ≤ maxLen) (h0 : A = none → n = 0 ∧ cap = 0) :
    Calls Tryz.prog 31 #[.slice A n cap] w fun e w' => e = .returned (.slice A n n) ∧ w' = w := by
  unfold maxLen at h2
  cases A with
  | none =>
    obtain ⟨rfl, rfl⟩ := h0 rfl
    go_enter Tryz.func31, Tryz.ntmps31
    go_wp2
    go_ret
    exact ⟨rfl, rfl⟩
  | some ad =>
    clear h0
    go_enter Tryz.func31, Tryz.ntmps31
    go_wp2
    go_ret
    exact ⟨by simp, rfl⟩
set_option maxRecDepth 100000 in
theorem clipS_any (A : Option Addr) (n cap : Nat) (w : World) (h1 : n ≤ cap) (h2 : cap ≤ maxLen) (h0 : A = none → n = 0 ∧ cap = 0) :
    Calls Tryz.prog 33 #[.slice A n cap] w fun e w' => e = .returned (.slice A n n) ∧ w' = w := by
  unfold maxLen at h2
  cases A with
  | none =>
    obtain ⟨rfl, rfl⟩ := h0 rfl
    go_enter Tryz.func33, Tryz.ntmps33
    go_wp2
    go_ret
    exact ⟨rfl, rfl⟩
  | some ad =>
    clear h0
    go_enter Tryz.func33, Tryz.ntmps33
    go_wp2
    go_ret
    exact ⟨by simp, rfl⟩
end Go.Proofs.YtkadahfknccjfaaGreatDoor
namespace Go.Proofs.YtkadahfknccjfaaGreatDoor
open Go.RowKit
/-- The first error of values. -/
def ckL (t : FT) : List VT → Int
  | [] => 0
  | x :: r => if checkS t x ≠ 0 then checkS t x else ckL t r
/-- What is wrong with the values of a vector. -/
def newS (t : FT) (l : List VT) : Int := if plainS t ≠ 0 then plainS t else if 1024 < l.length then 7 else ckL t l
theorem ckL_ok {t : FT} : ∀ {l : List VT}, ckL t l = 0 → ∀ x, x ∈ l → checkS t x = 0
  | [], _, x, hx => by cases hx
  | y :: l, h, x, hx => by
    rw [ckL] at h
    by_cases hy : checkS t y ≠ 0
    · rw [if_pos hy] at h; exact absurd h hy
    · rw [if_neg hy] at h
      rcases List.mem_cons.1 hx with rfl | hx
      · exact Classical.not_not.1 hy
      · exact ckL_ok h x hx
def zeroVec : VecT := ⟨.node ⟨0, ⟨#[]⟩, false, 0, 0, none, 0⟩ [], none, 0, [], none, 0, [], none, 0, [], none, 0, []⟩
/-- What NewVector comes to. -/
def NvecPost (t : FT) (l : List VT) (w : World) (e : Ending) (w' : World) : Prop :=
  ∃ v : VecT, e = .returned (.tuple #[.agg #[.int .i64 v.t.a.k, .int .i64 v.t.a.sc, .slice v.t.a.A v.t.l.length v.t.a.cap, .slice v.NA v.ns.length v.ncap, .slice v.IA v.is.length v.icap, .slice v.SA v.ss.length v.scap, .slice v.VA v.vs.length v.vcap], .int .i64 (newS t l)]) ∧ Below w.heap.size w w' ∧ VecT.In w'.heap.size w' v ∧ (newS t l = 0 → VecOf t l v) ∧ (newS t l ≠ 0 → v = zeroVec)
theorem zeroVec_in (B : Nat) (w : World) : VecT.In B w zeroVec := by
  have i0 : I64 0 := ⟨by omega, by omega⟩
  exact ⟨.mk 0 ⟨#[]⟩ false 0 0 none 0 [] i0 (Nat.zero_le _) i0 i0 ⟨Nat.le_refl _, Nat.zero_le _, fun i x hx => by simp at hx⟩ (fun x hx => by cases hx), CRow.nil _ _ _, fun x hx => (by cases hx), CRow.nil _ _ _, fun x hx => (by cases hx), CRow.nil _ _ _, fun x hx => (by cases hx), VT.Rows.nil _ _⟩
theorem nvec_none {t : FT} {l : List VT} {w w' : World} {R : Int} (h : newS t l = R) (hR : R ≠ 0) (hb : Below w.heap.size w w') :
    NvecPost t l w (.returned (.tuple #[.agg #[.int .i64 0, .int .i64 0, .slice none 0 0, .slice none 0 0, .slice none 0 0, .slice none 0 0, .slice none 0 0], .int .i64 R])) w' :=
  ⟨zeroVec, by rw [h]; rfl, hb, zeroVec_in _ _, fun h0 => absurd (h.symm.trans h0) hR, fun _ => rfl⟩
theorem FT.Sm.trans : ∀ {v u t : FT}, FT.Sm v u → FT.Sm u t → FT.Sm v t := by
  intro v
  induction v using FT.ind with
  | h a l ih =>
    intro u t h h'
    obtain ⟨b, m⟩ := u
    obtain ⟨c, n⟩ := t
    obtain ⟨h1, h2, h3, h4, h5⟩ := h.inv
    obtain ⟨k1, k2, k3, k4, k5⟩ := h'.inv
    refine .mk a c l n (h1.trans k1) (h2.trans k2) (h3.trans k3) (fun i x y hx hy => ?_) fun i x y hx hy => ?_
    · have hi : i < m.length := by rw [k3]; exact (List.getElem?_eq_some_iff.1 hy).1
      obtain ⟨g1, g2, g3⟩ := h4 i x m[i] hx (List.getElem?_eq_getElem hi)
      obtain ⟨f1, f2, f3⟩ := k4 i m[i] y (List.getElem?_eq_getElem hi) hy
      exact ⟨g1.trans f1, g2.trans f2, g3.trans f3⟩
    · have hi : i < m.length := by rw [k3]; exact (List.getElem?_eq_some_iff.1 hy).1
      exact ih x (mem_of_get? hx) (h5 i x m[i] hx (List.getElem?_eq_getElem hi)) (k5 i m[i] y (List.getElem?_eq_getElem hi) hy)
theorem FT.Sm.kind {a b : FT} (h : FT.Sm a b) : a.a.k = b.a.k := by
  obtain ⟨x, l⟩ := a
  obtain ⟨y, m⟩ := b
  exact h.inv.1
theorem VecT.In.clip {B : Nat} {w : World} {v : VecT} (h : VecT.In B w v) : VecT.In B w { v with icap := v.is.length, scap := v.ss.length, vcap := v.vs.length } :=
  ⟨h.t, h.ns, h.nb, ⟨Nat.le_refl _, Nat.le_trans h.is.1 h.is.2.1, h.is.2.2⟩, h.ib, ⟨Nat.le_refl _, Nat.le_trans h.ss.1 h.ss.2.1, h.ss.2.2⟩, h.sb, ⟨⟨Nat.le_refl _, Nat.le_trans h.vs.1.1 h.vs.1.2.1, h.vs.1.2.2⟩, h.vs.2⟩⟩
theorem VecOf.clip {t u : FT} {l : List VT} {v : VecT} (h : VecOf u l v) (hsm : FT.Sm t u) : VecOf t l { v with icap := v.is.length, scap := v.ss.length, vcap := v.vs.length } :=
  ⟨hsm.trans h.ty, h.ns, by rw [hsm.kind]; exact h.is, by rw [hsm.kind]; exact h.ss, by rw [hsm.kind]; exact h.vs⟩
end Go.Proofs.YtkadahfknccjfaaGreatDoor
