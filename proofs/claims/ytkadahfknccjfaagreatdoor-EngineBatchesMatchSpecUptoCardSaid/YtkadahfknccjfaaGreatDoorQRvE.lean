/-
  Reference of package engine: vector at any kind.
-/
import Derived.Test.YtkadahfknccjfaaGreatDoorQRvC
import Derived.Test.YtkadahfknccjfaaGreatDoorQRvD
import Derived.Test.YtkadahfknccjfaaGreatDoorQNewF0
namespace Go.Proofs.YtkadahfknccjfaaGreatDoor
open Go.RowKit
theorem nz_k (x : VT) : (nz x).a.k = x.a.k := by
  unfold nz
  split
  · rename_i h; rw [h]; rfl
  · rfl
theorem nulAt_nz (l : List VT) (i : Nat) : nulAt (l.map nz) i = nulAt l i := by
  unfold nulAt
  rw [List.getElem?_map]
  cases l[i]? with
  | none => rfl
  | some x => simp [nz_k]
theorem bits_nz {l : List VT} {j : Nat} {ws : List Nat} (h : BitsOf l j ws) : BitsOf (l.map nz) j ws := ⟨fun q b hb => by rw [h.1 q b hb, nulAt_nz], h.2⟩
/-- What vector comes to. -/
def RvAll (B : Nat) (t : FT) (l : List VT) (w : World) (e : Ending) (w' : World) : Prop :=
  ∃ v : VecT, e = .returned (.agg #[.int .i64 v.t.a.k, .int .i64 v.t.a.sc, .slice v.t.a.A v.t.l.length v.t.a.cap, .slice v.NA v.ns.length v.ncap, .slice v.IA v.is.length v.icap, .slice v.SA v.ss.length v.scap, .slice v.VA v.vs.length v.vcap]) ∧ Below w.heap.size w w' ∧ (∀ w'', Keeps w.heap.size w' w'' → Same B w w'' → VecT.In w''.heap.size w'' v) ∧ VecOf t (l.map nz) v
theorem rvector_any2 (t : FT) (A2 : Option Addr) (size cap2 : Nat) (w : World) (l : List VT) (B1 B : Nat) (ht : FT.In B w t) (hr : VT.Row B1 w A2 cap2 l) (hB1 : B1 ≤ w.heap.size) (hB : B ≤ w.heap.size) (hlen : l.length = size) (hs : size ≤ 1024) (hin : ∀ x, x ∈ l → VT.In B w x) :
    Calls Tryz.prog 41 #[.agg #[.int .i64 t.a.k, .int .i64 t.a.sc, .slice t.a.A t.l.length t.a.cap], .slice A2 size cap2] w (RvAll B t l w) := by
  have hm : ∀ n : Nat, n ≤ 1024 → n ≤ maxLen := fun n h => by unfold maxLen; omega
  have hkt : ∀ w' : World, Same B w w' → B ≤ w'.heap.size → FT.In w'.heap.size w' t := fun w' hb hz => (ht.keep hb).more hz
  have hkv : ∀ w' : World, Same B w w' → B ≤ w'.heap.size → ∀ y, y ∈ l.map nz → VT.In w'.heap.size w' y := fun w' hb hz y hy => by
    obtain ⟨x, hx, rfl⟩ := List.mem_map.1 hy
    exact nz_in (((hin x hx).keep hb).more hz)
  have hll : (l.map nz).length = size := by rw [List.length_map]; exact hlen
  have htk : (l.map nz).take size = l.map nz := List.take_of_length_le (by omega)
  have fin : ∀ (K : Int) (ws : List Nat) (rN : Value) (w' : World), kindS t.a.k = K → Below w.heap.size w w' → BitsOf l size ws → ws.length = (size + 63) / 64 → w'.ownsRow (w.heap.size + 3) 66 1 rN ws.length ((wI ws).map (Value.int .u64)) →
      ∀ (IA SA VA : Option Addr) (icap scap vcap : Nat) (is : List Int) (ss : List ByteArray) (vs : List VT), (∀ w'', Keeps w.heap.size w' w'' → CRow (.int .i64) w''.heap.size w'' IA icap is) → (∀ w'', Keeps w.heap.size w' w'' → CRow .string w''.heap.size w'' SA scap ss) → (∀ w'', Keeps w.heap.size w' w'' → VT.Row w''.heap.size w'' VA vcap vs) →
        is = (if K = 2 then (l.map nz).map (fun x => x.a.n) else []) → ss = (if K = 4 then (l.map nz).map (fun x => x.a.s) else []) → vs = (if K = 6 then l.map nz else []) →
        RvAll B t l w (.returned (.agg #[.int .i64 t.a.k, .int .i64 t.a.sc, .slice t.a.A t.l.length t.a.cap, rN, .slice IA is.length icap, .slice SA ss.length scap, .slice VA vs.length vcap])) w' := by
    intro K ws rN w' hK hb hbits hwl hn IA SA VA icap scap vcap is ss vs hi hs' hv ei es ev
    obtain ⟨NA, ncap, rfl, hnrow, hnn⟩ := own_listK (b := w.heap.size) (f := Value.int .u64) (xs := wI ws) hn (by unfold wI; rw [List.length_map]) (by omega)
    have hwl' : (wI ws).length = ws.length := by unfold wI; rw [List.length_map]
    refine ⟨⟨t, NA, ncap, wI ws, IA, icap, is, SA, scap, ss, VA, vcap, vs⟩, by rw [← hwl'], hb, fun w'' hk hS => ⟨hkt w'' hS (Nat.le_trans hB (Nat.le_trans hb.size hk.2)), hnrow w'' hk, wI_bound hbits.2, hi w'' hk, ?_, hs' w'' hk, ?_, ⟨hv w'' hk, fun x hx => ?_⟩⟩, ⟨FT.Sm.refl t, ⟨ws, rfl, by rw [hll]; exact bits_nz hbits, by rw [hll]; exact hwl⟩, by rw [hK]; exact ei, by rw [hK]; exact es, ?_⟩⟩
    · intro x hx
      have hx' : x ∈ is := hx
      rw [ei] at hx'
      split at hx'
      · obtain ⟨y, hy, rfl⟩ := List.mem_map.1 hx'
        exact (hkv w'' hS (Nat.le_trans hB (Nat.le_trans hb.size hk.2)) y hy).n64
      · cases hx'
    · intro x hx
      have hx' : x ∈ ss := hx
      rw [es] at hx'
      split at hx'
      · obtain ⟨y, hy, rfl⟩ := List.mem_map.1 hx'
        exact (hkv w'' hS (Nat.le_trans hB (Nat.le_trans hb.size hk.2)) y hy).s64
      · cases hx'
    · have hx' : x ∈ vs := hx
      rw [ev] at hx'
      split at hx'
      · exact hkv w'' hS (Nat.le_trans hB (Nat.le_trans hb.size hk.2)) x hx'
      · cases hx'
    · rw [hK]
      split
      · show SmL (l.map nz) vs
        rw [ev, if_pos (by assumption)]
        exact ⟨rfl, fun i x y hx hy => by rw [hx] at hy; cases hy; exact VT.Sm.refl x⟩
      · show vs = []
        rw [ev, if_neg (by assumption)]
  have hk4 : ∀ a : Int, a ≠ 4 → (a == 4) = false := fun a h => by simpa using h
  have hk6 : ∀ a : Int, a ≠ 6 → (a == 6) = false := fun a h => by simpa using h
  have hk7 : ∀ a : Int, a ≠ 7 → (a == 7) = false := fun a h => by simpa using h
  by_cases h4 : t.a.k = 4
  · have hK : kindS t.a.k = 4 := by unfold kindS; rw [if_pos h4]
    refine (rvector_s t.a.k t.a.sc t.a.A A2 t.l.length t.a.cap size cap2 w l B1 hr hB1 hlen (by simpa using h4) hs).mono ?_
    rintro e w' ⟨ws, rN, r, rfl, hb, hbits, hwl, hn, hown⟩
    rw [htk, ← List.map_eq_flatMap] at hown
    obtain ⟨A, cap, rfl, hrow, _⟩ := own_listK (b := w.heap.size) (f := Value.string) (xs := (l.map nz).map fun x => x.a.s) (by rw [List.map_map]; exact hown) (by rw [List.length_map]; exact hll) (by omega)
    have := fin 4 ws rN w' hK hb hbits hwl hn none A none 0 cap 0 [] ((l.map nz).map fun x => x.a.s) [] (fun _ _ => CRow.nil _ _ _) hrow (fun _ _ => (VT.Rows.nil _ _).1) rfl rfl rfl
    simp only [List.length_map, hlen, List.length_nil] at this
    exact this
  by_cases h67 : t.a.k = 6 ∨ t.a.k = 7
  · have hK : kindS t.a.k = 6 := by unfold kindS; rw [if_neg h4, if_pos h67]
    have hgo : Calls Tryz.prog 41 #[.agg #[.int .i64 t.a.k, .int .i64 t.a.sc, .slice t.a.A t.l.length t.a.cap], .slice A2 size cap2] w (RvVPost t.a.k t.a.sc t.a.A t.l.length t.a.cap (w.heap.size + 3) size l w) := by
      by_cases h6 : t.a.k = 6
      · exact rvector_v t.a.k t.a.sc t.a.A A2 t.l.length t.a.cap size cap2 w l B1 hr hB1 hlen (hk4 _ h4) (by simpa using h6) hs
      · exact rvector_w t.a.k t.a.sc t.a.A A2 t.l.length t.a.cap size cap2 w l B1 hr hB1 hlen (hk4 _ h4) (hk6 _ h6) (by simp; omega) hs
    refine hgo.mono ?_
    rintro e w' ⟨ws, rN, r, rfl, hb, hbits, hwl, hn, hown⟩
    rw [htk] at hown
    obtain ⟨A, cap, rfl, hrow, _⟩ := own_valuesK (b := w.heap.size) hown hll (by omega)
    have := fin 6 ws rN w' hK hb hbits hwl hn none none A 0 0 cap [] [] (l.map nz) (fun _ _ => CRow.nil _ _ _) (fun _ _ => CRow.nil _ _ _) hrow rfl rfl rfl
    rw [hll] at this
    exact this
  · have hK : kindS t.a.k = 2 := by unfold kindS; rw [if_neg h4, if_neg h67]
    refine (rvector_n t.a.k t.a.sc t.a.A A2 t.l.length t.a.cap size cap2 w l B1 hr hB1 hlen (hk4 _ h4) (hk6 _ (by omega)) (hk7 _ (by omega)) hs).mono ?_
    rintro e w' ⟨ws, rN, r, rfl, hb, hbits, hwl, hn, hown⟩
    rw [htk, ← List.map_eq_flatMap] at hown
    obtain ⟨A, cap, rfl, hrow, _⟩ := own_listK (b := w.heap.size) (f := Value.int .i64) (xs := (l.map nz).map fun x => x.a.n) (by rw [List.map_map]; exact hown) (by rw [List.length_map]; exact hll) (by omega)
    have := fin 2 ws rN w' hK hb hbits hwl hn A none none cap 0 0 ((l.map nz).map fun x => x.a.n) [] [] hrow (fun _ _ => CRow.nil _ _ _) (fun _ _ => (VT.Rows.nil _ _).1) rfl rfl rfl
    simp only [List.length_map, hlen, List.length_nil] at this
    exact this
theorem rvector_any (t : FT) (A2 : Option Addr) (size cap2 : Nat) (w : World) (l : List VT) (B : Nat) (ht : FT.In B w t) (hr : VT.Row B w A2 cap2 l) (hB : B ≤ w.heap.size) (hlen : l.length = size) (hs : size ≤ 1024) (hin : ∀ x, x ∈ l → VT.In B w x) :
    Calls Tryz.prog 41 #[.agg #[.int .i64 t.a.k, .int .i64 t.a.sc, .slice t.a.A t.l.length t.a.cap], .slice A2 size cap2] w (RvAll B t l w) :=
  rvector_any2 t A2 size cap2 w l B B ht hr hB hB hlen hs hin
end Go.Proofs.YtkadahfknccjfaaGreatDoor
