/-
  The reference of package meaning: types that must be plain.
  The reference of package meaning: types that must be plain, and lists of them.
  The reference of package meaning: CheckTypes.
-/
import Derived.Test.YtkadahfknccjfaaGreatDoorQRefE
import Derived.Test.YtkadahfknccjfaaGreatDoorQMeanBa
namespace Go.Proofs.YtkadahfknccjfaaGreatDoor
open Go.RowKit
/-- Two numbers in a block of their own. -/
def Two (w : World) (g : Nat) (a b : Int) : Prop := ∃ t, w.heap[g]? = some (.cells #[.int .i64 a, .int .i64 b] t (0, 0))
theorem Two.cell1 {w : World} {g : Nat} {a b : Int} (h : Two w g a b) : w.cell? ⟨g, 1, none⟩ = some (.int .i64 b) := by
  obtain ⟨t, h⟩ := h
  simp [World.cell?, h]
theorem Two.frozen1 {w : World} {g : Nat} {a b : Int} (h : Two w g a b) : w.frozen? ⟨g, 1, none⟩ = false := by
  obtain ⟨t, h⟩ := h
  simp [World.frozen?, h]
theorem Two.lt {w : World} {g : Nat} {a b : Int} (h : Two w g a b) : g < w.heap.size := by
  obtain ⟨t, h⟩ := h
  rcases Nat.lt_or_ge g w.heap.size with hlt | hge
  · exact hlt
  · rw [Array.getElem?_eq_none hge] at h; cases h
theorem Two.alloc {w : World} {g : Nat} {a b : Int} (h : Two w g a b) (o : Obj) : Two (w.alloc o) g a b := by
  have hl := h.lt
  obtain ⟨t, h⟩ := h
  exact ⟨t, (Below.heap_alloc w o g hl).trans h⟩
theorem Two.below {w w' : World} {g : Nat} {a b : Int} (h : Two w g a b) (hb : Below w.heap.size w w') : Two w' g a b := by
  have hl := h.lt
  obtain ⟨t, h⟩ := h
  exact ⟨t, (hb.block g hl).trans h⟩
theorem Two.set1 {w : World} {g : Nat} {a b : Int} (h : Two w g a b) (d : Int) : Two (w.setCell ⟨g, 1, none⟩ (.int .i64 d)) g a d := by
  obtain ⟨t, h⟩ := h
  refine ⟨t, ?_⟩
  simp [World.setCell, Array.getElem?_modify, h]
/-- The first fault stays. -/
def orF (b f : Int) : Int := if b = 0 then f else b
def FailPost (g : Nat) (w : World) (a b : Int) (e : Ending) (w' : World) : Prop := e = .returned (.tuple #[]) ∧ Ch g w w' ∧ Two w' g a b
set_option maxRecDepth 100000 in
theorem rfail_any (g : Nat) (a b f : Int) (w : World) (h : Two w g a b) :
    Calls Tryz.prog 79 #[.pointer (some ⟨g, 0, none⟩), .int .i64 f] w (FailPost g w a (orF b f)) := by
  have hc := h.cell1
  have hf := h.frozen1
  have hl := h.lt
  by_cases h0 : b = 0
  · have ho : orF b f = f := by unfold orF; rw [if_pos h0]
    rw [ho]
    have e0 : (b == 0) = true := by simpa using h0
    clear h0 ho
    go_enter Tryz.func79, Tryz.ntmps79
    go_wp2
    go_end0
    exact ⟨rfl, (Ch.refl g w).setCell _ _, h.set1 _⟩
  · have ho : orF b f = b := by unfold orF; rw [if_neg h0]
    rw [ho]
    have e0 : (b == 0) = false := by simpa using h0
    clear h0 ho
    go_enter Tryz.func79, Tryz.ntmps79
    go_wp2
    go_end0
    exact ⟨rfl, Ch.refl g w, h⟩
set_option maxRecDepth 100000 in
theorem rneed_any (g : Nat) (a b f : Int) (ok : Bool) (w : World) (h : Two w g a b) :
    Calls Tryz.prog 80 #[.pointer (some ⟨g, 0, none⟩), .bool ok, .int .i64 f] w (FailPost g w a (if ok = true then b else orF b f)) := by
  have hc := Lib.hid (rfail_any g a b f w h)
  cases ok
  · rw [if_neg (by simp)]
    go_enter Tryz.func80, Tryz.ntmps80
    go_wp2_with fail
    refine hc.out.mono ?_
    rintro e w' ⟨rfl, hch, h2⟩
    go_wp2
    go_end0
    exact ⟨rfl, hch, h2⟩
  · rw [if_pos rfl]
    go_enter Tryz.func80, Tryz.ntmps80
    go_wp2
    go_end0
    exact ⟨rfl, Ch.refl g w, h⟩
end Go.Proofs.YtkadahfknccjfaaGreatDoor
namespace Go.Proofs.YtkadahfknccjfaaGreatDoor
open Go.RowKit
set_option maxRecDepth 100000 in
set_option maxHeartbeats 2000000 in
theorem rPlain_any : ∀ (t : FT) (B : Nat) (w : World), FT.In B w t → B ≤ w.heap.size →
    Calls Tryz.prog 81 #[.agg #[.int .i64 t.a.k, .int .i64 t.a.sc, .slice t.a.A t.l.length t.a.cap]] w fun e w' => e = .returned (.bool (plT t)) ∧ Below w.heap.size w w' := by
  refine FT.ind fun a l ih B w hin hB => ?_
  obtain ⟨id, nm, nd, k, sc, A, cap⟩ := a
  obtain ⟨_, _, _, _, hr, hl⟩ := hin.parts
  simp only [FT.a_node, FT.l_node] at hr ⊢
  obtain ⟨R, hR⟩ : ∃ R, plT (.node ⟨id, nm, nd, k, sc, A, cap⟩ l) = R := ⟨_, rfl⟩
  rw [hR]
  rw [plT] at hR
  obtain ⟨len, hlen'⟩ : ∃ len, l.length = len := ⟨_, rfl⟩
  have hll : len ≤ 9223372036854775807 := by rw [← hlen']; exact Nat.le_trans hr.1 hr.2.1
  rw [hlen']
  have hlen := Lib.hid hlen'
  clear hlen'
  obtain ⟨W0, hW0⟩ : ∃ W0, w.alloc (.cells #[.int .i64 k, .int .i64 sc, .slice A len cap] 50) = W0 := ⟨_, rfl⟩
  have hbw : Below w.heap.size w W0 := by rw [← hW0]; exact bel1 _ _
  have hz0 : w.heap.size ≤ W0.heap.size := hbw.size
  have hS0 := Same.mono (Same.of_below hbw) hB
  have hrW := hr.keep hS0
  have hlW := fun x (hx : x ∈ l) => (hl x hx).keep hS0
  have HR := Lib.hid hR
  have HW0 := Lib.hid hW0
  clear hW0 hr hl hin hS0 hR
  go_enter Tryz.func81, Tryz.ntmps81
  go_wp2_with fail
  rw [HW0.out]
  clear HW0
  go_loopw [8] (fun i wr => ∃ j : Nat, j ≤ len ∧ i = .int .i64 j ∧ Below W0.heap.size W0 wr ∧ Hid (plTs (l.drop j) = R)) (fun i _ => len - (intOf i).toNat)
  case atStart => exact ⟨0, Nat.zero_le _, rfl, Below.refl _ _, HR⟩
  case round =>
    obtain ⟨j, hj, rfl, hbr, HRj⟩ := hrel
    by_cases hlt : j < len
    · have hSr : Same B W0 wr := Same.mono (Same.of_below hbr) (by omega)
      obtain ⟨x, ad, hx, rfl, hb, d0, d1, d2, d3, d4, d5⟩ := (hrW.keep hSr).get (show j < l.length by rw [hlen.out]; exact hlt)
      have hzr := hbr.size
      have hic := Lib.hid (fun o => ih x (mem_of_get? hx) B (wr.alloc o) ((hlW x (mem_of_get? hx)).keep (hSr.alloc (by omega) o)) (by simp; omega))
      have HR2 := HRj.out
      rw [drop_of_get? hx, plTs_cons] at HR2
      unfold plF at HR2
      have hal : ∀ o, Below W0.heap.size W0 (wr.alloc o) := fun o => hbr.alloc hzr o
      have hal := Lib.hid hal
      clear hrW hlW ih hx HRj
      by_cases hid : x.a.id = 0
      · have n0 : (x.a.id != 0) = false := by simpa using hid
        rw [hid] at HR2
        clear hid
        cases hnd : x.a.nd
        · rw [hnd] at HR2
          cases hp : plT x
          · have HR3 := Lib.hid (show false = R by rw [← HR2, hp]; simp)
            have Hp := Lib.hid hp
            clear HR2 hp
            go_wp2_with fail
            refine (hic.out _).mono ?_
            rintro e w' ⟨rfl, hb2⟩
            rw [Hp.out]
            go_wp2
            go_ret
            exact ⟨by rw [← HR3.out]; rfl, hbw.trans (((hal.out _).trans (hb2.mono (by simp; omega))).mono (by omega))⟩
          · have HR3 := Lib.hid (show plTs (l.drop (j + 1)) = R by rw [← HR2, hp]; simp)
            have Hp := Lib.hid hp
            clear HR2 hp
            go_wp2_with fail
            refine (hic.out _).mono ?_
            rintro e w' ⟨rfl, hb2⟩
            rw [Hp.out]
            go_wp2
            go_roundw
            case rel => exact ⟨j + 1, by omega, by go_num, (hal.out _).trans (hb2.mono (by simp; omega)), HR3⟩
            case measure => simp [intOf]; omega
        · have HR3 := Lib.hid (show false = R by rw [← HR2, hnd]; simp)
          clear HR2
          go_wp2
          go_ret
          exact ⟨by rw [← HR3.out]; rfl, hbw.trans ((hal.out _).mono (by omega))⟩
      · have n0 : (x.a.id != 0) = true := by simpa using hid
        have HR3 := Lib.hid (show false = R by rw [← HR2]; simp [hid])
        clear HR2 hid
        go_wp2
        go_ret
        exact ⟨by rw [← HR3.out]; rfl, hbw.trans ((hal.out _).mono (by omega))⟩
    · have HR3 : Hid (true = R) := by have := HRj.out; rw [List.drop_eq_nil_of_le (by rw [hlen.out]; omega)] at this; rw [plTs] at this; exact this
      go_wp2
      go_ret
      exact ⟨by rw [← HR3.out]; rfl, hbw.trans (hbr.mono (by omega))⟩
end Go.Proofs.YtkadahfknccjfaaGreatDoor
namespace Go.Proofs.YtkadahfknccjfaaGreatDoor
open Go.RowKit
set_option maxRecDepth 100000 in
set_option maxHeartbeats 1000000 in
theorem rwplain_any (t : FT) (g B : Nat) (a b : Int) (w : World) (hin : FT.In B w t) (hB : B ≤ w.heap.size) (hg : B ≤ g) (h2 : Two w g a b) :
    Calls Tryz.prog 57 #[.pointer (some ⟨g, 0, none⟩), .agg #[.int .i64 t.a.k, .int .i64 t.a.sc, .slice t.a.A t.l.length t.a.cap]] w (FailPost g w a (orF b (plainS t))) := by
  have hgl := h2.lt
  obtain ⟨W0, hW0⟩ : ∃ W0, w.alloc (.cells #[.int .i64 t.a.k, .int .i64 t.a.sc, .slice t.a.A t.l.length t.a.cap] 50) = W0 := ⟨_, rfl⟩
  have hbw : Below w.heap.size w W0 := by rw [← hW0]; exact bel1 _ _
  have hz0 : w.heap.size < W0.heap.size := by rw [← hW0]; simp
  have p0 : W0.cell? ⟨w.heap.size, 0, none⟩ = some (.int .i64 t.a.k) := by rw [← hW0]; simp
  have p1 : W0.cell? ⟨w.heap.size, 1, none⟩ = some (.int .i64 t.a.sc) := by rw [← hW0]; simp
  have p2 : W0.cell? ⟨w.heap.size, 2, none⟩ = some (.slice t.a.A t.l.length t.a.cap) := by rw [← hW0]; simp
  have hS0 := Same.mono (Same.of_below hbw) hB
  have hin0 := hin.keep hS0
  have h20 := h2.below hbw
  have hct := Lib.hid (rCheckType_any t B W0 hin0 (by omega))
  obtain ⟨R, hR⟩ : ∃ R, plainS t = R := ⟨_, rfl⟩
  rw [hR]
  unfold plainS at hR
  have HW0 := Lib.hid hW0
  clear hW0 hin hS0
  by_cases h0 : ctS t = 0
  · rw [h0, if_neg (by simp)] at hR
    have H0 := Lib.hid h0
    clear h0
    go_enter Tryz.func57, Tryz.ntmps57
    go_wp2_with fail
    rw [HW0.out]
    refine hct.out.mono ?_
    rintro e w1 ⟨rfl, hb1⟩
    rw [H0.out]
    have hz1 : W0.heap.size ≤ w1.heap.size := hb1.size
    have q0 := (hb1.cell (p := ⟨w.heap.size, 0, none⟩) hz0).trans p0
    have q1 := (hb1.cell (p := ⟨w.heap.size, 1, none⟩) hz0).trans p1
    have q2 := (hb1.cell (p := ⟨w.heap.size, 2, none⟩) hz0).trans p2
    have hpl := Lib.hid (rPlain_any t B w1 (hin0.keep (Same.mono (Same.of_below hb1) (by omega))) (by omega))
    have h21 := h20.below hb1
    clear p0 p1 p2 HW0 hct
    go_wp2_with fail
    refine hpl.out.mono ?_
    rintro e w2 ⟨rfl, hb2⟩
    have h22 := h21.below hb2
    have hne := Lib.hid (rneed_any g a b 1 (plT t) w2 h22)
    have hchx : Ch g w w2 := ((Ch.of_below hbw).then_below hb1).then_below hb2
    have HR : Hid ((if plT t = true then b else orF b 1) = orF b R) := by
      unfold Hid
      rw [← hR]
      cases plT t
      · simp
      · simp [orF]
    clear hR
    go_wp2_with fail
    refine hne.out.mono ?_
    rintro e w3 ⟨rfl, hch3, h23⟩
    rw [HR.out] at h23
    go_wp2
    go_end0
    exact ⟨rfl, hchx.trans hch3, h23⟩
  · rw [if_pos h0] at hR
    have n0 : (ctS t != 0) = true := by simpa using h0
    have HR := Lib.hid hR
    clear h0 hR
    go_enter Tryz.func57, Tryz.ntmps57
    go_wp2_with fail
    rw [HW0.out]
    refine hct.out.mono ?_
    rintro e w1 ⟨rfl, hb1⟩
    rw [HR.out] at n0 ⊢
    have h21 := h20.below hb1
    have hfa := Lib.hid (rfail_any g a b R w1 h21)
    have hchx : Ch g w w1 := (Ch.of_below hbw).then_below hb1
    go_wp2_with fail
    refine hfa.out.mono ?_
    rintro e w3 ⟨rfl, hch3, h23⟩
    go_wp2
    go_end0
    exact ⟨rfl, hchx.trans hch3, h23⟩
theorem plainsS_cons (x : FT) (r : List FT) : plainsS (x :: r) = if plainS x ≠ 0 then plainS x else plainsS r := rfl
theorem orF_plains (b : Int) (x : FT) (r : List FT) : orF (orF b (plainS x)) (plainsS r) = orF b (plainsS (x :: r)) := by
  rw [plainsS_cons]
  unfold orF
  by_cases hb : b = 0
  · rw [if_pos hb, if_pos hb]
    by_cases hx : plainS x = 0
    · rw [if_pos hx, if_neg (by simp [hx])]
    · rw [if_neg hx, if_pos hx]
  · rw [if_neg hb, if_neg hb, if_neg hb]
set_option maxRecDepth 100000 in
set_option maxHeartbeats 1000000 in
theorem rCheckTypes_any (A : Option Addr) (cap len : Nat) (l : List FT) (B : Nat) (w : World) (hr : FT.TRow B w A cap l) (hB : B ≤ w.heap.size) (hlen : Hid (l.length = len)) :
    Calls Tryz.prog 39 #[.slice A len cap] w fun e w' => e = .returned (.int .i64 (plainsS l)) ∧ Below w.heap.size w w' := by
  have hll : len ≤ 9223372036854775807 := by rw [← hlen.out]; exact Nat.le_trans hr.1 hr.2.1
  obtain ⟨R, hR⟩ : ∃ R, plainsS l = R := ⟨_, rfl⟩
  rw [hR]
  have HR := Lib.hid (show orF 0 (plainsS l) = R by rw [← hR]; rfl)
  clear hR
  obtain ⟨W0, hW0⟩ : ∃ W0, w.alloc (.cells #[.int .i64 0, .int .i64 0] 89) = W0 := ⟨_, rfl⟩
  have hch0 : Ch w.heap.size w W0 := by rw [← hW0]; exact (Ch.refl _ w).alloc _
  have h20 : Two W0 w.heap.size 0 0 := by rw [← hW0]; exact ⟨_, heap_alloc_new w _⟩
  have HW0 := Lib.hid hW0
  clear hW0
  go_enter Tryz.func39, Tryz.ntmps39
  go_wp2
  rw [HW0.out]
  go_loopw [10] (fun i wr => ∃ (j : Nat) (b : Int), j ≤ len ∧ i = .int .i64 j ∧ Ch w.heap.size w wr ∧ Two wr w.heap.size 0 b ∧ Hid (orF b (plainsS (l.drop j)) = R)) (fun i _ => len - (intOf i).toNat)
  case atStart => exact ⟨0, 0, Nat.zero_le _, rfl, hch0, h20, HR⟩
  case round =>
    obtain ⟨j, b, hj, rfl, hch, h2, HRj⟩ := hrel
    by_cases hlt : j < len
    · have hSr : Same B w wr := hch.same hB hB
      obtain ⟨x, ad, hx, rfl, hb, d0, d1, d2⟩ := (hr.keep hSr).get (show j < l.length by rw [hlen.out]; exact hlt)
      have hzr := hch.size
      have hic := Lib.hid (fun o => rwplain_any x w.heap.size B 0 b (wr.alloc o) ((hr.2.2.1 x (mem_of_get? hx)).keep (hSr.alloc (by omega) o)) (by simp; omega) hB (h2.alloc o))
      have HR2 := Lib.hid (show orF (orF b (plainS x)) (plainsS (l.drop (j + 1))) = R by rw [orF_plains, ← drop_of_get? hx]; exact HRj.out)
      clear HRj hr hx
      go_wp2_with fail
      refine (hic.out _).mono ?_
      rintro e w' ⟨rfl, hch3, h23⟩
      go_wp2
      go_roundw
      case rel => exact ⟨j + 1, _, by omega, by go_num, (hch.alloc _).trans hch3, h23, HR2⟩
      case measure => simp [intOf]; omega
    · have HR3 : Hid (b = R) := by have := HRj.out; rw [List.drop_eq_nil_of_le (by rw [hlen.out]; omega)] at this; rw [← this]; unfold plainsS orF; split <;> simp_all [Hid]
      have hc := h2.cell1
      go_wp2
      go_ret
      exact ⟨by rw [← HR3.out]; rfl, hch.below (Nat.le_refl _)⟩
end Go.Proofs.YtkadahfknccjfaaGreatDoor
