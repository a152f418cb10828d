/-
  The reference of package value: Decimals times 10^12 (WideD at a seat without package engine).
-/
import Derived.Test.YtcdaipkkddgbeaaQWrC
import Derived.Deep.RegionWith
import Derived.Laws.Runes
import Derived.Deep.RegionHeld3
namespace Go.Proofs.Ytcdaipkkddgbeaa
open Go.RowKit
def twS (n sc : Int) : List Int := tenS (digs n) (12 - sc).toNat
theorem digF_len : ∀ (f : Nat) (m : Int), (digF f m).length ≤ f
  | 0, _ => Nat.le_refl _
  | f + 1, m => by
    rw [digF]
    split
    · exact Nat.zero_le _
    · have := digF_len f (m.tdiv 10); simp; omega
set_option maxRecDepth 100000 in
set_option maxHeartbeats 2000000 in
theorem rtwelve_any (x : VT) (w : World) (hn : I64 x.a.n) (h0 : 0 ≤ x.a.sc) (h12 : x.a.sc ≤ 12) :
    Calls Try.prog 33 #[.agg #[.int .i64 x.a.k, .int .i64 x.a.n, .int .i64 x.a.sc, .string x.a.s, .slice x.a.A x.l.length x.a.cap]] w (WidePost (decide (x.a.n < 0)) (twS x.a.n x.a.sc) w) := by
  obtain ⟨⟨k, n, sc, s, A, cap⟩, l⟩ := x
  simp only [VT.a_node, VT.l_node] at hn h0 h12 ⊢
  obtain ⟨len, hlen⟩ : ∃ n, l.length = n := ⟨_, rfl⟩
  rw [hlen]
  clear hlen
  obtain ⟨e12, he12⟩ : ∃ e : Nat, (12 - sc).toNat = e := ⟨_, rfl⟩
  have esc : (12 : Int) - sc = (e12 : Int) := by omega
  have hle : e12 ≤ 12 := by omega
  have HR := Lib.hid (show twS n sc = tenS (digs n) e12 by unfold twS; rw [he12])
  obtain ⟨D, hD⟩ : ∃ D, digs n = D := ⟨_, rfl⟩
  have hDl : D.length ≤ 100 := by rw [← hD]; exact Nat.le_trans (digF_len 19 n) (by omega)
  obtain ⟨dl, hdl⟩ : ∃ q, D.length = q := ⟨_, rfl⟩
  rw [hdl] at hDl
  have Hdl := Lib.hid hdl
  have Hwo := fun W => rwideOf_any n W hn
  rw [hD] at Hwo HR
  have HWo : Hid (∀ W, Calls Try.prog 41 #[.int .i64 n] W fun e w' => ∃ (A : Option Addr) (cap : Nat), e = .returned (.agg #[.bool (decide (n < 0)), .slice A dl cap]) ∧ Below W.heap.size W w' ∧ CRow (.int .i64) w'.heap.size w' A cap D ∧ ∀ ad, A = some ad → D ≠ [] → W.heap.size ≤ ad.block) := fun W => by
    have := Hwo W
    unfold WidePost at this
    rw [hdl] at this
    exact this
  obtain ⟨W0, hW0⟩ : ∃ W0, (w.alloc (.cells #[.int .i64 k, .int .i64 n, .int .i64 sc, .string s, .slice A len cap] 33)).alloc (.cells #[.bool false, .slice none 0 0] 55) = W0 := ⟨_, rfl⟩
  have hbw : Below w.heap.size w W0 := by rw [← hW0]; exact bel2 _ _ _
  have hz0 : W0.heap.size = w.heap.size + 2 := by rw [← hW0]; simp
  have p1 : W0.cell? ⟨w.heap.size, 1, none⟩ = some (.int .i64 n) := by rw [← hW0]; simp
  have p2 : W0.cell? ⟨w.heap.size, 2, none⟩ = some (.int .i64 sc) := by rw [← hW0]; simp
  have P1 : W0.heap[w.heap.size + 1]? = some (.cells #[.bool false, .slice none 0 0] 55 (0, 0)) := by
    rw [← hW0]
    have := heap_alloc_new (w.alloc (.cells #[.int .i64 k, .int .i64 n, .int .i64 sc, .string s, .slice A len cap] 33)) (.cells #[.bool false, .slice none 0 0] 55)
    simpa using this
  have Hk : Hid (∀ W, Below W0.heap.size W0 W → W.cell? ⟨w.heap.size, 1, none⟩ = some (.int .i64 n) ∧ W.cell? ⟨w.heap.size, 2, none⟩ = some (.int .i64 sc) ∧
      W.cell? ⟨w.heap.size + 1, 0, none⟩ = some (.bool false) ∧ W.cell? ⟨w.heap.size + 1, 1, none⟩ = some (.slice none 0 0) ∧ W.frozen? ⟨w.heap.size + 1, 0, none⟩ = false ∧ W.frozen? ⟨w.heap.size + 1, 1, none⟩ = false) := fun W h => by
    have Q := (h.block (w.heap.size + 1) (by omega)).trans P1
    have c0 := cell_of_row W (w.heap.size + 1) 0 _ _ _ Q
    have c1 := cell_of_row W (w.heap.size + 1) 1 _ _ _ Q
    exact ⟨(h.cell (p := ⟨w.heap.size, 1, none⟩) (by show w.heap.size < _; omega)).trans p1, (h.cell (p := ⟨w.heap.size, 2, none⟩) (by show w.heap.size < _; omega)).trans p2, by simpa using c0, by simpa using c1, by simp [World.frozen?, Q], by simp [World.frozen?, Q]⟩
  have HW0 := Lib.hid hW0
  have Hz0 := Lib.hid hz0
  have Hdd : Below W0.heap.size W0 W0.drew := (Below.refl _ _).drew
  clear hW0 hz0 P1 p1 p2 Hwo hD hdl he12 hn
  go_enter Try.func33, Try.ntmps33
  go_wp2
  rw [HW0.out]
  have hwr : IntKind.i64.wrap (e12 : Int) = (e12 : Int) := wrap_small _ (by omega) (by omega)
  obtain ⟨c1, c2, g0, g1, f0, f1⟩ := Hk.out W0 (Below.refl _ _)
  go_region_with (first
    | (go_at_call 41; (with_reducible refine (HWo.out _).mono ?_); rintro e w1 ⟨A1, cap1, rfl, hb1, hr1, hu1⟩; obtain ⟨a1, a2, a3, a4, a5, a6⟩ := Hk.out w1 ((Below.drew (Below.refl _ _)).trans (hb1.mono (Nat.le_refl _))))
    | (go_at_call 40; (with_reducible refine (rtens_any _ A1 cap1 e12 dl D _ _ hr1 (Nat.le_refl _) hle hDl Hdl).mono ?_); rintro e w2 ⟨A2, cap2, rfl, hb2, hr2, hu2⟩; obtain ⟨b1, b2, b3, b4, b5, b6⟩ := Hk.out w2 (((Below.drew (Below.refl _ _)).trans (hb1.mono (Nat.le_refl _))).trans (hb2.mono hb1.size))))
  all_goals
    have hbb : Below w.heap.size w w2 := hbw.trans ((((Below.drew (Below.refl _ _)).trans (hb1.mono (Nat.le_refl _))).trans (hb2.mono hb1.size)).mono (by have := Hz0.out; show w.heap.size ≤ W0.heap.size; omega))
    have hzz : w.heap.size + 2 ≤ w2.heap.size := by have h := hb1.size; have h' := hb2.size; have := Hz0.out; have e : W0.drew.heap.size = W0.heap.size := rfl; omega
    go_wp2
    refine bodyPost_ret (v := .agg #[.bool (decide (n < 0)), .slice A2 (tenS D e12).length cap2]) (by simp [results, Try.results33, go_sem, *]) rfl ?_
    have hkeep : ∀ q, q ≠ w.heap.size + 1 → ((w2.setCell ⟨w.heap.size + 1, 0, none⟩ (.bool (decide (n < 0)))).setCell ⟨w.heap.size + 1, 1, none⟩ (.slice A2 (tenS D e12).length cap2)).heap[q]? = w2.heap[q]? := fun q hq => by
      rw [Below.heap_setCell _ _ _ _ (by simp; omega), Below.heap_setCell _ _ _ _ (by simp; omega)]
    have hbel : Below w.heap.size w ((w2.setCell ⟨w.heap.size + 1, 0, none⟩ (.bool (decide (n < 0)))).setCell ⟨w.heap.size + 1, 1, none⟩ (.slice A2 (tenS D e12).length cap2)) := (hbb.setCell (by simp) _).setCell (by simp) _
    obtain ⟨W', hW'⟩ : ∃ W', (w2.setCell ⟨w.heap.size + 1, 0, none⟩ (.bool (decide (n < 0)))).setCell ⟨w.heap.size + 1, 1, none⟩ (.slice A2 (tenS D e12).length cap2) = W' := ⟨_, rfl⟩
    have hzW' : W'.heap.size = w2.heap.size := by rw [← hW']; simp [World.setCell]
    rw [hW'] at hkeep hbel ⊢
    rw [HR.out]
    have hlow : ∀ ad, A2 = some ad → tenS D e12 ≠ [] → w.heap.size + 2 ≤ ad.block := fun ad hA hne => by
      have h := hu2 ad hA hne
      have h' := hb1.size
      have e : W0.drew.heap.size = W0.heap.size := rfl
      have := Hz0.out
      omega
    refine ⟨A2, cap2, rfl, hbel, ⟨hr2.1, hr2.2.1, fun i x hx => ?_⟩, fun ad hA hne => by have := hlow ad hA hne; omega⟩
    obtain ⟨ad', e1, e2, e4⟩ := hr2.2.2 i x hx
    have hb := hlow ad' e1 (fun e => by rw [e] at hx; simp at hx)
    exact ⟨ad', e1, by omega, (World.cell?_of_block (hkeep _ (by rw [block_add]; omega))).trans e4⟩
end Go.Proofs.Ytcdaipkkddgbeaa
