/-
  MeaningSetsMatchSpec: whatever operation and rows come in, of bulk at most 1048576, package meaning and its reference put them together to the same rows; the arguments read behind the call as they read before. Condition: the bound on bulk that the given statement bears.
-/
import Derived.Test.YtcdaipkkddgbeaaQRfF
import Derived.Test.YtcdaipkkddgbeaaQOpenR
import Derived.ProofKit
import Derived.OpenShut
import Derived.JoinedCond
import Derived.ChangeOld
import Derived.SizedLaws
namespace Go.Proofs.Ytcdaipkkddgbeaa
open Go.ChangeShapes Go.WideShapes Go.ChangeAt Go.RowKit
theorem own : ownKnob Try.prog.godebug = none := by kernel_rfl
theorem laidOut : laidOutB Try.prog = true := by kernel_rfl
set_option maxRecDepth 100000 in
set_option maxHeartbeats 2000000 in
theorem lifted (os : Os) (started : os.Started) (H : Type) (enc : TypeId × Value → H) (F : Stop.Interp) :
    ReturnsInHanded {} Try.checked os 3 .any ((Rows.OpenSpec.upto Rows.meaningSetsMatchSpecSpec).pre6 enc Try.prog Try.f3 Rows.meaningSetsMatchSpecUptoRow.domain false) (((Rows.OpenSpec.upto Rows.meaningSetsMatchSpecSpec).at F).post enc Try.prog Try.f3 false true false false) := by
  refine returnsInHanded_of_cond (C := Try.checked) (s := Rows.OpenSpec.upto Rows.meaningSetsMatchSpecSpec) (k := Rows.uptoSmall) rfl own started (by kernel_rfl) Try.func3
    (OpenSpec.witness (enc := enc) (C := Try.checked) (s := Rows.OpenSpec.upto Rows.meaningSetsMatchSpecSpec) (k := Rows.uptoSmall) rfl false ⟨#[], #[.int .i64 0, .bool false, .slice none 0 0, .slice none 0 0], []⟩ 8 (by kernel_rfl) (by kernel_rfl) (by kernel_rfl)
      (x := ([.lit (.int .i64 0), .lit (.bool false), .nil, .nil], [], [])) (by kernel_rfl) rfl (by kernel_rfl)) ?_
  intro W base args ds gs before hval0 hW _ hk _
  have hval : ∀ (j : Nat) t v, Try.f3.params[j]? = some t → args[j]? = some v → Value.okWide Try.prog W .any base t v := hval0
  have hW' := hW
  obtain ⟨p, q, hA0, hV0, rfl, _, _⟩ := hW
  have hA : DataW.TrodAll enc Try.prog W 0 (fun _ => true) true Try.f3.params.toList args.toList ds p := hA0
  rw [Try.params3] at hA hval
  obtain ⟨v0, v1, v2, v3, d0, d1, d2, d3, p0, p1, p2, p3, rfl, rfl, rfl, h0, h1, h2, h3⟩ := trodAll_four hA
  obtain ⟨rfl, rfl⟩ := trodVars_none hV0
  have hb : Rows.uptoBulk d2 ≤ 1048576 ∧ Rows.uptoBulk d3 ≤ 1048576 := by
    have h := of_decide_eq_true hk
    simp only [List.append_nil, Rows.uptoBulkAll] at h
    omega
  obtain ⟨n, rfl⟩ := okWide_int Try.underlying3 (hval 0 3 v0 rfl rfl)
  obtain ⟨b, rfl⟩ := okWide_bool Try.underlying4 (hval 1 4 v1 rfl rfl)
  obtain ⟨A, alen, acap, rfl⟩ := okWide_slice Try.underlying22 (hval 2 22 v2 rfl rfl)
  obtain ⟨C, clen, ccap, rfl⟩ := okWide_slice Try.underlying22 (hval 3 22 v3 rfl rfl)
  have lt0 : ∀ x ∈ p0, x.block < W.heap.size := by obtain ⟨m, hm⟩ := h0; exact DataW.trod_lt m _ _ _ hm
  have lt1 : ∀ x ∈ p1, x.block < W.heap.size := by obtain ⟨m, hm⟩ := h1; exact DataW.trod_lt m _ _ _ hm
  have lt2 : ∀ x ∈ p2, x.block < W.heap.size := by obtain ⟨m, hm⟩ := h2; exact DataW.trod_lt m _ _ _ hm
  have lt3 : ∀ x ∈ p3, x.block < W.heap.size := by obtain ⟨m, hm⟩ := h3; exact DataW.trod_lt m _ _ _ hm
  have hn : I64 n := by
    obtain ⟨fuel, hf⟩ := h0
    obtain ⟨k, e, hk⟩ := rd_int (n := fuel) Try.underlying3 ⟨_, hf⟩
    simp [Value.cells] at e
    rw [e]
    exact hk
  have opened : ∀ (A : Option Addr) (len cap : Nat) (d : DataW H) (p : List MemPlace), DataW.Trod enc Try.prog W 0 (fun _ => true) true 22 (.slice A len cap) d p → Rows.uptoBulk d ≤ 1048576 →
      ∃ rows : List VT, rows.length = len ∧ VT.RRow W.heap.size W A cap rows ∧ len ≤ 1048576 ∧ ∀ r, r ∈ rows → r.l.length ≤ 1048576 ∧ ∀ x, x ∈ r.l → VT.Sml x := fun A len cap d p h hb => by
    obtain ⟨fuel, hf⟩ := h
    obtain ⟨A', cap', l, e, hr, hnd⟩ := open_rowsB (n := fuel) hf
    obtain ⟨A2, len2, cap2, e2, hbl⟩ := tr_sl (enc := enc) (n := fuel) Try.underlying22 hf
    simp [Value.cells] at e e2
    obtain ⟨rfl, rfl, rfl⟩ := e
    obtain ⟨_, e3, _⟩ := e2
    refine ⟨l, rfl, hr, by rw [e3]; simp only at hbl; omega, fun r hrm => ?_⟩
    have h2 := hnd r hrm
    simp only at h2
    have h1 := nodes_len r.l
    exact ⟨by omega, fun x hx => sml_of x (by have := nodes_mem hx; omega)⟩
  obtain ⟨ra, hal, har, han, has⟩ := opened A alen acap d2 p2 h2 hb.1
  obtain ⟨rb, hbl, hbr, hbn, hbs⟩ := opened C clen ccap d3 p3 h3 hb.2
  subst hal hbl
  clear hA0 hV0 hval0
  refine (law_any n b A C acap ccap ra rb W.heap.size W hn har hbr (Nat.le_refl _) han hbn has hbs).mono ?_
  rintro e W' ⟨rfl, bel⟩
  exact ⟨_, rfl, _, _, _, [], _, [], hW', trodAll_mk1 (shut_bool Try.underlying4 _), trodAll_mk4 (Below.trod laidOut (by kernel_rfl) (of_decide_eq_true (by kernel_rfl)) h0 bel lt0) (Below.trod laidOut (by kernel_rfl) (of_decide_eq_true (by kernel_rfl)) h1 bel lt1) (Below.trod laidOut (by kernel_rfl) (of_decide_eq_true (by kernel_rfl)) h2 bel lt2) (Below.trod laidOut (by kernel_rfl) (of_decide_eq_true (by kernel_rfl)) h3 bel lt3), rfl, bel.frame _, fun h => by cases h⟩
theorem said : Rows.MeaningSetsMatchSpecUptoSaid :=
  OpenClaim.holds_of_cond 3 Try.f3 rfl rfl rfl rfl rfl rfl rfl ⟨rfl, rfl, rfl, rfl, rfl⟩ rfl rfl rfl rfl rfl (by kernel_rfl) Try.func3 (by kernel_rfl)
    (of_decide_eq_true (by kernel_rfl)) (by unfold Func.isWrapper; first | (rw [if_pos (by decide +kernel)]; kernel_rfl) | (rw [if_neg (by decide +kernel)]; exact ⟨rfl, rfl⟩))
    (fun os started H enc _ F => lifted os started H enc F)
#print axioms said
end Go.Proofs.Ytcdaipkkddgbeaa
