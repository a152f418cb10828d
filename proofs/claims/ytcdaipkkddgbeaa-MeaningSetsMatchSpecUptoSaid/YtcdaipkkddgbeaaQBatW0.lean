/-
  The bulk of a list.
-/
import Derived.Test.YtcdaipkkddgbeaaQOpen0
import Derived.Test.YtcdaipkkddgbeaaRows
import Derived.ProofKit
import Derived.OpenShut
import Derived.KernelRfl
namespace Go.Proofs.Ytcdaipkkddgbeaa
open Go.RowKit Go.ChangeShapes Go.WideShapes
theorem bulk_one {H : Type} (d : DataW H) : 1 ≤ Rows.uptoBulk d := by
  cases d with
  | lit l => cases l <;> simp [Rows.uptoBulk]
  | nil => simp [Rows.uptoBulk]
  | ptr d => simp [Rows.uptoBulk]
  | slice elems spare => simp [Rows.uptoBulk]
  | agg parts => simp [Rows.uptoBulk]
  | iface t d => simp [Rows.uptoBulk]
  | map entries => simp [Rows.uptoBulk]
  | held h => simp [Rows.uptoBulk]
theorem bulk_part {H : Type} {d : DataW H} {l : List (DataW H)} (h : d ∈ l) : Rows.uptoBulk d ≤ Rows.uptoBulkAll l := by
  induction l with
  | nil => cases h
  | cons x r ih =>
    simp only [Rows.uptoBulkAll]
    cases List.mem_cons.1 h with
    | inl e => subst e; omega
    | inr e => have := ih e; omega
theorem bulk_len {H : Type} (l : List (DataW H)) : l.length ≤ Rows.uptoBulkAll l := by
  induction l with
  | nil => simp [Rows.uptoBulkAll]
  | cons x r ih => have := bulk_one x; simp only [Rows.uptoBulkAll, List.length_cons]; omega
section
variable {H : Type} {enc : TypeId × Value → H} {w : World}
def Tr (enc : TypeId × Value → H) (w : World) (n : Nat) (t : TypeId) (cs : List Value) (x : DataW H × List MemPlace) : Prop := DataW.trod enc Try.prog w 0 (fun _ => true) true n t cs = some x
variable {n : Nat} {t : TypeId} {cs : List Value} {x : DataW H × List MemPlace}
theorem tr_sl {e : TypeId} (ht : Try.prog.underlying t = some (.slice e)) (h : Tr enc w n t cs x) : ∃ (A : Option Addr) (len cap : Nat), cs = [.slice A len cap] ∧ len + 1 ≤ Rows.uptoBulk x.1 := by
  rcases DataW.trod_slice ht h with ⟨rfl, rfl⟩ | ⟨a, len, cap, elems, rest, m, hn, rfl, rfl, _, hl, hm, hlen, hel, _⟩
  · exact ⟨none, 0, 0, rfl, by simp [Rows.uptoBulk]⟩
  · refine ⟨some a, len, cap, rfl, ?_⟩
    have := bulk_len (elems.map (·.1))
    simp only [Rows.uptoBulk, List.length_map] at this ⊢
    omega
end
end Go.Proofs.Ytcdaipkkddgbeaa
