/-
  NARROWER THAN 'FOR EVERY INPUT', by the rows' own cells (each row's printed sentence says how): MeaningSetsMatchSpec: loops · PlanReadsMatchSpec: loops.
  DERIVED. THE GIVEN ROWS OF THIS SEAT. 2 by the template 'for every input the law returns true; each argument reads behind the call as it read before'; 0 by the template 'total and deterministic' (their statements: YtlphgceejghfkaaTotals.lean).
  GIVEN WITH THE SEED: the statements are not yours to turn. If you find one false, say at which input.
  Laid BY PROGRAM, IN A SANDBOX (cutbox-rows.mjs): the forced cells as the released guide's own fill.sh prints them over the translation 7f8dd85566338ab7… (all of the seat's roots in one cut). By AI agents, Wed Nov 11 2026. No macro, syntax, notation, axiom, sorry.
-/
import Derived.Test.YtlphgceejghfkaaChecked
import GoSem.Claim
import GoSem.ClaimJoined
import GoSem.ClaimMapViews
import Derived.JoinedTies
import Derived.KernelRfl
namespace Go.Proofs.Ytlphgceejghfkaa
/- THE CELL 'sum', in the pinned program and in every row, IS THE sha256 OF THE DUMP (.gsa) THAT YtlphgceejghfkaaProg.lean LOADS. Nothing in Lean hashes anything: it is a label: what it is worth is what the hold of that sum in a sandbox is worth. -/
noncomputable def Try.pinned : Pinned := { name := "ytlphgceejghfkaa", sum := "7f8dd85566338ab76385690e7527f9024f9ad2c74b67d8d4a2c18c213ee55b8b", checked := Try.checked }
namespace Rows
def none {H : Type} : Left H := { results := [], args := [] }

/-- 'boathouselaw6.MeaningSetsMatchSpec': WHATEVER THE INPUT: true; the input reads as it did. -/
def meaningSetsMatchSpecSpec : ChangeSpec := { name := "meaningSetsMatchSpec", fn := fun _ => fun
  | [d1, d2, d3, d4] => { results := [.lit (.bool true)], args := [d1, d2, d3, d4] }
  | _ => none }
def meaningSetsMatchSpecRow : OpenClaim := { program := "ytlphgceejghfkaa", sum := "7f8dd85566338ab76385690e7527f9024f9ad2c74b67d8d4a2c18c213ee55b8b", func := "boathouse/boathouselaw6.MeaningSetsMatchSpec", spec := "meaningSetsMatchSpec", inPlace := ["math/bits.Add64", "math/bits.Sub64"], unfollowed := true, recurses := true, loops := true, apart := false }
def MeaningSetsMatchSpecSaid : Prop := meaningSetsMatchSpecRow.holds Try.pinned (OpenSpec.ofChange meaningSetsMatchSpecSpec)

/-- ITS FALSE NEIGHBOUR: 'it returns false'. Refute it at one input. -/
def meaningSetsMatchSpecWrong : ChangeSpec := { name := "meaningSetsMatchSpec", fn := fun _ => fun
  | [d1, d2, d3, d4] => { results := [.lit (.bool false)], args := [d1, d2, d3, d4] }
  | _ => none }
def MeaningSetsMatchSpecWrongFalsely : Prop := meaningSetsMatchSpecRow.holds Try.pinned (OpenSpec.ofChange meaningSetsMatchSpecWrong)

/-- 'boathouselaw7.PlanReadsMatchSpec': WHATEVER THE INPUT: true; the input reads as it did. -/
def planReadsMatchSpecSpec : ChangeSpec := { name := "planReadsMatchSpec", fn := fun _ => fun
  | [d] => { results := [.lit (.bool true)], args := [d] }
  | _ => none }
def planReadsMatchSpecRow : OpenClaim := { program := "ytlphgceejghfkaa", sum := "7f8dd85566338ab76385690e7527f9024f9ad2c74b67d8d4a2c18c213ee55b8b", func := "boathouse/boathouselaw7.PlanReadsMatchSpec", spec := "planReadsMatchSpec", unfollowed := true, recurses := true, loops := true, apart := false }
def PlanReadsMatchSpecSaid : Prop := planReadsMatchSpecRow.holds Try.pinned (OpenSpec.ofChange planReadsMatchSpecSpec)

/-- ITS FALSE NEIGHBOUR: 'it returns false'. Refute it at one input. -/
def planReadsMatchSpecWrong : ChangeSpec := { name := "planReadsMatchSpec", fn := fun _ => fun
  | [d] => { results := [.lit (.bool false)], args := [d] }
  | _ => none }
def PlanReadsMatchSpecWrongFalsely : Prop := planReadsMatchSpecRow.holds Try.pinned (OpenSpec.ofChange planReadsMatchSpecWrong)

/- THE SECOND FORM. 'bulk': how many values and letters a reading holds, each counted each time it is reached (what is shared counts as often as it is met; a slice's spare places count too). A statement '..UptoSaid' is the law's where the arguments, and the package variables that the reading takes, are together of bulk at most 1048576: NARROWER than '..Said'. Prove '..Said' where nothing that the law and all that it calls make is longer than what came in: it says more and counts as full. Else prove '..UptoSaid'. A law counts once. -/
mutual
def uptoBulk {H : Type} : DataW H → Nat
  | .lit (.string bytes) => bytes.length + 1
  | .lit _ => 1
  | .nil => 1
  | .ptr d => uptoBulk d + 1
  | .slice elems spare => uptoBulkAll elems + uptoBulkAll spare + 1
  | .agg parts => uptoBulkAll parts + 1
  | .iface _ d => uptoBulk d + 1
  | .map entries => uptoBulkEntries entries + 1
  | .held _ => 1
def uptoBulkAll {H : Type} : List (DataW H) → Nat
  | [] => 0
  | d :: r => uptoBulk d + uptoBulkAll r
def uptoBulkEntries {H : Type} : List (Lit × DataW H) → Nat
  | [] => 0
  | x :: r => uptoBulkEntry x + uptoBulkEntries r
def uptoBulkEntry {H : Type} : Lit × DataW H → Nat
  | (.string bytes, d) => bytes.length + uptoBulk d + 1
  | (_, d) => uptoBulk d + 1
 end
def uptoSmall : (H : Type) → List (DataW H) → Bool := fun _ ds => decide (uptoBulkAll ds ≤ 1048576)
def OpenSpec.upto (s : _root_.Go.ChangeSpec) : _root_.Go.OpenSpec := { _root_.Go.OpenSpec.ofChange s with cond := some uptoSmall }

/-- 'boathouselaw6.MeaningSetsMatchSpec', WHERE WHAT IT READS IS OF BULK AT MOST 1048576: true; the input reads as it did. -/
def meaningSetsMatchSpecUptoRow : OpenClaim := { program := "ytlphgceejghfkaa", sum := "7f8dd85566338ab76385690e7527f9024f9ad2c74b67d8d4a2c18c213ee55b8b", func := "boathouse/boathouselaw6.MeaningSetsMatchSpec", spec := "meaningSetsMatchSpec", inPlace := ["math/bits.Add64", "math/bits.Sub64"], unfollowed := true, recurses := true, loops := true, apart := false, narrowed := true }
def MeaningSetsMatchSpecUptoSaid : Prop := meaningSetsMatchSpecUptoRow.holds Try.pinned (OpenSpec.upto meaningSetsMatchSpecSpec)

/-- 'boathouselaw7.PlanReadsMatchSpec', WHERE WHAT IT READS IS OF BULK AT MOST 1048576: true; the input reads as it did. -/
def planReadsMatchSpecUptoRow : OpenClaim := { program := "ytlphgceejghfkaa", sum := "7f8dd85566338ab76385690e7527f9024f9ad2c74b67d8d4a2c18c213ee55b8b", func := "boathouse/boathouselaw7.PlanReadsMatchSpec", spec := "planReadsMatchSpec", unfollowed := true, recurses := true, loops := true, apart := false, narrowed := true }
def PlanReadsMatchSpecUptoSaid : Prop := planReadsMatchSpecUptoRow.holds Try.pinned (OpenSpec.upto planReadsMatchSpecSpec)

end Rows
end Go.Proofs.Ytlphgceejghfkaa
