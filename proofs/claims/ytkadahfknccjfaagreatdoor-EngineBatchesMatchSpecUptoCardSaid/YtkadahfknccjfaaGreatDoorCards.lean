/-
  DERIVED. GIVEN WITH THE SEED: THE CARDS: each row of YtkadahfknccjfaaGreatDoorRows.lean that lists a variable, with what it lists TIED to the program's text (the seventh form; the later family's looks); each row that meets fmt, with fmt's text TOLD by the authors' own Lean function (tested against real Go, not proved from fmt's source: count such statements apart). THE CARD IS WHAT COUNTS. Prove the row's statement (the work); the ties are given (YtkadahfknccjfaaGreatDoorTie.lean); close each card by the builder's one call (the guide's Derived/Test/ToyasCard.lean, 'card_holds'). Laid BY PROGRAM, IN A SANDBOX (cutbox-door.mjs). By AI agents, Wed Nov 11 2026. No macro, syntax, notation, axiom, sorry.
-/
import Derived.Test.YtkadahfknccjfaaGreatDoorRows
import GoSem.ClaimSeven
namespace Go.Proofs.YtkadahfknccjfaaGreatDoor
namespace Rows

/-- THE TIED CARD OF 'boathouselaw8.EngineBatchesMatchSpec'. -/
def engineBatchesMatchSpecCard : Claim7 := { stood := { row := engineBatchesMatchSpecRow, standIns := [], harness := (true, "934107bde7afa4c4a44314e5c70ca5429cc38f50d70657cbb3f63d5159e4c1e5"), looks := false }, kinds := [], alts := [], laidByText := true, laidKinds := [.data, .pinned], laidTests := true, laidLooks := .later }
def EngineBatchesMatchSpecCardSaid : Prop := Claim7.holds Tryz.pinned (.plain (OpenSpec.ofChange engineBatchesMatchSpecSpec)) engineBatchesMatchSpecCard

/-- THE SECOND FORM's CARD OF 'boathouselaw8.EngineBatchesMatchSpec'. -/
def engineBatchesMatchSpecUptoCard : Claim7 := { stood := { row := engineBatchesMatchSpecUptoRow, standIns := [], harness := (true, "934107bde7afa4c4a44314e5c70ca5429cc38f50d70657cbb3f63d5159e4c1e5"), looks := false }, kinds := [], alts := [], laidByText := true, laidKinds := [.data, .pinned], laidTests := true, laidLooks := .later }
def EngineBatchesMatchSpecUptoCardSaid : Prop := Claim7.holds Tryz.pinned (.plain (OpenSpec.upto engineBatchesMatchSpecSpec)) engineBatchesMatchSpecUptoCard
end Rows
end Go.Proofs.YtkadahfknccjfaaGreatDoor
