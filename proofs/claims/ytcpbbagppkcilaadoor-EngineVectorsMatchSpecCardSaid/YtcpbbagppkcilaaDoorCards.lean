/-
  DERIVED. GIVEN WITH THE SEED: THE CARDS: each row of YtcpbbagppkcilaaDoorRows.lean that lists a variable, with what it lists TIED to the program's text (the seventh form; the later family's looks); each row that meets fmt, with fmt's text TOLD by the authors' own Lean function (tested against real Go, not proved from fmt's source: count such statements apart). THE CARD IS WHAT COUNTS. Prove the row's statement (the work); the ties are given (YtcpbbagppkcilaaDoorTie.lean); close each card by the builder's one call (the guide's Derived/Test/ToyasCard.lean, 'card_holds'). Laid BY PROGRAM, IN A SANDBOX (cutbox-door.mjs). By AI agents, Wed Nov 11 2026. No macro, syntax, notation, axiom, sorry.
-/
import Derived.Test.YtcpbbagppkcilaaDoorRows
import GoSem.ClaimSeven
namespace Go.Proofs.YtcpbbagppkcilaaDoor
namespace Rows

/-- THE TIED CARD OF 'boathouselaw8.EngineVectorsMatchSpec'. -/
def engineVectorsMatchSpecCard : Claim7 := { stood := { row := engineVectorsMatchSpecRow, standIns := [], harness := (true, "a71ea82d8eb7d999164d65f9d26a810289e2676698b769ef9761f97d5e61128b"), looks := false }, kinds := [], alts := [], laidByText := true, laidKinds := [.data, .pinned], laidTests := true, laidLooks := .later }
def EngineVectorsMatchSpecCardSaid : Prop := Claim7.holds Tryd.pinned (.plain (OpenSpec.ofChange engineVectorsMatchSpecSpec)) engineVectorsMatchSpecCard

/-- THE TIED CARD OF 'boathouselaw6.MeaningSourcesAreChecked'. -/
def meaningSourcesAreCheckedCard : Claim7 := { stood := { row := meaningSourcesAreCheckedRow, standIns := [], harness := (true, "a71ea82d8eb7d999164d65f9d26a810289e2676698b769ef9761f97d5e61128b"), looks := false }, kinds := [], alts := [], laidByText := true, laidKinds := [.data, .pinned], laidTests := true, laidLooks := .later }
def MeaningSourcesAreCheckedCardSaid : Prop := Claim7.holds Tryd.pinned (.plain (OpenSpec.ofChange meaningSourcesAreCheckedSpec)) meaningSourcesAreCheckedCard

/-- THE SECOND FORM's CARD OF 'boathouselaw8.EngineVectorsMatchSpec'. -/
def engineVectorsMatchSpecUptoCard : Claim7 := { stood := { row := engineVectorsMatchSpecUptoRow, standIns := [], harness := (true, "a71ea82d8eb7d999164d65f9d26a810289e2676698b769ef9761f97d5e61128b"), looks := false }, kinds := [], alts := [], laidByText := true, laidKinds := [.data, .pinned], laidTests := true, laidLooks := .later }
def EngineVectorsMatchSpecUptoCardSaid : Prop := Claim7.holds Tryd.pinned (.plain (OpenSpec.upto engineVectorsMatchSpecSpec)) engineVectorsMatchSpecUptoCard

/-- THE SECOND FORM's CARD OF 'boathouselaw6.MeaningSourcesAreChecked'. -/
def meaningSourcesAreCheckedUptoCard : Claim7 := { stood := { row := meaningSourcesAreCheckedUptoRow, standIns := [], harness := (true, "a71ea82d8eb7d999164d65f9d26a810289e2676698b769ef9761f97d5e61128b"), looks := false }, kinds := [], alts := [], laidByText := true, laidKinds := [.data, .pinned], laidTests := true, laidLooks := .later }
def MeaningSourcesAreCheckedUptoCardSaid : Prop := Claim7.holds Tryd.pinned (.plain (OpenSpec.upto meaningSourcesAreCheckedSpec)) meaningSourcesAreCheckedUptoCard
end Rows
end Go.Proofs.YtcpbbagppkcilaaDoor
