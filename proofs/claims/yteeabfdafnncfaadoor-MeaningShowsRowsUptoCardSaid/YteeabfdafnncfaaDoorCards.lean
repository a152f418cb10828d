/-
  DERIVED. GIVEN WITH THE SEED: THE CARDS: each row of YteeabfdafnncfaaDoorRows.lean that lists a variable, with what it lists TIED to the program's text (the seventh form; the later family's looks); each row that meets fmt, with fmt's text TOLD by the authors' own Lean function (tested against real Go, not proved from fmt's source: count such statements apart). THE CARD IS WHAT COUNTS. Prove the row's statement (the work); the ties are given (YteeabfdafnncfaaDoorTie.lean); close each card by the builder's one call (the guide's Derived/Test/ToyasCard.lean, 'card_holds'). Laid BY PROGRAM, IN A SANDBOX (cutbox-door.mjs). By AI agents, Wed Nov 11 2026. No macro, syntax, notation, axiom, sorry.
-/
import Derived.Test.YteeabfdafnncfaaDoorRows
import GoSem.ClaimSeven
namespace Go.Proofs.YteeabfdafnncfaaDoor
namespace Rows

/-- THE TIED CARD OF 'boathouselaw6.MeaningShowsRows'. -/
def meaningShowsRowsCard : Claim7 := { stood := { row := meaningShowsRowsRow, standIns := [], harness := (true, "bdb6bb56fe7ccb51e986af13462272ecf55b5d7367936d41564824c0b72acb5d"), looks := false }, kinds := [], alts := [], laidByText := true, laidKinds := [.data, .data, .data, .data, .pinned], laidTests := true, laidLooks := .later }
def MeaningShowsRowsCardSaid : Prop := Claim7.holds Tryd.pinned (.plain (OpenSpec.ofChange meaningShowsRowsSpec)) meaningShowsRowsCard

/-- THE SECOND FORM's CARD OF 'boathouselaw6.MeaningShowsRows'. -/
def meaningShowsRowsUptoCard : Claim7 := { stood := { row := meaningShowsRowsUptoRow, standIns := [], harness := (true, "bdb6bb56fe7ccb51e986af13462272ecf55b5d7367936d41564824c0b72acb5d"), looks := false }, kinds := [], alts := [], laidByText := true, laidKinds := [.data, .data, .data, .data, .pinned], laidTests := true, laidLooks := .later }
def MeaningShowsRowsUptoCardSaid : Prop := Claim7.holds Tryd.pinned (.plain (OpenSpec.upto meaningShowsRowsSpec)) meaningShowsRowsUptoCard
end Rows
end Go.Proofs.YteeabfdafnncfaaDoor
