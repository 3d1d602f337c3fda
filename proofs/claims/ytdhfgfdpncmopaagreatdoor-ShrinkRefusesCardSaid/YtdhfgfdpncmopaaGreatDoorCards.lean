/-
  DERIVED. GIVEN WITH THE SEED: THE CARDS: each row of YtdhfgfdpncmopaaGreatDoorRows.lean that lists a variable, with what it lists TIED to the program's text (the seventh form; the later family's looks); each row that meets fmt, with fmt's text TOLD by the authors' own Lean function (tested against real Go, not proved from fmt's source: count such statements apart). THE CARD IS WHAT COUNTS. Prove the row's statement (the work); the ties are given (YtdhfgfdpncmopaaGreatDoorTie.lean); close each card by the builder's one call (the guide's Derived/Test/ToyasCard.lean, 'card_holds'). Laid BY PROGRAM, IN A SANDBOX (cutbox-door.mjs). By AI agents, Wed Nov 11 2026. No macro, syntax, notation, axiom, sorry.
-/
import Derived.Test.YtdhfgfdpncmopaaGreatDoorRows
import GoSem.ClaimSeven
namespace Go.Proofs.YtdhfgfdpncmopaaGreatDoor
namespace Rows

/-- THE TIED CARD OF 'warplaw24.ShrinkRefuses'. -/
def shrinkRefusesCard : Claim7 := { stood := { row := shrinkRefusesRow, standIns := [], harness := (true, "d737aae098ca64c2104c740401c01c868c98b063c2352d5e33ce37a690f2e92f"), looks := true }, kinds := [], alts := [], laidByText := true, laidKinds := [.data, .data, .data], laidTests := true, laidLooks := .later }
def ShrinkRefusesCardSaid : Prop := Claim7.holds Tryz.pinned (.plain (OpenSpec.ofChange shrinkRefusesSpec)) shrinkRefusesCard

/-- THE SECOND FORM's CARD OF 'warplaw24.ShrinkRefuses'. -/
def shrinkRefusesUptoCard : Claim7 := { stood := { row := shrinkRefusesUptoRow, standIns := [], harness := (true, "d737aae098ca64c2104c740401c01c868c98b063c2352d5e33ce37a690f2e92f"), looks := true }, kinds := [], alts := [], laidByText := true, laidKinds := [.data, .data, .data], laidTests := true, laidLooks := .later }
def ShrinkRefusesUptoCardSaid : Prop := Claim7.holds Tryz.pinned (.plain (OpenSpec.upto shrinkRefusesSpec)) shrinkRefusesUptoCard
end Rows
end Go.Proofs.YtdhfgfdpncmopaaGreatDoor
