/-
  DERIVED. GIVEN WITH THE SEED: THE CARDS: each row of YtkdhhndolhbimaaGreatDoorRows.lean that lists a variable, with what it lists TIED to the program's text (the seventh form; the later family's looks); each row that meets fmt, with fmt's text TOLD by the authors' own Lean function (tested against real Go, not proved from fmt's source: count such statements apart). THE CARD IS WHAT COUNTS. Prove the row's statement (the work); the ties are given (YtkdhhndolhbimaaGreatDoorTie.lean); close each card by the builder's one call (the guide's Derived/Test/ToyasCard.lean, 'card_holds'). Laid BY PROGRAM, IN A SANDBOX (cutbox-door.mjs). By AI agents, Wed Nov 11 2026. No macro, syntax, notation, axiom, sorry.
-/
import Derived.Test.YtkdhhndolhbimaaGreatDoorRows
import GoSem.ClaimSeven
namespace Go.Proofs.YtkdhhndolhbimaaGreatDoor
namespace Rows

/-- THE TIED CARD OF 'warplaw22.WatchRefuses'. -/
def watchRefusesCard : Claim7 := { stood := { row := watchRefusesRow, standIns := [], harness := (true, "2610513b074e970560fb2a04b90fd0cbcea94e5234b90211c961b0a879f77255"), looks := true }, kinds := [], alts := [], laidByText := true, laidKinds := [.data, .data, .data], laidTests := true, laidLooks := .later }
def WatchRefusesCardSaid : Prop := Claim7.holds Tryz.pinned (.plain (OpenSpec.ofChange watchRefusesSpec)) watchRefusesCard

/-- THE SECOND FORM's CARD OF 'warplaw22.WatchRefuses'. -/
def watchRefusesUptoCard : Claim7 := { stood := { row := watchRefusesUptoRow, standIns := [], harness := (true, "2610513b074e970560fb2a04b90fd0cbcea94e5234b90211c961b0a879f77255"), looks := true }, kinds := [], alts := [], laidByText := true, laidKinds := [.data, .data, .data], laidTests := true, laidLooks := .later }
def WatchRefusesUptoCardSaid : Prop := Claim7.holds Tryz.pinned (.plain (OpenSpec.upto watchRefusesSpec)) watchRefusesUptoCard
end Rows
end Go.Proofs.YtkdhhndolhbimaaGreatDoor
