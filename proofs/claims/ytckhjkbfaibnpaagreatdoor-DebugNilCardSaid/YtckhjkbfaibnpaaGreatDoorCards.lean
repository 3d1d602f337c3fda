/-
  DERIVED. GIVEN WITH THE SEED: THE CARDS: each row of YtckhjkbfaibnpaaGreatDoorRows.lean that lists a variable, with what it lists TIED to the program's text (the seventh form; the later family's looks); each row that meets fmt, with fmt's text TOLD by the authors' own Lean function (tested against real Go, not proved from fmt's source: count such statements apart). THE CARD IS WHAT COUNTS. Prove the row's statement (the work); the ties are given (YtckhjkbfaibnpaaGreatDoorTie.lean); close each card by the builder's one call (the guide's Derived/Test/ToyasCard.lean, 'card_holds'). Laid BY PROGRAM, IN A SANDBOX (cutbox-door.mjs). By AI agents, Wed Nov 11 2026. No macro, syntax, notation, axiom, sorry.
-/
import Derived.Test.YtckhjkbfaibnpaaGreatDoorRows
import GoSem.ClaimSeven
namespace Go.Proofs.YtckhjkbfaibnpaaGreatDoor
namespace Rows

/-- THE TIED CARD OF 'warplaw16.DebugNil'. -/
def debugNilCard : Claim7 := { stood := { row := debugNilRow, standIns := [], harness := (true, "591b4b31f7175517c073054a1af8fe93e76cec44d6267d47f8c162914725c2e0"), looks := true }, kinds := [], alts := [], laidByText := true, laidKinds := [.data, .data, .data], laidTests := true, laidLooks := .later }
def DebugNilCardSaid : Prop := Claim7.holds Tryz.pinned (.plain (OpenSpec.ofChange debugNilSpec)) debugNilCard

/-- THE SECOND FORM's CARD OF 'warplaw16.DebugNil'. -/
def debugNilUptoCard : Claim7 := { stood := { row := debugNilUptoRow, standIns := [], harness := (true, "591b4b31f7175517c073054a1af8fe93e76cec44d6267d47f8c162914725c2e0"), looks := true }, kinds := [], alts := [], laidByText := true, laidKinds := [.data, .data, .data], laidTests := true, laidLooks := .later }
def DebugNilUptoCardSaid : Prop := Claim7.holds Tryz.pinned (.plain (OpenSpec.upto debugNilSpec)) debugNilUptoCard
end Rows
end Go.Proofs.YtckhjkbfaibnpaaGreatDoor
