/-
  DERIVED. GIVEN WITH THE SEED: THE CARDS: each row of YtfcpaakdnpeomaaGreatDoorRows.lean that lists a variable, with what it lists TIED to the program's text (the seventh form; the later family's looks); each row that meets fmt, with fmt's text TOLD by the authors' own Lean function (tested against real Go, not proved from fmt's source: count such statements apart). THE CARD IS WHAT COUNTS. Prove the row's statement (the work); the ties are given (YtfcpaakdnpeomaaGreatDoorTie.lean); close each card by the builder's one call (the guide's Derived/Test/ToyasCard.lean, 'card_holds'). Laid BY PROGRAM, IN A SANDBOX (cutbox-door.mjs). By AI agents, Wed Nov 11 2026. No macro, syntax, notation, axiom, sorry.
-/
import Derived.Test.YtfcpaakdnpeomaaGreatDoorRows
import GoSem.ClaimSeven
namespace Go.Proofs.YtfcpaakdnpeomaaGreatDoor
namespace Rows

/-- THE TIED CARD OF 'warplaw21.WaitsNil'. -/
def waitsNilCard : Claim7 := { stood := { row := waitsNilRow, standIns := [], harness := (true, "28f194b01efe6d5902487008e32a0cda844a9be6926320785df301932d26b7ff"), looks := true }, kinds := [], alts := [], laidByText := true, laidKinds := [.data, .data, .data, .sentinel, .sentinel, .data, .data, .data, .data, .data], laidTests := true, laidLooks := .later }
def WaitsNilCardSaid : Prop := Claim7.holds Tryz.pinned (.plain (OpenSpec.ofChange waitsNilSpec)) waitsNilCard

/-- THE SECOND FORM's CARD OF 'warplaw21.WaitsNil'. -/
def waitsNilUptoCard : Claim7 := { stood := { row := waitsNilUptoRow, standIns := [], harness := (true, "28f194b01efe6d5902487008e32a0cda844a9be6926320785df301932d26b7ff"), looks := true }, kinds := [], alts := [], laidByText := true, laidKinds := [.data, .data, .data, .sentinel, .sentinel, .data, .data, .data, .data, .data], laidTests := true, laidLooks := .later }
def WaitsNilUptoCardSaid : Prop := Claim7.holds Tryz.pinned (.plain (OpenSpec.upto waitsNilSpec)) waitsNilUptoCard
end Rows
end Go.Proofs.YtfcpaakdnpeomaaGreatDoor
