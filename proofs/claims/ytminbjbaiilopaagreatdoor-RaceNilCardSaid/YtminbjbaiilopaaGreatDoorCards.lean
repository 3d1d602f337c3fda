/-
  DERIVED. GIVEN WITH THE SEED: THE CARDS: each row of YtminbjbaiilopaaGreatDoorRows.lean that lists a variable, with what it lists TIED to the program's text (the seventh form; the later family's looks); each row that meets fmt, with fmt's text TOLD by the authors' own Lean function (tested against real Go, not proved from fmt's source: count such statements apart). THE CARD IS WHAT COUNTS. Prove the row's statement (the work); the ties are given (YtminbjbaiilopaaGreatDoorTie.lean); close each card by the builder's one call (the guide's Derived/Test/ToyasCard.lean, 'card_holds'). Laid BY PROGRAM, IN A SANDBOX (cutbox-door.mjs). By AI agents, Wed Nov 11 2026. No macro, syntax, notation, axiom, sorry.
-/
import Derived.Test.YtminbjbaiilopaaGreatDoorRows
import GoSem.ClaimSeven
namespace Go.Proofs.YtminbjbaiilopaaGreatDoor
namespace Rows

/-- THE TIED CARD OF 'warplaw14.RaceNil'. -/
def raceNilCard : Claim7 := { stood := { row := raceNilRow, standIns := [], harness := (true, "6286fa2b54758414dad5162c226fadc4237fbcf6061ad8573a6b09ab21c6ab28"), looks := true }, kinds := [], alts := [], laidByText := true, laidKinds := [.data, .data, .data], laidTests := true, laidLooks := .later }
def RaceNilCardSaid : Prop := Claim7.holds Tryz.pinned (.plain (OpenSpec.ofChange raceNilSpec)) raceNilCard

/-- THE SECOND FORM's CARD OF 'warplaw14.RaceNil'. -/
def raceNilUptoCard : Claim7 := { stood := { row := raceNilUptoRow, standIns := [], harness := (true, "6286fa2b54758414dad5162c226fadc4237fbcf6061ad8573a6b09ab21c6ab28"), looks := true }, kinds := [], alts := [], laidByText := true, laidKinds := [.data, .data, .data], laidTests := true, laidLooks := .later }
def RaceNilUptoCardSaid : Prop := Claim7.holds Tryz.pinned (.plain (OpenSpec.upto raceNilSpec)) raceNilUptoCard
end Rows
end Go.Proofs.YtminbjbaiilopaaGreatDoor
