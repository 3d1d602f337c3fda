/-
  DERIVED. GIVEN WITH THE SEED: THE CARDS: each row of YtljcpclabnamjaaGreatDoorRows.lean that lists a variable, with what it lists TIED to the program's text (the seventh form; the later family's looks); each row that meets fmt, with fmt's text TOLD by the authors' own Lean function (tested against real Go, not proved from fmt's source: count such statements apart). THE CARD IS WHAT COUNTS. Prove the row's statement (the work); the ties are given (YtljcpclabnamjaaGreatDoorTie.lean); close each card by the builder's one call (the guide's Derived/Test/ToyasCard.lean, 'card_holds'). Laid BY PROGRAM, IN A SANDBOX (cutbox-door.mjs). By AI agents, Wed Nov 11 2026. No macro, syntax, notation, axiom, sorry.
-/
import Derived.Test.YtljcpclabnamjaaGreatDoorRows
import GoSem.ClaimSeven
namespace Go.Proofs.YtljcpclabnamjaaGreatDoor
namespace Rows

/-- THE TIED CARD OF 'warplaw23.BreaksRefuses'. -/
def breaksRefusesCard : Claim7 := { stood := { row := breaksRefusesRow, standIns := [], harness := (true, "5a968a6c3c1d4809098a426b882eebce90ae99ee488efb6cbbb1834ba1a5059e"), looks := true }, kinds := [], alts := [], laidByText := true, laidKinds := [.data, .data, .data], laidTests := true, laidLooks := .later }
def BreaksRefusesCardSaid : Prop := Claim7.holds Tryz.pinned (.plain (OpenSpec.ofChange breaksRefusesSpec)) breaksRefusesCard

/-- THE SECOND FORM's CARD OF 'warplaw23.BreaksRefuses'. -/
def breaksRefusesUptoCard : Claim7 := { stood := { row := breaksRefusesUptoRow, standIns := [], harness := (true, "5a968a6c3c1d4809098a426b882eebce90ae99ee488efb6cbbb1834ba1a5059e"), looks := true }, kinds := [], alts := [], laidByText := true, laidKinds := [.data, .data, .data], laidTests := true, laidLooks := .later }
def BreaksRefusesUptoCardSaid : Prop := Claim7.holds Tryz.pinned (.plain (OpenSpec.upto breaksRefusesSpec)) breaksRefusesUptoCard
end Rows
end Go.Proofs.YtljcpclabnamjaaGreatDoor
