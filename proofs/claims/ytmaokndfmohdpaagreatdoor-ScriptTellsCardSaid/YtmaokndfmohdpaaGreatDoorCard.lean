/- ScriptTells: the card: whatever order comes in, the law answers true and leaves it as it was; the listed package-level variables hold what the program's text lays in them. -/
import Derived.Test.YtmaokndfmohdpaaGreatDoorTie
import Derived.Test.YtmaokndfmohdpaaGreatDoorProof
import Derived.Test.YtmaokndfmohdpaaGreatDoorFa3
set_option linter.unusedVariables false
namespace Go.Proofs.YtmaokndfmohdpaaGreatDoor.STells
open Go Go.Ev
/-- THE STATEMENT: the tied card -/
theorem card_holds : Rows.ScriptTellsCardSaid :=
  Claim7.holds_tied_plain_at .later [] [.data, .data, .data, .sentinel, .sentinel, .data, .data, .data, .data, .data] true (true, "83d8cf4cd909474c6241cb2e52684317ee994bb637c851fc0be5b2f4e17a5304") true holds (fun _ h => by cases h) cW (fun _ h => by cases h) scriptTells_row_tie rfl ⟨rfl, rfl⟩ cM rfl cP cG
#print axioms card_holds
end Go.Proofs.YtmaokndfmohdpaaGreatDoor.STells
