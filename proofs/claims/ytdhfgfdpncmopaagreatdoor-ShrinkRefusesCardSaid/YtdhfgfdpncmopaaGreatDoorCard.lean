/- ShrinkRefuses: whatever number and ending come in, the law answers true and leaves them as they were; the listed package-level variables hold what the program's text lays in them. -/
import Derived.Test.YtdhfgfdpncmopaaGreatDoorTie
import Derived.Test.YtdhfgfdpncmopaaGreatDoorProof
import Derived.Test.YtdhfgfdpncmopaaGreatDoorFa3
set_option linter.unusedVariables false
namespace Go.Proofs.YtdhfgfdpncmopaaGreatDoor.Shrink
open Go Go.Ev
/-- THE STATEMENT: the tied card -/
theorem card_holds : Rows.ShrinkRefusesCardSaid :=
  Claim7.holds_tied_plain_at .later [] [.data, .data, .data] true (true, "d737aae098ca64c2104c740401c01c868c98b063c2352d5e33ce37a690f2e92f") true holds (fun _ h => by cases h) cW (fun _ h => by cases h) shrinkRefuses_row_tie rfl ⟨rfl, rfl⟩ cM rfl cP cG
#print axioms card_holds
end Go.Proofs.YtdhfgfdpncmopaaGreatDoor.Shrink
