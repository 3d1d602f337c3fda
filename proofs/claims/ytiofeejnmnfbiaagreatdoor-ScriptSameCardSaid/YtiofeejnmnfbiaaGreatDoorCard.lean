/- ScriptSame: whatever two lives come in, the law answers true and leaves them as they were; the listed package-level variables hold what the program's text lays in them. -/
import Derived.Test.YtiofeejnmnfbiaaGreatDoorTi
import Derived.Test.YtiofeejnmnfbiaaGreatDoorProof
import Derived.Test.YtiofeejnmnfbiaaGreatDoorFa3
set_option linter.unusedVariables false
namespace Go.Proofs.YtiofeejnmnfbiaaGreatDoor.Same
open Go Go.Ev
/-- THE STATEMENT: the tied card -/
theorem card_holds : Rows.ScriptSameCardSaid :=
  Claim7.holds_tied_plain_at .later [] [.sentinel, .sentinel, .data, .data, .data, .data, .data, .data, .data, .data] true (true, "508b082adbf9e7d97cc78779fe7d704b80785a99ffeecc300a648db4752e14d3") true holds (fun _ h => by cases h) cW (fun _ h => by cases h) row_tie rfl ⟨rfl, rfl⟩ cM rfl cP cG
#print axioms card_holds
end Go.Proofs.YtiofeejnmnfbiaaGreatDoor.Same
