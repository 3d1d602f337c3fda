/- ScriptChecks: whatever orders come in, the law answers true and leaves them as they were; the listed package-level variables hold what the program's text lays in them. -/
import Derived.Test.YtlhkmfgoebgljaaGreatDoorTie
import Derived.Test.YtlhkmfgoebgljaaGreatDoorProof
import Derived.Test.YtlhkmfgoebgljaaGreatDoorFa3
set_option linter.unusedVariables false
namespace Go.Proofs.YtlhkmfgoebgljaaGreatDoor.Checks
open Go Go.Ev
/-- THE STATEMENT: the tied card -/
theorem card_holds : Rows.ScriptChecksCardSaid :=
  Claim7.holds_tied_plain_at .later [] [.data, .data, .data, .sentinel, .sentinel, .data, .data, .data, .data, .data] true (true, "b7c967b5d29708ed07ab3332cbb1a70cb24e0920f81ec19af18c2e3010a3c8ae") true holds (fun _ h => by cases h) cW (fun _ h => by cases h) scriptChecks_row_tie rfl ⟨rfl, rfl⟩ cM rfl cP cG
#print axioms card_holds
end Go.Proofs.YtlhkmfgoebgljaaGreatDoor.Checks
