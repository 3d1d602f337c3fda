/- ScriptBack: whatever orders and bytes come in, the law answers true and leaves them as they were; the listed package-level variables hold what the program's text lays in them. -/
import Derived.Test.YtadnhmpkfelofaaGreatDoorTie
import Derived.Test.YtadnhmpkfelofaaGreatDoorProof
import Derived.Test.YtadnhmpkfelofaaGreatDoorFa3
set_option linter.unusedVariables false
namespace Go.Proofs.YtadnhmpkfelofaaGreatDoor.Back
open Go Go.Ev
/-- THE STATEMENT: the tied card -/
theorem card_holds : Rows.ScriptBackCardSaid :=
  Claim7.holds_tied_plain_at .later [] [.data, .data, .data, .sentinel, .sentinel, .data, .data, .data, .data, .data] true (true, "e00ce8e578adba4fbdd0ecd9e58332ccdab5f5e944df3fc5565b52c018b89b4d") true holds (fun _ h => by cases h) cW (fun _ h => by cases h) scriptBack_row_tie rfl ⟨rfl, rfl⟩ cM rfl cP cG
#print axioms card_holds
end Go.Proofs.YtadnhmpkfelofaaGreatDoor.Back
