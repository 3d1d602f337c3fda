/- ScriptReads: whatever bytes come in, the law answers true and leaves them as they were; the listed package-level variables hold what the program's text lays in them. -/
import Derived.Test.YtjjdonehfbebkaaGreatDoorTie
import Derived.Test.YtjjdonehfbebkaaGreatDoorProof
import Derived.Test.YtjjdonehfbebkaaGreatDoorFa3
set_option linter.unusedVariables false
namespace Go.Proofs.YtjjdonehfbebkaaGreatDoor.Reads
open Go Go.Ev
/-- THE STATEMENT: the tied card -/
theorem card_holds : Rows.ScriptReadsCardSaid :=
  Claim7.holds_tied_plain_at .later [] [.data, .data, .data, .sentinel, .sentinel, .data, .data, .data, .data, .data] true (true, "eb4b42d4ee09b2527e480789419ec99a00adbd84b50983509f7f38a528e043f9") true holds (fun _ h => by cases h) cW (fun _ h => by cases h) scriptReads_row_tie rfl ⟨rfl, rfl⟩ cM rfl cP cG
#print axioms card_holds
end Go.Proofs.YtjjdonehfbebkaaGreatDoor.Reads
