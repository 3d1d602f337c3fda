/- ScriptOne: whatever three bytes come in, the law answers true and leaves them as they were; the listed package-level variables hold what the program's text lays in them. -/
import Derived.Test.YtfcfjbphkegemaaGreatDoorTie
import Derived.Test.YtfcfjbphkegemaaGreatDoorProof
import Derived.Test.YtfcfjbphkegemaaGreatDoorFa3
set_option linter.unusedVariables false
namespace Go.Proofs.YtfcfjbphkegemaaGreatDoor.One
open Go Go.Ev
/-- THE STATEMENT: the tied card -/
theorem card_holds : Rows.ScriptOneCardSaid :=
  Claim7.holds_tied_plain_at .later [] [.data, .data, .data, .sentinel, .sentinel, .data, .data, .data, .data, .data] true (true, "01843f32ef6efbaabdc2275118173fb40fdc803c03839b8647cff9aee5530c01") true holds (fun _ h => by cases h) cW (fun _ h => by cases h) scriptOne_row_tie rfl ⟨rfl, rfl⟩ cM rfl cP cG
#print axioms card_holds
end Go.Proofs.YtfcfjbphkegemaaGreatDoor.One
