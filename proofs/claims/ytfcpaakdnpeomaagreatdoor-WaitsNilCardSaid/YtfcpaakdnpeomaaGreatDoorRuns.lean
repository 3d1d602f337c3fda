/- The runs, together. -/
import Derived.Test.YtfcpaakdnpeomaaGreatDoorRa0
import Derived.Test.YtfcpaakdnpeomaaGreatDoorKa3
open Go Go.Ev Go.Proofs
namespace Go.Proofs.YtfcpaakdnpeomaaGreatDoor
namespace WaitN
end WaitN
end Go.Proofs.YtfcpaakdnpeomaaGreatDoor
