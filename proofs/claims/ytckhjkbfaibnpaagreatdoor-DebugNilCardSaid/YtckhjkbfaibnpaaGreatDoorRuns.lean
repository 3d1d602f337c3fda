/- The runs, together. -/
import Derived.Test.YtckhjkbfaibnpaaGreatDoorRa0
import Derived.Test.YtckhjkbfaibnpaaGreatDoorKa2
open Go Go.Ev Go.Proofs
namespace Go.Proofs.YtckhjkbfaibnpaaGreatDoor
namespace DebN
end DebN
end Go.Proofs.YtckhjkbfaibnpaaGreatDoor
