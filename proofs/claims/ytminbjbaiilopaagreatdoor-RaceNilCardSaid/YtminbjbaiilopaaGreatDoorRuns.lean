/- The runs, together. -/
import Derived.Test.YtminbjbaiilopaaGreatDoorRa0
import Derived.Test.YtminbjbaiilopaaGreatDoorKa2
open Go Go.Ev Go.Proofs
namespace Go.Proofs.YtminbjbaiilopaaGreatDoor
namespace Race
end Race
end Go.Proofs.YtminbjbaiilopaaGreatDoor
