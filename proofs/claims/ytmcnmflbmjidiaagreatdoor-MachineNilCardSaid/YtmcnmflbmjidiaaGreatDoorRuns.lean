/- The runs, together. -/
import Derived.Test.YtmcnmflbmjidiaaGreatDoorRa0
import Derived.Test.YtmcnmflbmjidiaaGreatDoorKa1
open Go Go.Ev Go.Proofs
namespace Go.Proofs.YtmcnmflbmjidiaaGreatDoor
namespace MachN
end MachN
end Go.Proofs.YtmcnmflbmjidiaaGreatDoor
