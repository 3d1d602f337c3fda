/- The runs of WatchRefuses, together. -/
import Derived.Test.YtkdhhndolhbimaaGreatDoorRa1
import Derived.Test.YtkdhhndolhbimaaGreatDoorRa2
import Derived.Test.YtkdhhndolhbimaaGreatDoorRa3
import Derived.Test.YtkdhhndolhbimaaGreatDoorRa4
import Derived.Test.YtkdhhndolhbimaaGreatDoorRa5
open Go Go.Ev Go.Proofs
namespace Go.Proofs.YtkdhhndolhbimaaGreatDoor
namespace Watch
end Watch
end Go.Proofs.YtkdhhndolhbimaaGreatDoor
