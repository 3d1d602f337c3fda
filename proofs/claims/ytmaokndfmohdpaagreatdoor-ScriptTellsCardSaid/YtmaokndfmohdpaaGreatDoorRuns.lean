/- The runs, together. -/
import Derived.Test.YtmaokndfmohdpaaGreatDoorRa0
import Derived.Test.YtmaokndfmohdpaaGreatDoorKa1
open Go Go.Ev Go.Proofs
namespace Go.Proofs.YtmaokndfmohdpaaGreatDoor
namespace STells
end STells
end Go.Proofs.YtmaokndfmohdpaaGreatDoor
