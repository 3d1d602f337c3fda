/- A run of the law comes to true. -/
import Derived.Test.YtckhjkbfaibnpaaGreatDoorS1
open Go Go.Ev Go.Proofs
namespace Go.Proofs.YtckhjkbfaibnpaaGreatDoor
namespace DebN
theorem runA : startB E1 1000000 3 [.agg [.any, .any], .agg [.any, .any]] (initH gs) (Key.ofNat 30) = true := by kernel_rfl
end DebN
end Go.Proofs.YtckhjkbfaibnpaaGreatDoor
