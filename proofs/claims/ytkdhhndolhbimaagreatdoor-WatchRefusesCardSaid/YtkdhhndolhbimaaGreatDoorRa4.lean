/- A run of WatchRefuses comes to true. -/
import Derived.Test.YtkdhhndolhbimaaGreatDoorS1
open Go Go.Ev Go.Proofs
namespace Go.Proofs.YtkdhhndolhbimaaGreatDoor
namespace Watch
theorem runP : startB E1 100000 3 [.int .i64 1, .any, .any] (initH gs) (Key.ofNat 30) = true := by kernel_rfl
end Watch
end Go.Proofs.YtkdhhndolhbimaaGreatDoor
