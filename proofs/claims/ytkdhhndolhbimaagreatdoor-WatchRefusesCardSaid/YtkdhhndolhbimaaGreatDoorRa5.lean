/- Runs of WatchRefuses at numbers that it does not take. -/
import Derived.Test.YtkdhhndolhbimaaGreatDoorS1
open Go Go.Ev Go.Proofs
namespace Go.Proofs.YtkdhhndolhbimaaGreatDoor
namespace Watch
theorem runLow : startB E1 100000 3 [.rng .i64 (-9223372036854775808) (-2), .any, .any] (initH gs) (Key.ofNat 30) = true := by kernel_rfl
theorem runHigh : startB E1 100000 3 [.rng .i64 2 9223372036854775807, .any, .any] (initH gs) (Key.ofNat 30) = true := by kernel_rfl
end Watch
end Go.Proofs.YtkdhhndolhbimaaGreatDoor
