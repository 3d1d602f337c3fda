/- known() of WatchRefuses: its run comes to true. -/
import Derived.Test.YtkdhhndolhbimaaGreatDoorRa0
open Go Go.Ev Go.Proofs
namespace Go.Proofs.YtkdhhndolhbimaaGreatDoor
namespace Watch
theorem knl : run E0 100000 knc0 = true := by kernel_rfl
theorem runKnown : startB E0 (10569 + 100000) 4 [] (initH gs) (Key.ofNat 30) = true := startB_split knp0 knl
end Watch
end Go.Proofs.YtkdhhndolhbimaaGreatDoor
