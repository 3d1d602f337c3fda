/- known(): its run comes to true. -/
import Derived.Test.YtckhjkbfaibnpaaGreatDoorKa1
open Go Go.Ev Go.Proofs
namespace Go.Proofs.YtckhjkbfaibnpaaGreatDoor
namespace DebN
theorem knl : run E0 1000000 knc1 = true := by kernel_rfl
theorem runKnown : startB E0 (5948 + (7890 + 1000000)) E1.sum [] (initH gs) (Key.ofNat 30) = true := startB_split knp0 (run_split knp1 knl)
end DebN
end Go.Proofs.YtckhjkbfaibnpaaGreatDoor
