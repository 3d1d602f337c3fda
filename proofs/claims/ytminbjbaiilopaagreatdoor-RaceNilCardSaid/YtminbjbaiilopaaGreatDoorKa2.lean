/- known(): its run comes to true. -/
import Derived.Test.YtminbjbaiilopaaGreatDoorKa1
open Go Go.Ev Go.Proofs
namespace Go.Proofs.YtminbjbaiilopaaGreatDoor
namespace Race
theorem knl : run E0 1000000 knc1 = true := by kernel_rfl
theorem runKnown : startB E0 (10403 + (10073 + 1000000)) E1.sum [] (initH gs) (Key.ofNat 30) = true := startB_split knp0 (run_split knp1 knl)
end Race
end Go.Proofs.YtminbjbaiilopaaGreatDoor
