/- known(): its run comes to true. -/
import Derived.Test.YtfcpaakdnpeomaaGreatDoorKa2
open Go Go.Ev Go.Proofs
namespace Go.Proofs.YtfcpaakdnpeomaaGreatDoor
namespace WaitN
theorem knl : run E0 1000000 knc2 = true := by kernel_rfl
theorem runKnown : startB E0 (11405 + (10859 + (10789 + 1000000))) E1.sum [] (initH gs) (Key.ofNat 30) = true := startB_split knp0 (run_split knp1 (run_split knp2 knl))
end WaitN
end Go.Proofs.YtfcpaakdnpeomaaGreatDoor
