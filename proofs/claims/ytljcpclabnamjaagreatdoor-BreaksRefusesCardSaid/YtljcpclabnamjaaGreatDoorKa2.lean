/- known(): its run comes to true. -/
import Derived.Test.YtljcpclabnamjaaGreatDoorKa1
open Go Go.Ev Go.Proofs
namespace Go.Proofs.YtljcpclabnamjaaGreatDoor
namespace Brk
theorem knl : run E0 1000000 knc1 = true := by kernel_rfl
theorem runKnown : startB E0 (10153 + (10681 + 1000000)) E1.sum [] (initH gs) (Key.ofNat 30) = true := startB_split knp0 (run_split knp1 knl)
end Brk
end Go.Proofs.YtljcpclabnamjaaGreatDoor
