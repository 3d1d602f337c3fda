/- known(): its run comes to true. -/
import Derived.Test.YtmcnmflbmjidiaaGreatDoorKa0
open Go Go.Ev Go.Proofs
namespace Go.Proofs.YtmcnmflbmjidiaaGreatDoor
namespace MachN
theorem knl : run E0 1000000 knc0 = true := by kernel_rfl
theorem runKnown : startB E0 (7590 + 1000000) E1.sum [] (initH gs) (Key.ofNat 30) = true := startB_split knp0 knl
end MachN
end Go.Proofs.YtmcnmflbmjidiaaGreatDoor
