/- known(): its run comes to true. -/
import Derived.Test.YtiofeejnmnfbiaaGreatDoorKa0
open Go Go.Ev Go.Proofs
namespace Go.Proofs.YtiofeejnmnfbiaaGreatDoor
namespace Same
theorem knl : run E0 1000000 knc0 = true := by kernel_rfl
theorem runKnown : startB E0 (9901 + 1000000) E1.sum [] (initH gs) (Key.ofNat 30) = true := startB_split knp0 knl
end Same
end Go.Proofs.YtiofeejnmnfbiaaGreatDoor
