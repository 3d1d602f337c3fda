/- A run of the law comes to true. -/
import Derived.Test.YtfcpaakdnpeomaaGreatDoorS1
open Go Go.Ev Go.Proofs
namespace Go.Proofs.YtfcpaakdnpeomaaGreatDoor
namespace WaitN
theorem runA : startB E1 1000000 3 [.any] (initH gs) (Key.ofNat 30) = true := by kernel_rfl
end WaitN
end Go.Proofs.YtfcpaakdnpeomaaGreatDoor
