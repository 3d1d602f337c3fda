/- The law, picks that may not be asked for: its run comes to true. -/
import Derived.Test.YtljcpclabnamjaaGreatDoorS1
open Go Go.Ev Go.Proofs
namespace Go.Proofs.YtljcpclabnamjaaGreatDoor
namespace Brk
theorem lf0 : startB E1 1000000 3 [.rng .i64 (-9223372036854775808) (-2), .any, .any] (initH gs) (Key.ofNat 30) = true := by kernel_rfl
theorem lf1 : startB E1 1000000 3 [.rng .i64 2 9223372036854775807, .any, .any] (initH gs) (Key.ofNat 30) = true := by kernel_rfl
theorem lf2 : startB E1 1000000 3 [.rng .i64 (-1) 1, .rng .i64 (-9223372036854775808) (-1), .any] (initH gs) (Key.ofNat 30) = true := by kernel_rfl
theorem lf3 : startB E1 1000000 3 [.rng .i64 (-1) 1, .rng .i64 71 9223372036854775807, .any] (initH gs) (Key.ofNat 30) = true := by kernel_rfl
end Brk
end Go.Proofs.YtljcpclabnamjaaGreatDoor
