/- The law, one pick too many: its run comes to true. -/
import Derived.Test.YtljcpclabnamjaaGreatDoorS1
open Go Go.Ev Go.Proofs
namespace Go.Proofs.YtljcpclabnamjaaGreatDoor
namespace Brk
theorem le0 : startB E1 1000000 3 [I 1, .rng .i64 0 70, I 0] (initH gs) (Key.ofNat 30) = true := by kernel_rfl
theorem le1 : startB E1 1000000 3 [I 1, .rng .i64 0 70, I 1] (initH gs) (Key.ofNat 30) = true := by kernel_rfl
theorem le2 : startB E1 1000000 3 [I 1, .rng .i64 0 70, I 2] (initH gs) (Key.ofNat 30) = true := by kernel_rfl
theorem le3 : startB E1 1000000 3 [I 1, .rng .i64 0 70, I 3] (initH gs) (Key.ofNat 30) = true := by kernel_rfl
theorem le4 : startB E1 1000000 3 [I 1, .rng .i64 0 70, I 4] (initH gs) (Key.ofNat 30) = true := by kernel_rfl
theorem le5 : startB E1 1000000 3 [I 1, .rng .i64 0 70, I 5] (initH gs) (Key.ofNat 30) = true := by kernel_rfl
theorem le6 : startB E1 1000000 3 [I 1, .rng .i64 0 70, .rng .i64 (-9223372036854775808) (-1)] (initH gs) (Key.ofNat 30) = true := by kernel_rfl
theorem le7 : startB E1 1000000 3 [I 1, .rng .i64 0 70, .rng .i64 6 9223372036854775807] (initH gs) (Key.ofNat 30) = true := by kernel_rfl
end Brk
end Go.Proofs.YtljcpclabnamjaaGreatDoor
