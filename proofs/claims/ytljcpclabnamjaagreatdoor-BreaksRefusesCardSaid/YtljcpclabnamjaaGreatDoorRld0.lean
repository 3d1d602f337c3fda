/- The law, from the loop on: its run comes to true. -/
import Derived.Test.YtljcpclabnamjaaGreatDoorL3
open Go Go.Ev Go.Proofs
namespace Go.Proofs.YtljcpclabnamjaaGreatDoor
namespace Brk
theorem ld0l : run E1 1000000 (ldc0 (-9223372036854775808) (-1)) = true := by kernel_rfl
theorem ld0 : startB E1 (14912 + 1000000) 3 [I 0, .rng .i64 0 70, .rng .i64 (-9223372036854775808) (-1)] (initH gs) (Key.ofNat 30) = true := startB_split (ldp (-9223372036854775808) (-1)) ld0l
theorem ld1l : run E1 1000000 (ldc0 6 9223372036854775807) = true := by kernel_rfl
theorem ld1 : startB E1 (14912 + 1000000) 3 [I 0, .rng .i64 0 70, .rng .i64 6 9223372036854775807] (initH gs) (Key.ofNat 30) = true := startB_split (ldp 6 9223372036854775807) ld1l
end Brk
end Go.Proofs.YtljcpclabnamjaaGreatDoor
