/- The law, from the loop on: its run comes to true. -/
import Derived.Test.YtljcpclabnamjaaGreatDoorL1
open Go Go.Ev Go.Proofs
namespace Go.Proofs.YtljcpclabnamjaaGreatDoor
namespace Brk
theorem lb0l : run E1 1000000 (lbc0 (-9223372036854775808) (-1)) = true := by kernel_rfl
theorem lb0 : startB E1 (14912 + 1000000) 3 [.int .i64 (.negSucc 0), .rng .i64 0 70, .rng .i64 (-9223372036854775808) (-1)] (initH gs) (Key.ofNat 30) = true := startB_split (lbp (-9223372036854775808) (-1)) lb0l
theorem lb1l : run E1 1000000 (lbc0 6 9223372036854775807) = true := by kernel_rfl
theorem lb1 : startB E1 (14912 + 1000000) 3 [.int .i64 (.negSucc 0), .rng .i64 0 70, .rng .i64 6 9223372036854775807] (initH gs) (Key.ofNat 30) = true := startB_split (lbp 6 9223372036854775807) lb1l
end Brk
end Go.Proofs.YtljcpclabnamjaaGreatDoor
