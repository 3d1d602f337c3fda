/- The law, from the loop on: its run comes to true. -/
import Derived.Test.YtljcpclabnamjaaGreatDoorL0
open Go Go.Ev Go.Proofs
namespace Go.Proofs.YtljcpclabnamjaaGreatDoor
namespace Brk
theorem la0l : run E1 1000000 (lac0 0) = true := by kernel_rfl
theorem la0 : startB E1 (14912 + 1000000) 3 [.int .i64 (.negSucc 0), .rng .i64 0 70, I 0] (initH gs) (Key.ofNat 30) = true := startB_split (lap 0) la0l
theorem la1l : run E1 1000000 (lac0 1) = true := by kernel_rfl
theorem la1 : startB E1 (14912 + 1000000) 3 [.int .i64 (.negSucc 0), .rng .i64 0 70, I 1] (initH gs) (Key.ofNat 30) = true := startB_split (lap 1) la1l
theorem la2l : run E1 1000000 (lac0 2) = true := by kernel_rfl
theorem la2 : startB E1 (14912 + 1000000) 3 [.int .i64 (.negSucc 0), .rng .i64 0 70, I 2] (initH gs) (Key.ofNat 30) = true := startB_split (lap 2) la2l
end Brk
end Go.Proofs.YtljcpclabnamjaaGreatDoor
