/- The law, from the loop on: its run comes to true. -/
import Derived.Test.YtljcpclabnamjaaGreatDoorL0
open Go Go.Ev Go.Proofs
namespace Go.Proofs.YtljcpclabnamjaaGreatDoor
namespace Brk
theorem la3l : run E1 1000000 (lac0 3) = true := by kernel_rfl
theorem la3 : startB E1 (14912 + 1000000) 3 [.int .i64 (.negSucc 0), .rng .i64 0 70, I 3] (initH gs) (Key.ofNat 30) = true := startB_split (lap 3) la3l
theorem la4l : run E1 1000000 (lac0 4) = true := by kernel_rfl
theorem la4 : startB E1 (14912 + 1000000) 3 [.int .i64 (.negSucc 0), .rng .i64 0 70, I 4] (initH gs) (Key.ofNat 30) = true := startB_split (lap 4) la4l
theorem la5l : run E1 1000000 (lac0 5) = true := by kernel_rfl
theorem la5 : startB E1 (14912 + 1000000) 3 [.int .i64 (.negSucc 0), .rng .i64 0 70, I 5] (initH gs) (Key.ofNat 30) = true := startB_split (lap 5) la5l
end Brk
end Go.Proofs.YtljcpclabnamjaaGreatDoor
