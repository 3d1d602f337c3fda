/- The law, from the loop on: its run comes to true. -/
import Derived.Test.YtljcpclabnamjaaGreatDoorL2
open Go Go.Ev Go.Proofs
namespace Go.Proofs.YtljcpclabnamjaaGreatDoor
namespace Brk
theorem lc3l : run E1 1000000 (lcc0 3) = true := by kernel_rfl
theorem lc3 : startB E1 (14912 + 1000000) 3 [I 0, .rng .i64 0 70, I 3] (initH gs) (Key.ofNat 30) = true := startB_split (lcp 3) lc3l
theorem lc4l : run E1 1000000 (lcc0 4) = true := by kernel_rfl
theorem lc4 : startB E1 (14912 + 1000000) 3 [I 0, .rng .i64 0 70, I 4] (initH gs) (Key.ofNat 30) = true := startB_split (lcp 4) lc4l
theorem lc5l : run E1 1000000 (lcc0 5) = true := by kernel_rfl
theorem lc5 : startB E1 (14912 + 1000000) 3 [I 0, .rng .i64 0 70, I 5] (initH gs) (Key.ofNat 30) = true := startB_split (lcp 5) lc5l
end Brk
end Go.Proofs.YtljcpclabnamjaaGreatDoor
