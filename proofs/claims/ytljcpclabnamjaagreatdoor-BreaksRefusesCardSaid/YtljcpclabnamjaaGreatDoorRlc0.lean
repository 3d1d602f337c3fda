/- The law, from the loop on: its run comes to true. -/
import Derived.Test.YtljcpclabnamjaaGreatDoorL2
open Go Go.Ev Go.Proofs
namespace Go.Proofs.YtljcpclabnamjaaGreatDoor
namespace Brk
theorem lc0l : run E1 1000000 (lcc0 0) = true := by kernel_rfl
theorem lc0 : startB E1 (14912 + 1000000) 3 [I 0, .rng .i64 0 70, I 0] (initH gs) (Key.ofNat 30) = true := startB_split (lcp 0) lc0l
theorem lc1l : run E1 1000000 (lcc0 1) = true := by kernel_rfl
theorem lc1 : startB E1 (14912 + 1000000) 3 [I 0, .rng .i64 0 70, I 1] (initH gs) (Key.ofNat 30) = true := startB_split (lcp 1) lc1l
theorem lc2l : run E1 1000000 (lcc0 2) = true := by kernel_rfl
theorem lc2 : startB E1 (14912 + 1000000) 3 [I 0, .rng .i64 0 70, I 2] (initH gs) (Key.ofNat 30) = true := startB_split (lcp 2) lc2l
end Brk
end Go.Proofs.YtljcpclabnamjaaGreatDoor
