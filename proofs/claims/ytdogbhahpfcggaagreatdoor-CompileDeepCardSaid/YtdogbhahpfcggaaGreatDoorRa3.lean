/- The run of CompileDeep comes to true: depth 0 to 14, kind of part 1. -/
import Derived.Test.YtdogbhahpfcggaaGreatDoorS1
open Go Go.Ev
namespace Go.Proofs.YtdogbhahpfcggaaGreatDoor
namespace Deep
theorem run0_1 : startB E1 100000 3 [.int .i64 (.ofNat 0), .md 4 1] (initH gs) (Key.ofNat 30) = true := by kernel_rfl
theorem run1_1 : startB E1 100000 3 [.int .i64 (.ofNat 1), .md 4 1] (initH gs) (Key.ofNat 30) = true := by kernel_rfl
theorem run2_1 : startB E1 100000 3 [.int .i64 (.ofNat 2), .md 4 1] (initH gs) (Key.ofNat 30) = true := by kernel_rfl
theorem run3_1 : startB E1 100000 3 [.int .i64 (.ofNat 3), .md 4 1] (initH gs) (Key.ofNat 30) = true := by kernel_rfl
theorem run4_1 : startB E1 100000 3 [.int .i64 (.ofNat 4), .md 4 1] (initH gs) (Key.ofNat 30) = true := by kernel_rfl
theorem run5_1 : startB E1 100000 3 [.int .i64 (.ofNat 5), .md 4 1] (initH gs) (Key.ofNat 30) = true := by kernel_rfl
theorem run6_1 : startB E1 100000 3 [.int .i64 (.ofNat 6), .md 4 1] (initH gs) (Key.ofNat 30) = true := by kernel_rfl
theorem run7_1 : startB E1 100000 3 [.int .i64 (.ofNat 7), .md 4 1] (initH gs) (Key.ofNat 30) = true := by kernel_rfl
theorem run8_1 : startB E1 100000 3 [.int .i64 (.ofNat 8), .md 4 1] (initH gs) (Key.ofNat 30) = true := by kernel_rfl
theorem run9_1 : startB E1 100000 3 [.int .i64 (.ofNat 9), .md 4 1] (initH gs) (Key.ofNat 30) = true := by kernel_rfl
theorem run10_1 : startB E1 100000 3 [.int .i64 (.ofNat 10), .md 4 1] (initH gs) (Key.ofNat 30) = true := by kernel_rfl
theorem run11_1 : startB E1 100000 3 [.int .i64 (.ofNat 11), .md 4 1] (initH gs) (Key.ofNat 30) = true := by kernel_rfl
theorem run12_1 : startB E1 100000 3 [.int .i64 (.ofNat 12), .md 4 1] (initH gs) (Key.ofNat 30) = true := by kernel_rfl
theorem run13_1 : startB E1 100000 3 [.int .i64 (.ofNat 13), .md 4 1] (initH gs) (Key.ofNat 30) = true := by kernel_rfl
theorem run14_1 : startB E1 100000 3 [.int .i64 (.ofNat 14), .md 4 1] (initH gs) (Key.ofNat 30) = true := by kernel_rfl
end Deep
end Go.Proofs.YtdogbhahpfcggaaGreatDoor
