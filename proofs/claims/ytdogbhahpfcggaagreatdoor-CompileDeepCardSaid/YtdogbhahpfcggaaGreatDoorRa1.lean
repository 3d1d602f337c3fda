/- The run of CompileDeep comes to true: depth 0 to 14, kind of part 0. -/
import Derived.Test.YtdogbhahpfcggaaGreatDoorS1
open Go Go.Ev
namespace Go.Proofs.YtdogbhahpfcggaaGreatDoor
namespace Deep
theorem run0_0 : startB E1 100000 3 [.int .i64 (.ofNat 0), .md 4 0] (initH gs) (Key.ofNat 30) = true := by kernel_rfl
theorem run1_0 : startB E1 100000 3 [.int .i64 (.ofNat 1), .md 4 0] (initH gs) (Key.ofNat 30) = true := by kernel_rfl
theorem run2_0 : startB E1 100000 3 [.int .i64 (.ofNat 2), .md 4 0] (initH gs) (Key.ofNat 30) = true := by kernel_rfl
theorem run3_0 : startB E1 100000 3 [.int .i64 (.ofNat 3), .md 4 0] (initH gs) (Key.ofNat 30) = true := by kernel_rfl
theorem run4_0 : startB E1 100000 3 [.int .i64 (.ofNat 4), .md 4 0] (initH gs) (Key.ofNat 30) = true := by kernel_rfl
theorem run5_0 : startB E1 100000 3 [.int .i64 (.ofNat 5), .md 4 0] (initH gs) (Key.ofNat 30) = true := by kernel_rfl
theorem run6_0 : startB E1 100000 3 [.int .i64 (.ofNat 6), .md 4 0] (initH gs) (Key.ofNat 30) = true := by kernel_rfl
theorem run7_0 : startB E1 100000 3 [.int .i64 (.ofNat 7), .md 4 0] (initH gs) (Key.ofNat 30) = true := by kernel_rfl
theorem run8_0 : startB E1 100000 3 [.int .i64 (.ofNat 8), .md 4 0] (initH gs) (Key.ofNat 30) = true := by kernel_rfl
theorem run9_0 : startB E1 100000 3 [.int .i64 (.ofNat 9), .md 4 0] (initH gs) (Key.ofNat 30) = true := by kernel_rfl
theorem run10_0 : startB E1 100000 3 [.int .i64 (.ofNat 10), .md 4 0] (initH gs) (Key.ofNat 30) = true := by kernel_rfl
theorem run11_0 : startB E1 100000 3 [.int .i64 (.ofNat 11), .md 4 0] (initH gs) (Key.ofNat 30) = true := by kernel_rfl
theorem run12_0 : startB E1 100000 3 [.int .i64 (.ofNat 12), .md 4 0] (initH gs) (Key.ofNat 30) = true := by kernel_rfl
theorem run13_0 : startB E1 100000 3 [.int .i64 (.ofNat 13), .md 4 0] (initH gs) (Key.ofNat 30) = true := by kernel_rfl
theorem run14_0 : startB E1 100000 3 [.int .i64 (.ofNat 14), .md 4 0] (initH gs) (Key.ofNat 30) = true := by kernel_rfl
end Deep
end Go.Proofs.YtdogbhahpfcggaaGreatDoor
