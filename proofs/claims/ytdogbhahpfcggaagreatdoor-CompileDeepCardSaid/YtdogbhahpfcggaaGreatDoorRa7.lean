/- The run of CompileDeep comes to true: depth 0 to 14, kind of part 3. -/
import Derived.Test.YtdogbhahpfcggaaGreatDoorS1
open Go Go.Ev
namespace Go.Proofs.YtdogbhahpfcggaaGreatDoor
namespace Deep
theorem run0_3 : startB E1 100000 3 [.int .i64 (.ofNat 0), .md 4 3] (initH gs) (Key.ofNat 30) = true := by kernel_rfl
theorem run1_3 : startB E1 100000 3 [.int .i64 (.ofNat 1), .md 4 3] (initH gs) (Key.ofNat 30) = true := by kernel_rfl
theorem run2_3 : startB E1 100000 3 [.int .i64 (.ofNat 2), .md 4 3] (initH gs) (Key.ofNat 30) = true := by kernel_rfl
theorem run3_3 : startB E1 100000 3 [.int .i64 (.ofNat 3), .md 4 3] (initH gs) (Key.ofNat 30) = true := by kernel_rfl
theorem run4_3 : startB E1 100000 3 [.int .i64 (.ofNat 4), .md 4 3] (initH gs) (Key.ofNat 30) = true := by kernel_rfl
theorem run5_3 : startB E1 100000 3 [.int .i64 (.ofNat 5), .md 4 3] (initH gs) (Key.ofNat 30) = true := by kernel_rfl
theorem run6_3 : startB E1 100000 3 [.int .i64 (.ofNat 6), .md 4 3] (initH gs) (Key.ofNat 30) = true := by kernel_rfl
theorem run7_3 : startB E1 100000 3 [.int .i64 (.ofNat 7), .md 4 3] (initH gs) (Key.ofNat 30) = true := by kernel_rfl
theorem run8_3 : startB E1 100000 3 [.int .i64 (.ofNat 8), .md 4 3] (initH gs) (Key.ofNat 30) = true := by kernel_rfl
theorem run9_3 : startB E1 100000 3 [.int .i64 (.ofNat 9), .md 4 3] (initH gs) (Key.ofNat 30) = true := by kernel_rfl
theorem run10_3 : startB E1 100000 3 [.int .i64 (.ofNat 10), .md 4 3] (initH gs) (Key.ofNat 30) = true := by kernel_rfl
theorem run11_3 : startB E1 100000 3 [.int .i64 (.ofNat 11), .md 4 3] (initH gs) (Key.ofNat 30) = true := by kernel_rfl
theorem run12_3 : startB E1 100000 3 [.int .i64 (.ofNat 12), .md 4 3] (initH gs) (Key.ofNat 30) = true := by kernel_rfl
theorem run13_3 : startB E1 100000 3 [.int .i64 (.ofNat 13), .md 4 3] (initH gs) (Key.ofNat 30) = true := by kernel_rfl
theorem run14_3 : startB E1 100000 3 [.int .i64 (.ofNat 14), .md 4 3] (initH gs) (Key.ofNat 30) = true := by kernel_rfl
end Deep
end Go.Proofs.YtdogbhahpfcggaaGreatDoor
