/- The run of CompileDeep comes to true: depth 15 to 30, kind of part 1. -/
import Derived.Test.YtdogbhahpfcggaaGreatDoorS1
open Go Go.Ev
namespace Go.Proofs.YtdogbhahpfcggaaGreatDoor
namespace Deep
theorem run15_1 : startB E1 100000 3 [.int .i64 (.ofNat 15), .md 4 1] (initH gs) (Key.ofNat 30) = true := by kernel_rfl
theorem run16_1 : startB E1 100000 3 [.int .i64 (.ofNat 16), .md 4 1] (initH gs) (Key.ofNat 30) = true := by kernel_rfl
theorem run17_1 : startB E1 100000 3 [.int .i64 (.ofNat 17), .md 4 1] (initH gs) (Key.ofNat 30) = true := by kernel_rfl
theorem run18_1 : startB E1 100000 3 [.int .i64 (.ofNat 18), .md 4 1] (initH gs) (Key.ofNat 30) = true := by kernel_rfl
theorem run19_1 : startB E1 100000 3 [.int .i64 (.ofNat 19), .md 4 1] (initH gs) (Key.ofNat 30) = true := by kernel_rfl
theorem run20_1 : startB E1 100000 3 [.int .i64 (.ofNat 20), .md 4 1] (initH gs) (Key.ofNat 30) = true := by kernel_rfl
theorem run21_1 : startB E1 100000 3 [.int .i64 (.ofNat 21), .md 4 1] (initH gs) (Key.ofNat 30) = true := by kernel_rfl
theorem run22_1 : startB E1 100000 3 [.int .i64 (.ofNat 22), .md 4 1] (initH gs) (Key.ofNat 30) = true := by kernel_rfl
theorem run23_1 : startB E1 100000 3 [.int .i64 (.ofNat 23), .md 4 1] (initH gs) (Key.ofNat 30) = true := by kernel_rfl
theorem run24_1 : startB E1 100000 3 [.int .i64 (.ofNat 24), .md 4 1] (initH gs) (Key.ofNat 30) = true := by kernel_rfl
theorem run25_1 : startB E1 100000 3 [.int .i64 (.ofNat 25), .md 4 1] (initH gs) (Key.ofNat 30) = true := by kernel_rfl
theorem run26_1 : startB E1 100000 3 [.int .i64 (.ofNat 26), .md 4 1] (initH gs) (Key.ofNat 30) = true := by kernel_rfl
theorem run27_1 : startB E1 100000 3 [.int .i64 (.ofNat 27), .md 4 1] (initH gs) (Key.ofNat 30) = true := by kernel_rfl
theorem run28_1 : startB E1 100000 3 [.int .i64 (.ofNat 28), .md 4 1] (initH gs) (Key.ofNat 30) = true := by kernel_rfl
theorem run29_1 : startB E1 100000 3 [.int .i64 (.ofNat 29), .md 4 1] (initH gs) (Key.ofNat 30) = true := by kernel_rfl
theorem run30_1 : startB E1 100000 3 [.int .i64 (.ofNat 30), .md 4 1] (initH gs) (Key.ofNat 30) = true := by kernel_rfl
end Deep
end Go.Proofs.YtdogbhahpfcggaaGreatDoor
