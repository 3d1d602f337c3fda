/- The run of CompileDeep comes to true: depth 15 to 30, kind of part 0. -/
import Derived.Test.YtdogbhahpfcggaaGreatDoorS1
open Go Go.Ev
namespace Go.Proofs.YtdogbhahpfcggaaGreatDoor
namespace Deep
theorem run15_0 : startB E1 100000 3 [.int .i64 (.ofNat 15), .md 4 0] (initH gs) (Key.ofNat 30) = true := by kernel_rfl
theorem run16_0 : startB E1 100000 3 [.int .i64 (.ofNat 16), .md 4 0] (initH gs) (Key.ofNat 30) = true := by kernel_rfl
theorem run17_0 : startB E1 100000 3 [.int .i64 (.ofNat 17), .md 4 0] (initH gs) (Key.ofNat 30) = true := by kernel_rfl
theorem run18_0 : startB E1 100000 3 [.int .i64 (.ofNat 18), .md 4 0] (initH gs) (Key.ofNat 30) = true := by kernel_rfl
theorem run19_0 : startB E1 100000 3 [.int .i64 (.ofNat 19), .md 4 0] (initH gs) (Key.ofNat 30) = true := by kernel_rfl
theorem run20_0 : startB E1 100000 3 [.int .i64 (.ofNat 20), .md 4 0] (initH gs) (Key.ofNat 30) = true := by kernel_rfl
theorem run21_0 : startB E1 100000 3 [.int .i64 (.ofNat 21), .md 4 0] (initH gs) (Key.ofNat 30) = true := by kernel_rfl
theorem run22_0 : startB E1 100000 3 [.int .i64 (.ofNat 22), .md 4 0] (initH gs) (Key.ofNat 30) = true := by kernel_rfl
theorem run23_0 : startB E1 100000 3 [.int .i64 (.ofNat 23), .md 4 0] (initH gs) (Key.ofNat 30) = true := by kernel_rfl
theorem run24_0 : startB E1 100000 3 [.int .i64 (.ofNat 24), .md 4 0] (initH gs) (Key.ofNat 30) = true := by kernel_rfl
theorem run25_0 : startB E1 100000 3 [.int .i64 (.ofNat 25), .md 4 0] (initH gs) (Key.ofNat 30) = true := by kernel_rfl
theorem run26_0 : startB E1 100000 3 [.int .i64 (.ofNat 26), .md 4 0] (initH gs) (Key.ofNat 30) = true := by kernel_rfl
theorem run27_0 : startB E1 100000 3 [.int .i64 (.ofNat 27), .md 4 0] (initH gs) (Key.ofNat 30) = true := by kernel_rfl
theorem run28_0 : startB E1 100000 3 [.int .i64 (.ofNat 28), .md 4 0] (initH gs) (Key.ofNat 30) = true := by kernel_rfl
theorem run29_0 : startB E1 100000 3 [.int .i64 (.ofNat 29), .md 4 0] (initH gs) (Key.ofNat 30) = true := by kernel_rfl
theorem run30_0 : startB E1 100000 3 [.int .i64 (.ofNat 30), .md 4 0] (initH gs) (Key.ofNat 30) = true := by kernel_rfl
end Deep
end Go.Proofs.YtdogbhahpfcggaaGreatDoor
