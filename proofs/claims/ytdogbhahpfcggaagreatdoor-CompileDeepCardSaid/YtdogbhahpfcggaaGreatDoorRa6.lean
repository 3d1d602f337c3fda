/- The run of CompileDeep comes to true: depth 15 to 30, kind of part 2. -/
import Derived.Test.YtdogbhahpfcggaaGreatDoorS1
open Go Go.Ev
namespace Go.Proofs.YtdogbhahpfcggaaGreatDoor
namespace Deep
theorem run15_2 : startB E1 100000 3 [.int .i64 (.ofNat 15), .md 4 2] (initH gs) (Key.ofNat 30) = true := by kernel_rfl
theorem run16_2 : startB E1 100000 3 [.int .i64 (.ofNat 16), .md 4 2] (initH gs) (Key.ofNat 30) = true := by kernel_rfl
theorem run17_2 : startB E1 100000 3 [.int .i64 (.ofNat 17), .md 4 2] (initH gs) (Key.ofNat 30) = true := by kernel_rfl
theorem run18_2 : startB E1 100000 3 [.int .i64 (.ofNat 18), .md 4 2] (initH gs) (Key.ofNat 30) = true := by kernel_rfl
theorem run19_2 : startB E1 100000 3 [.int .i64 (.ofNat 19), .md 4 2] (initH gs) (Key.ofNat 30) = true := by kernel_rfl
theorem run20_2 : startB E1 100000 3 [.int .i64 (.ofNat 20), .md 4 2] (initH gs) (Key.ofNat 30) = true := by kernel_rfl
theorem run21_2 : startB E1 100000 3 [.int .i64 (.ofNat 21), .md 4 2] (initH gs) (Key.ofNat 30) = true := by kernel_rfl
theorem run22_2 : startB E1 100000 3 [.int .i64 (.ofNat 22), .md 4 2] (initH gs) (Key.ofNat 30) = true := by kernel_rfl
theorem run23_2 : startB E1 100000 3 [.int .i64 (.ofNat 23), .md 4 2] (initH gs) (Key.ofNat 30) = true := by kernel_rfl
theorem run24_2 : startB E1 100000 3 [.int .i64 (.ofNat 24), .md 4 2] (initH gs) (Key.ofNat 30) = true := by kernel_rfl
theorem run25_2 : startB E1 100000 3 [.int .i64 (.ofNat 25), .md 4 2] (initH gs) (Key.ofNat 30) = true := by kernel_rfl
theorem run26_2 : startB E1 100000 3 [.int .i64 (.ofNat 26), .md 4 2] (initH gs) (Key.ofNat 30) = true := by kernel_rfl
theorem run27_2 : startB E1 100000 3 [.int .i64 (.ofNat 27), .md 4 2] (initH gs) (Key.ofNat 30) = true := by kernel_rfl
theorem run28_2 : startB E1 100000 3 [.int .i64 (.ofNat 28), .md 4 2] (initH gs) (Key.ofNat 30) = true := by kernel_rfl
theorem run29_2 : startB E1 100000 3 [.int .i64 (.ofNat 29), .md 4 2] (initH gs) (Key.ofNat 30) = true := by kernel_rfl
theorem run30_2 : startB E1 100000 3 [.int .i64 (.ofNat 30), .md 4 2] (initH gs) (Key.ofNat 30) = true := by kernel_rfl
end Deep
end Go.Proofs.YtdogbhahpfcggaaGreatDoor
