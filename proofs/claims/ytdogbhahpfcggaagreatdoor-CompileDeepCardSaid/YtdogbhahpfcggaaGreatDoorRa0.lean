/- The run of known comes to true, and the runs of CompileDeep at arguments that it does not take. -/
import Derived.Test.YtdogbhahpfcggaaGreatDoorS1
open Go Go.Ev
namespace Go.Proofs.YtdogbhahpfcggaaGreatDoor
namespace Deep
theorem runKnown : startB E0 100000 4 [] (initH gs) (Key.ofNat 30) = true := by kernel_rfl
theorem runLow : startB E1 100000 3 [.rng .i64 (-9223372036854775808) (-1), .any] (initH gs) (Key.ofNat 30) = true := by kernel_rfl
theorem runHigh : startB E1 100000 3 [.rng .i64 31 9223372036854775807, .any] (initH gs) (Key.ofNat 30) = true := by kernel_rfl
theorem runNeg : startB E1 100000 3 [.rng .i64 0 30, .rng .i64 (-9223372036854775808) (-1)] (initH gs) (Key.ofNat 30) = true := by kernel_rfl
end Deep
end Go.Proofs.YtdogbhahpfcggaaGreatDoor
