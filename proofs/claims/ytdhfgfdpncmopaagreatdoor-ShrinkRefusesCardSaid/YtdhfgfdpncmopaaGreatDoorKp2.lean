/- known(): pieces of its run. -/
import Derived.Test.YtdhfgfdpncmopaaGreatDoorKn
import Derived.KernelRfl
set_option warn.classDefReducibility false
set_option linter.unusedVariables false
set_option linter.unusedSectionVars false
set_option linter.unusedSimpArgs false
open Go Go.Ev Go.Proofs
namespace Go.Proofs.YtdhfgfdpncmopaaGreatDoor
namespace Shrink
noncomputable section
theorem kh4 : gcH kks4 knc4.hp = knc4.hp := by kernel_rfl
theorem kp4 : pieceT E0 11848 kks4 [] knc4 knc3 = some (headE (lpG []) knc4) := by kernel_rfl
theorem kh5 : gcH kks5 knc5.hp = knc5.hp := by kernel_rfl
theorem kp5 : pieceT E0 12358 kks5 [(.mk .d1 .d1 .d1 .d0 .d5)] knc5 knc4 = some (headE (lpG [(.mk .d1 .d1 .d1 .d0 .d5)]) knc5) := by kernel_rfl
end
end Shrink
end Go.Proofs.YtdhfgfdpncmopaaGreatDoor
