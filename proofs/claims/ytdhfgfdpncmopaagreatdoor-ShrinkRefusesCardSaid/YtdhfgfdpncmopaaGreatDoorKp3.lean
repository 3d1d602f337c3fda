/- known(): pieces of its run. -/
import Derived.Test.YtdhfgfdpncmopaaGreatDoorKn
import Derived.KernelRfl
set_option warn.classDefReducibility false
set_option linter.unusedVariables false
set_option linter.unusedSectionVars false
set_option linter.unusedSimpArgs false
open Go Go.Ev Go.Proofs
namespace Go.Proofs.YtdhfgfdpncmopaaGreatDoor
namespace Shrink
noncomputable section
theorem kh6 : gcH kks6 knc6.hp = knc6.hp := by kernel_rfl
theorem kp6 : pieceT E0 10014 kks6 [(.mk .d1 .d1 .d1 .d0 .d5)] knc6 knc5 = some (headE (lpG [(.mk .d1 .d1 .d1 .d0 .d5)]) knc6) := by kernel_rfl
theorem kh7 : gcH kks7 knc7.hp = knc7.hp := by kernel_rfl
theorem kp7 : pieceT E0 9989 kks7 [(.mk .d1 .d1 .d1 .d0 .d5)] knc7 knc6 = some (headE (lpG [(.mk .d1 .d1 .d1 .d0 .d5)]) knc7) := by kernel_rfl
end
end Shrink
end Go.Proofs.YtdhfgfdpncmopaaGreatDoor
