/- known(): pieces of its run. -/
import Derived.Test.YtdhfgfdpncmopaaGreatDoorKn
import Derived.KernelRfl
set_option warn.classDefReducibility false
set_option linter.unusedVariables false
set_option linter.unusedSectionVars false
set_option linter.unusedSimpArgs false
open Go Go.Ev Go.Proofs
namespace Go.Proofs.YtdhfgfdpncmopaaGreatDoor
namespace Shrink
noncomputable section
theorem kh8 : gcH kks8 knc8.hp = knc8.hp := by kernel_rfl
theorem kp8 : pieceT E0 9636 kks8 [(.mk .d1 .d1 .d1 .d0 .d5)] knc8 knc7 = some (headE (lpG [(.mk .d1 .d1 .d1 .d0 .d5)]) knc8) := by kernel_rfl
theorem kh9 : gcH kks9 knc9.hp = knc9.hp := by kernel_rfl
theorem kp9 : pieceT E0 15255 kks9 [(.mk .d1 .d1 .d1 .d0 .d5)] knc9 knc8 = some (headE (lpG [(.mk .d1 .d1 .d1 .d0 .d5)]) knc9) := by kernel_rfl
end
end Shrink
end Go.Proofs.YtdhfgfdpncmopaaGreatDoor
