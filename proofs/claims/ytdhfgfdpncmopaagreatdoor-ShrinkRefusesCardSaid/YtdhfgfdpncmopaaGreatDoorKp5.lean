/- known(): pieces of its run. -/
import Derived.Test.YtdhfgfdpncmopaaGreatDoorKn
import Derived.KernelRfl
set_option warn.classDefReducibility false
set_option linter.unusedVariables false
set_option linter.unusedSectionVars false
set_option linter.unusedSimpArgs false
open Go Go.Ev Go.Proofs
namespace Go.Proofs.YtdhfgfdpncmopaaGreatDoor
namespace Shrink
noncomputable section
theorem kh10 : gcH kks10 knc10.hp = knc10.hp := by kernel_rfl
theorem kp10 : pieceT E0 14031 kks10 [(.mk .d1 .d1 .d1 .d0 .d5)] knc10 knc9 = some (headE (lpG [(.mk .d1 .d1 .d1 .d0 .d5)]) knc10) := by kernel_rfl
theorem kh11 : gcH kks11 knc11.hp = knc11.hp := by kernel_rfl
theorem kp11 : pieceT E0 7043 kks11 [] knc11 knc10 = some (headE (lpG []) knc11) := by kernel_rfl
end
end Shrink
end Go.Proofs.YtdhfgfdpncmopaaGreatDoor
