/- known(): pieces of its run. -/
import Derived.Test.YtdhfgfdpncmopaaGreatDoorKn
import Derived.KernelRfl
set_option warn.classDefReducibility false
set_option linter.unusedVariables false
set_option linter.unusedSectionVars false
set_option linter.unusedSimpArgs false
open Go Go.Ev Go.Proofs
namespace Go.Proofs.YtdhfgfdpncmopaaGreatDoor
namespace Shrink
noncomputable section
theorem kh2 : gcH kks2 knc2.hp = knc2.hp := by kernel_rfl
theorem kp2 : pieceT E0 10194 kks2 [] knc2 knc1 = some (headE (lpG []) knc2) := by kernel_rfl
theorem kh3 : gcH kks3 knc3.hp = knc3.hp := by kernel_rfl
theorem kp3 : pieceT E0 12117 kks3 [] knc3 knc2 = some (headE (lpG []) knc3) := by kernel_rfl
end
end Shrink
end Go.Proofs.YtdhfgfdpncmopaaGreatDoor
