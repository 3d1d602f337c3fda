/- known(): pieces of its run. -/
import Derived.Test.YtdhfgfdpncmopaaGreatDoorKn
import Derived.KernelRfl
set_option warn.classDefReducibility false
set_option linter.unusedVariables false
set_option linter.unusedSectionVars false
set_option linter.unusedSimpArgs false
open Go Go.Ev Go.Proofs
namespace Go.Proofs.YtdhfgfdpncmopaaGreatDoor
namespace Shrink
noncomputable section
theorem kh12 : gcH kks12 knc12.hp = knc12.hp := by kernel_rfl
theorem kp12 : pieceT E0 12117 kks12 [] knc12 knc11 = some (headE (lpG []) knc12) := by kernel_rfl
theorem kl : run E0 1000000 knc12 = true := by kernel_rfl
end
end Shrink
end Go.Proofs.YtdhfgfdpncmopaaGreatDoor
