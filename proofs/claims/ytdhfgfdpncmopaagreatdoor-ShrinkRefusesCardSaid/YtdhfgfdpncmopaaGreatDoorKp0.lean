/- known(): pieces of its run. -/
import Derived.Test.YtdhfgfdpncmopaaGreatDoorKn
import Derived.KernelRfl
set_option warn.classDefReducibility false
set_option linter.unusedVariables false
set_option linter.unusedSectionVars false
set_option linter.unusedSimpArgs false
open Go Go.Ev Go.Proofs
namespace Go.Proofs.YtdhfgfdpncmopaaGreatDoor
namespace Shrink
noncomputable section
theorem kh0 : gcH kks0 knc0.hp = knc0.hp := by kernel_rfl
theorem kp0 : startT E0 9251 kks0 [] knc0 [] (initHv gs []) (Key.ofNat 30) = some (headE (lpG []) knc0) := by kernel_rfl
theorem kh1 : gcH kks1 knc1.hp = knc1.hp := by kernel_rfl
theorem kp1 : pieceT E0 14866 kks1 [] knc1 knc0 = some (headE (lpG []) knc1) := by kernel_rfl
end
end Shrink
end Go.Proofs.YtdhfgfdpncmopaaGreatDoor
