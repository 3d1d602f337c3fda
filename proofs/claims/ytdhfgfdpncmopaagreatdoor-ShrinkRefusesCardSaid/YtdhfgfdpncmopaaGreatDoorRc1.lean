/- ShrinkRefuses: runs of classes. -/
import Derived.Test.YtdhfgfdpncmopaaGreatDoorLa
import Derived.KernelRfl
set_option warn.classDefReducibility false
set_option linter.unusedVariables false
set_option linter.unusedSectionVars false
set_option linter.unusedSimpArgs false
open Go Go.Ev Go.Proofs
namespace Go.Proofs.YtdhfgfdpncmopaaGreatDoor
namespace Shrink
noncomputable section
theorem ch03 : gcH ksP (Hc 0 0 3 3 (.int .i64 3)).hp = (Hc 0 0 3 3 (.int .i64 3)).hp := by kernel_rfl
theorem ce03 : endE E1 (sgC 0 0 3) ksP [] (Hc 0 0 3 3 (.int .i64 3)) lac0 = headE [] (Hc 0 0 3 3 (.int .i64 3)) := by kernel_rfl
theorem cr03 : @turnsC (Fm 0 0 []) E1 noHd 100000 (Hc 0 0 3 3 (.int .i64 3)) = some [] := by kernel_rfl
theorem ch04 : gcH ksP (Hc 0 0 4 mx (sK 4 mx)).hp = (Hc 0 0 4 mx (sK 4 mx)).hp := by kernel_rfl
theorem ce04 : endE E1 (sgN 0 0 4 mx) ksP [] (Hc 0 0 4 mx (sK 4 mx)) lac0 = headE [] (Hc 0 0 4 mx (sK 4 mx)) := by kernel_rfl
theorem cr04 : @turnsC (Fm 0 0 []) E1 noHd 100000 (Hc 0 0 4 mx (sK 4 mx)) = some [] := by kernel_rfl
end
end Shrink
end Go.Proofs.YtdhfgfdpncmopaaGreatDoor
