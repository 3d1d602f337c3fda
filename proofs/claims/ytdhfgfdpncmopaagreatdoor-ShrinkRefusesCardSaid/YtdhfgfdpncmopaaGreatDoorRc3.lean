/- ShrinkRefuses: runs of classes. -/
import Derived.Test.YtdhfgfdpncmopaaGreatDoorLa
import Derived.KernelRfl
set_option warn.classDefReducibility false
set_option linter.unusedVariables false
set_option linter.unusedSectionVars false
set_option linter.unusedSimpArgs false
open Go Go.Ev Go.Proofs
namespace Go.Proofs.YtdhfgfdpncmopaaGreatDoor
namespace Shrink
noncomputable section
theorem ch13 : gcH ksP (Hc 1 1 3 3 (.int .i64 3)).hp = (Hc 1 1 3 3 (.int .i64 3)).hp := by kernel_rfl
theorem ce13 : endE E1 (sgC 1 1 3) ksP [] (Hc 1 1 3 3 (.int .i64 3)) lac0 = headE [] (Hc 1 1 3 3 (.int .i64 3)) := by kernel_rfl
theorem cr13 : @turnsC (Fm 1 1 [rz 0]) E1 noHd 100000 (Hc 1 1 3 3 (.int .i64 3)) = some [] := by kernel_rfl
theorem ch14 : gcH ksP (Hc 1 1 4 mx (sK 4 mx)).hp = (Hc 1 1 4 mx (sK 4 mx)).hp := by kernel_rfl
theorem ce14 : endE E1 (sgN 1 1 4 mx) ksP [] (Hc 1 1 4 mx (sK 4 mx)) lac0 = headE [] (Hc 1 1 4 mx (sK 4 mx)) := by kernel_rfl
theorem cr14 : @turnsC (Fm 1 1 [rz 0]) E1 noHd 100000 (Hc 1 1 4 mx (sK 4 mx)) = some [] := by kernel_rfl
end
end Shrink
end Go.Proofs.YtdhfgfdpncmopaaGreatDoor
