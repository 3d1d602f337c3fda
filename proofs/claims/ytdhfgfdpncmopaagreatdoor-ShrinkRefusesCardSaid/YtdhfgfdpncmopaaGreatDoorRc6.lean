/- ShrinkRefuses: runs of classes. -/
import Derived.Test.YtdhfgfdpncmopaaGreatDoorLa
import Derived.KernelRfl
set_option warn.classDefReducibility false
set_option linter.unusedVariables false
set_option linter.unusedSectionVars false
set_option linter.unusedSimpArgs false
open Go Go.Ev Go.Proofs
namespace Go.Proofs.YtdhfgfdpncmopaaGreatDoor
namespace Shrink
noncomputable section
theorem ch24 : gcH ksP (Hc 2 60 4 mx (sK 4 mx)).hp = (Hc 2 60 4 mx (sK 4 mx)).hp := by kernel_rfl
theorem ce24 : endE E1 (sgN 2 60 4 mx) ksP [] (Hc 2 60 4 mx (sK 4 mx)) lac0 = headE [] (Hc 2 60 4 mx (sK 4 mx)) := by kernel_rfl
theorem cr24 : @turnsC (Fm 2 60 [rz 0, rz 1]) E1 noHd 100000 (Hc 2 60 4 mx (sK 4 mx)) = some [] := by kernel_rfl
theorem ch33 : gcH ksP (Hc 61 70 3 3 (.int .i64 3)).hp = (Hc 61 70 3 3 (.int .i64 3)).hp := by kernel_rfl
theorem ce33 : endE E1 (sgC 61 70 3) ksP [] (Hc 61 70 3 3 (.int .i64 3)) lac0 = headE [] (Hc 61 70 3 3 (.int .i64 3)) := by kernel_rfl
theorem cr33 : @turnsC (Fm 61 70 [rz 0, rz 1]) E1 noHd 100000 (Hc 61 70 3 3 (.int .i64 3)) = some [] := by kernel_rfl
theorem ch34 : gcH ksP (Hc 61 70 4 mx (sK 4 mx)).hp = (Hc 61 70 4 mx (sK 4 mx)).hp := by kernel_rfl
theorem ce34 : endE E1 (sgN 61 70 4 mx) ksP [] (Hc 61 70 4 mx (sK 4 mx)) lac0 = headE [] (Hc 61 70 4 mx (sK 4 mx)) := by kernel_rfl
theorem cr34 : @turnsC (Fm 61 70 [rz 0, rz 1]) E1 noHd 100000 (Hc 61 70 4 mx (sK 4 mx)) = some [] := by kernel_rfl
end
end Shrink
end Go.Proofs.YtdhfgfdpncmopaaGreatDoor
