/- ShrinkRefuses: runs of classes. -/
import Derived.Test.YtdhfgfdpncmopaaGreatDoorLa
import Derived.KernelRfl
set_option warn.classDefReducibility false
set_option linter.unusedVariables false
set_option linter.unusedSectionVars false
set_option linter.unusedSimpArgs false
open Go Go.Ev Go.Proofs
namespace Go.Proofs.YtdhfgfdpncmopaaGreatDoor
namespace Shrink
noncomputable section
theorem ch10 : gcH ksP (Hc 1 1 mn 0 (sK mn 0)).hp = (Hc 1 1 mn 0 (sK mn 0)).hp := by kernel_rfl
theorem ce10 : endE E1 (sgN 1 1 mn 0) ksP [] (Hc 1 1 mn 0 (sK mn 0)) lac0 = headE [] (Hc 1 1 mn 0 (sK mn 0)) := by kernel_rfl
theorem cr10 : @turnsC (Fm 1 1 [rz 0]) E1 noHd 100000 (Hc 1 1 mn 0 (sK mn 0)) = some [] := by kernel_rfl
theorem ch11 : gcH ksP (Hc 1 1 1 1 (.int .i64 1)).hp = (Hc 1 1 1 1 (.int .i64 1)).hp := by kernel_rfl
theorem ce11 : endE E1 (sgC 1 1 1) ksP [] (Hc 1 1 1 1 (.int .i64 1)) lac0 = headE [] (Hc 1 1 1 1 (.int .i64 1)) := by kernel_rfl
theorem cr11 : @turnsC (Fm 1 1 [rz 0]) E1 noHd 100000 (Hc 1 1 1 1 (.int .i64 1)) = some [] := by kernel_rfl
theorem ch12 : gcH ksP (Hc 1 1 2 2 (.int .i64 2)).hp = (Hc 1 1 2 2 (.int .i64 2)).hp := by kernel_rfl
theorem ce12 : endE E1 (sgC 1 1 2) ksP [] (Hc 1 1 2 2 (.int .i64 2)) lac0 = headE [] (Hc 1 1 2 2 (.int .i64 2)) := by kernel_rfl
theorem cr12 : @turnsC (Fm 1 1 [rz 0]) E1 noHd 100000 (Hc 1 1 2 2 (.int .i64 2)) = some [] := by kernel_rfl
end
end Shrink
end Go.Proofs.YtdhfgfdpncmopaaGreatDoor
