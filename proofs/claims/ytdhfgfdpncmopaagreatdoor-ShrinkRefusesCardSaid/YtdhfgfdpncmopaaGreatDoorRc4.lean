/- ShrinkRefuses: runs of classes. -/
import Derived.Test.YtdhfgfdpncmopaaGreatDoorLa
import Derived.KernelRfl
set_option warn.classDefReducibility false
set_option linter.unusedVariables false
set_option linter.unusedSectionVars false
set_option linter.unusedSimpArgs false
open Go Go.Ev Go.Proofs
namespace Go.Proofs.YtdhfgfdpncmopaaGreatDoor
namespace Shrink
noncomputable section
theorem ch20 : gcH ksP (Hc 2 60 mn 0 (sK mn 0)).hp = (Hc 2 60 mn 0 (sK mn 0)).hp := by kernel_rfl
theorem ce20 : endE E1 (sgN 2 60 mn 0) ksP [] (Hc 2 60 mn 0 (sK mn 0)) lac0 = headE [] (Hc 2 60 mn 0 (sK mn 0)) := by kernel_rfl
theorem cr20 : @turnsC (Fm 2 60 [rz 0, rz 1]) E1 noHd 100000 (Hc 2 60 mn 0 (sK mn 0)) = some [] := by kernel_rfl
theorem ch21 : gcH ksP (Hc 2 60 1 1 (.int .i64 1)).hp = (Hc 2 60 1 1 (.int .i64 1)).hp := by kernel_rfl
theorem ce21 : endE E1 (sgC 2 60 1) ksP [] (Hc 2 60 1 1 (.int .i64 1)) lac0 = headE [] (Hc 2 60 1 1 (.int .i64 1)) := by kernel_rfl
theorem cr21 : @turnsC (Fm 2 60 [rz 0, rz 1]) E1 noHd 100000 (Hc 2 60 1 1 (.int .i64 1)) = some [] := by kernel_rfl
theorem ch30 : gcH ksP (Hc 61 70 mn 0 (sK mn 0)).hp = (Hc 61 70 mn 0 (sK mn 0)).hp := by kernel_rfl
theorem ce30 : endE E1 (sgN 61 70 mn 0) ksP [] (Hc 61 70 mn 0 (sK mn 0)) lac0 = headE [] (Hc 61 70 mn 0 (sK mn 0)) := by kernel_rfl
theorem cr30 : @turnsC (Fm 61 70 [rz 0, rz 1]) E1 noHd 100000 (Hc 61 70 mn 0 (sK mn 0)) = some [] := by kernel_rfl
end
end Shrink
end Go.Proofs.YtdhfgfdpncmopaaGreatDoor
