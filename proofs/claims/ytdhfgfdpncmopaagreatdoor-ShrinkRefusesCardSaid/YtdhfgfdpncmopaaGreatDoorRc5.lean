/- ShrinkRefuses: runs of classes. -/
import Derived.Test.YtdhfgfdpncmopaaGreatDoorLa
import Derived.KernelRfl
set_option warn.classDefReducibility false
set_option linter.unusedVariables false
set_option linter.unusedSectionVars false
set_option linter.unusedSimpArgs false
open Go Go.Ev Go.Proofs
namespace Go.Proofs.YtdhfgfdpncmopaaGreatDoor
namespace Shrink
noncomputable section
theorem ch22 : gcH ksP (Hc 2 60 2 2 (.int .i64 2)).hp = (Hc 2 60 2 2 (.int .i64 2)).hp := by kernel_rfl
theorem ce22 : endE E1 (sgC 2 60 2) ksP [] (Hc 2 60 2 2 (.int .i64 2)) lac0 = headE [] (Hc 2 60 2 2 (.int .i64 2)) := by kernel_rfl
theorem cr22 : @turnsC (Fm 2 60 [rz 0, rz 1]) E1 noHd 100000 (Hc 2 60 2 2 (.int .i64 2)) = some [] := by kernel_rfl
theorem ch23 : gcH ksP (Hc 2 60 3 3 (.int .i64 3)).hp = (Hc 2 60 3 3 (.int .i64 3)).hp := by kernel_rfl
theorem ce23 : endE E1 (sgC 2 60 3) ksP [] (Hc 2 60 3 3 (.int .i64 3)) lac0 = headE [] (Hc 2 60 3 3 (.int .i64 3)) := by kernel_rfl
theorem cr23 : @turnsC (Fm 2 60 [rz 0, rz 1]) E1 noHd 100000 (Hc 2 60 3 3 (.int .i64 3)) = some [] := by kernel_rfl
theorem ch31 : gcH ksP (Hc 61 70 1 1 (.int .i64 1)).hp = (Hc 61 70 1 1 (.int .i64 1)).hp := by kernel_rfl
theorem ce31 : endE E1 (sgC 61 70 1) ksP [] (Hc 61 70 1 1 (.int .i64 1)) lac0 = headE [] (Hc 61 70 1 1 (.int .i64 1)) := by kernel_rfl
theorem cr31 : @turnsC (Fm 61 70 [rz 0, rz 1]) E1 noHd 100000 (Hc 61 70 1 1 (.int .i64 1)) = some [] := by kernel_rfl
theorem ch32 : gcH ksP (Hc 61 70 2 2 (.int .i64 2)).hp = (Hc 61 70 2 2 (.int .i64 2)).hp := by kernel_rfl
theorem ce32 : endE E1 (sgC 61 70 2) ksP [] (Hc 61 70 2 2 (.int .i64 2)) lac0 = headE [] (Hc 61 70 2 2 (.int .i64 2)) := by kernel_rfl
theorem cr32 : @turnsC (Fm 61 70 [rz 0, rz 1]) E1 noHd 100000 (Hc 61 70 2 2 (.int .i64 2)) = some [] := by kernel_rfl
end
end Shrink
end Go.Proofs.YtdhfgfdpncmopaaGreatDoor
