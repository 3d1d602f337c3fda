/- ShrinkRefuses: runs of classes. -/
import Derived.Test.YtdhfgfdpncmopaaGreatDoorLa
import Derived.KernelRfl
set_option warn.classDefReducibility false
set_option linter.unusedVariables false
set_option linter.unusedSectionVars false
set_option linter.unusedSimpArgs false
open Go Go.Ev Go.Proofs
namespace Go.Proofs.YtdhfgfdpncmopaaGreatDoor
namespace Shrink
noncomputable section
theorem ch00 : gcH ksP (Hc 0 0 mn 0 (sK mn 0)).hp = (Hc 0 0 mn 0 (sK mn 0)).hp := by kernel_rfl
theorem ce00 : endE E1 (sgN 0 0 mn 0) ksP [] (Hc 0 0 mn 0 (sK mn 0)) lac0 = headE [] (Hc 0 0 mn 0 (sK mn 0)) := by kernel_rfl
theorem cr00 : @turnsC (Fm 0 0 []) E1 noHd 100000 (Hc 0 0 mn 0 (sK mn 0)) = some [] := by kernel_rfl
theorem ch01 : gcH ksP (Hc 0 0 1 1 (.int .i64 1)).hp = (Hc 0 0 1 1 (.int .i64 1)).hp := by kernel_rfl
theorem ce01 : endE E1 (sgC 0 0 1) ksP [] (Hc 0 0 1 1 (.int .i64 1)) lac0 = headE [] (Hc 0 0 1 1 (.int .i64 1)) := by kernel_rfl
theorem cr01 : @turnsC (Fm 0 0 []) E1 noHd 100000 (Hc 0 0 1 1 (.int .i64 1)) = some [] := by kernel_rfl
theorem ch02 : gcH ksP (Hc 0 0 2 2 (.int .i64 2)).hp = (Hc 0 0 2 2 (.int .i64 2)).hp := by kernel_rfl
theorem ce02 : endE E1 (sgC 0 0 2) ksP [] (Hc 0 0 2 2 (.int .i64 2)) lac0 = headE [] (Hc 0 0 2 2 (.int .i64 2)) := by kernel_rfl
theorem cr02 : @turnsC (Fm 0 0 []) E1 noHd 100000 (Hc 0 0 2 2 (.int .i64 2)) = some [] := by kernel_rfl
end
end Shrink
end Go.Proofs.YtdhfgfdpncmopaaGreatDoor
