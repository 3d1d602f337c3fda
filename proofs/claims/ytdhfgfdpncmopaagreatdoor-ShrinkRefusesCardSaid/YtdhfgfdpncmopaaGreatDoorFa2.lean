/- Closed facts: a world that meets the condition; how types lie. -/
import Derived.Test.YtdhfgfdpncmopaaGreatDoorS1
import Derived.ProofKit
import Derived.Carry
import Derived.OpenShut
import Derived.LaidMore
import Derived.Lay
import Derived.Stop.Joined
set_option linter.unusedVariables false
namespace Go.Proofs.YtdhfgfdpncmopaaGreatDoor.Shrink
open Go.ChangeShapes Go.WideShapes Go.ChangeAt Go.RowKit Go.Ev

noncomputable abbrev wArgs : Array Value := #[.int .i64 0, .agg #[.int .i64 0, .int .i64 0]]
noncomputable abbrev wit (os : Os) : World := (World.laidAll Tryz.prog os rowLaid).forCall (fun _ _ => 0) ⟨#[], wArgs, []⟩
theorem laidOut : laidOutB Tryz.prog = true := by kernel_rfl
theorem read25 : Tryz.prog.readableRec 25 = true := by kernel_rfl
theorem lt25 : 25 < Tryz.prog.types.size := of_decide_eq_true (by kernel_rfl)
theorem zipW (os : Os) : (wit os).variablesZipB Tryz.prog = true := by kernel_rfl
theorem restW (os : Os) : ((wit os).heap.toList.drop Tryz.prog.globals.size).take ((begin Tryz.prog (fun _ _ => 0) default).world.heap.size - Tryz.prog.globals.size) = (begin Tryz.prog (fun _ _ => 0) default).world.heap.toList.drop Tryz.prog.globals.size := by kernel_rfl
theorem okW (os : Os) : Input.okWideB Tryz.prog (wit os) 3 ⟨#[], wArgs, []⟩ = true := by kernel_rfl
theorem preW (os : Os) (H : Type) (enc : TypeId × Value → H) : Rows.shrinkRefusesSpec.preB enc Tryz.prog Tryz.f3 Rows.shrinkRefusesRow.domain false (wit os).memory wArgs 8 = true := by kernel_rfl
theorem sizW (os : Os) (H : Type) (enc : TypeId × Value → H) : Rows.shrinkRefusesSpec.sizedB enc Tryz.prog Tryz.f3 false (wit os).memory wArgs 8 = true := by kernel_rfl
theorem plainW : (rowLaid.all fun x => x.2.handleName?.isNone) = true := by kernel_rfl
theorem fitW (os : Os) : (World.holding Tryz.prog os ⟨#[], #[], []⟩).layFits Tryz.prog rowLaid [] = true := by kernel_rfl
theorem ifW (os : Os) : (World.holding Tryz.prog os ⟨#[], #[], []⟩).layIfaces Tryz.prog rowLaid (World.laidAll Tryz.prog os rowLaid) = true := by kernel_rfl
theorem metW (os : Os) : laidMetH Tryz.prog rowLaid (wit os).memory := by
  rw [MakeChecks.laidMetH_plain _ _ _ plainW]
  exact laidMet_laidAll _ (fitW os) (ifW os)
theorem noInit : Tryz.prog.inits.idxOf? 3 = none := by kernel_rfl
end Go.Proofs.YtdhfgfdpncmopaaGreatDoor.Shrink
