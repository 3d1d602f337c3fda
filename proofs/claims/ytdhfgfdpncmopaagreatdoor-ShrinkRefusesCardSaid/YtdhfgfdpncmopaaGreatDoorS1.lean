/- warp/warplaw24.ShrinkRefuses: the environment of its runs: the program, the known variables. -/
import Derived.Test.YtdhfgfdpncmopaaGreatDoorRows
import Derived.KernelRfl
import Derived.Test.YtdhfgfdpncmopaaGreatDoorEv12
open Go Go.Ev Go.Proofs
namespace Go.Proofs.YtdhfgfdpncmopaaGreatDoor
namespace Shrink
noncomputable section
instance valI : Val := ⟨fun _ => 0, fun _ => []⟩
instance fkI : Fk := fk3 [] [] []
noncomputable def rowLaid : List (String × DataW Unit) := Rows.shrinkRefusesRow.laid
def ks : List (Nat × Nat) := [(0, 2), (1, 1), (2, 2)]
noncomputable def E0 : Env := { Env.of Tryz.prog 100000 7 with root := 4 }
noncomputable def E1 : Env := { Env.of Tryz.prog 4 7 with root := 3 }
noncomputable def gs : List Gv := (iniAll E0 rowLaid ks).getD []
theorem names : namesOk Tryz.prog.funcs.toList = true := by kernel_rfl
theorem mixed : Tryz.prog.follows .mixedOrders = true := by kernel_rfl
theorem env0 : EnvOk E0 Tryz.prog := envOk names mixed
theorem env1 : EnvOk E1 Tryz.prog := envOk names mixed
theorem gsSome : (iniAll E0 rowLaid ks).isSome = true := by kernel_rfl
theorem gsEq : iniAll E0 rowLaid ks = some gs := by
  have h := gsSome
  unfold gs
  cases hh : iniAll E0 rowLaid ks with
  | none => rw [hh] at h; cases h
  | some l => rfl
theorem bits : bitsOk 7 gs = true := by kernel_rfl
theorem noSum : hasBody E0 100000 = false := by kernel_rfl
end
end Shrink
end Go.Proofs.YtdhfgfdpncmopaaGreatDoor
