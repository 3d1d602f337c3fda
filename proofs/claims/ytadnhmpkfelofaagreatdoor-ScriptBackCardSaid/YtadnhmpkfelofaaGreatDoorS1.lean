/- warp/warplaw17.ScriptBack: the environment of its runs: the program, the known variables. -/
import Derived.Test.YtadnhmpkfelofaaGreatDoorRows
import Derived.KernelRfl
import Derived.Test.YtadnhmpkfelofaaGreatDoorEv13
open Go Go.Ev Go.Proofs
namespace Go.Proofs.YtadnhmpkfelofaaGreatDoor
namespace Back
noncomputable section
instance valI : Val := ⟨fun _ => 0, fun _ => []⟩
instance fkI : Fk := ⟨[], [], []⟩
noncomputable def rowLaid : List (String × DataW Unit) := Rows.scriptBackRow.laid
def ks : List (Nat × Nat) := [(0, 1), (1, 1), (2, 1), (5, 2), (6, 6), (7, 2), (8, 1), (9, 2)]
noncomputable def E0 : Env := { Env.of Tryz.prog 100000 927 with root := 4 }
noncomputable def E1 : Env := { Env.of Tryz.prog 4 927 with root := 3 }
noncomputable def gs : List Gv := (iniAll E0 rowLaid ks).getD []
theorem names : namesOk Tryz.prog.funcs.toList = true := by kernel_rfl
theorem mixed : Tryz.prog.follows .mixedOrders = true := by kernel_rfl
theorem env0 : EnvOk E0 Tryz.prog := envOk names mixed
theorem env1 : EnvOk E1 Tryz.prog := envOk names mixed
theorem gsSome : (iniAll E0 rowLaid ks).isSome = true := by kernel_rfl
theorem gsEq : iniAll E0 rowLaid ks = some gs := by
  have h := gsSome
  unfold gs
  cases hh : iniAll E0 rowLaid ks with
  | none => rw [hh] at h; cases h
  | some l => rfl
theorem bits : bitsOk 927 gs = true := by kernel_rfl
theorem noSum : hasBody E0 100000 = false := by kernel_rfl
end
end Back
end Go.Proofs.YtadnhmpkfelofaaGreatDoor
