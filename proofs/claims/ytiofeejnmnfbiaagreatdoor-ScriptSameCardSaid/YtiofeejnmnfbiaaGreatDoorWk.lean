/- ScriptSame: the law, called with any two lives, comes to true. -/
import Derived.Test.YtiofeejnmnfbiaaGreatDoorSc
import Derived.Test.YtiofeejnmnfbiaaGreatDoorKa1
import Derived.KernelRfl
set_option warn.classDefReducibility false
set_option linter.unusedVariables false
set_option linter.unusedSectionVars false
set_option linter.unusedSimpArgs false
open Go Go.Ev Go.Proofs
namespace Go.Proofs.YtiofeejnmnfbiaaGreatDoor
namespace Same
noncomputable section
/-- the law's own environment: works() is known -/
noncomputable def E3 : Env := { Env.of Tryz.prog 4 0 with root := 3 }
theorem env3 : EnvOk E3 Tryz.prog := envOk names mixed
noncomputable def H3 : Cfg := edH 5 [2, 3] [] (match enter E3 E3.root [lawA tLived 13 tAns.length, lawB tLived] false [] (hA tAns.length) nx0 with
  | .go c => (match @turnsC (fkW tLived tAns 13 5 6 [.mk kZ kLQ 1 mxI] [] true) E3 hdIL 1000 c with
    | some [c1] => c1
    | _ => dfCfg)
  | _ => dfCfg)
noncomputable def H3' : Cfg := match H3 with | .mk L td fi cs h nx => .mk L td fi cs (gcH [kLF, kA, kB] h) nx
def ks3 : List Key := [kLF, kA, kB]
theorem w3d : gcH ks3 H3'.hp = H3'.hp := by kernel_rfl
theorem w3a : ∀ b, @runB (fkW tLived tAns 13 5 6 [.mk kZ kLQ 0 0] [] b) E3 [lawA tLived 13 tAns.length, lawB tLived] (hA tAns.length) nx0 = true := by intro b; cases b <;> kernel_rfl
theorem w3b : ∀ b, @enterT (fkW tLived tAns 13 5 6 [.mk kZ kLQ 1 mxI] [] b) E3 hdIL 1000 (sgW0 tLived) ks3 [] H3' [lawA tLived 13 tAns.length, lawB tLived] (hA tAns.length) nx0 = some [headE [] H3'] := by intro b; cases b <;> kernel_rfl
theorem w3c : ∀ b, @turnT (fkW tLived tAns 13 5 6 (relW 2 mxI) (rowW tAns) b) E3 (loopAt 3 0 4) 1000 (sgW tLived) ks3 [] H3' H3' = some [headE [] H3'] := by intro b; cases b <;> kernel_rfl
theorem w3e : ∀ b, @runK (fkW tLived tAns 13 5 6 (relW 1 1) (rowW tAns) b) E3 H3' = true := by intro b; cases b <;> kernel_rfl
theorem fkD (v : Val) : @FkOk v fkI := @FkOk.mk v fkI (fun x hx => (by cases hx)) (fun x hx => (by cases hx)) (fun x hx => (by cases hx))
/-- works() answers true -/
theorem known {W : World} (hi : @IniR valI gs W) : Calls Tryz.prog E1.sum #[] W (fun e w' => e = .returned (.bool true) ∧ Ext W.heap.size W w') :=
  @ini_calls valI fkI E0 Tryz.prog (fkD valI) env0 gs W hi bits (fun h => by rw [show E0.sum = 100000 from rfl, noSum] at h; cases h) rfl _ [] #[] _ (fun μ => @VRs.nil valI μ) runKnown
/-- THE LAW's RUN: whatever two lives come in -/
theorem walk {W : World} (hL : laidMetH Tryz.prog rowLaid W) {da db : List Dc} {va vb : Array Value} (ha : RdR W tLived da va.toList) (hb : RdR W tLived db vb.toList) :
    Calls Tryz.prog 3 #[.agg va, .agg vb] W (fun e w' => e = .returned (.bool true) ∧ Ext W.heap.size W w') :=
  law_of env3 rfl (ts := tLived) (tr := tAns) (jl := 13) rfl (by decide) (by decide) c5 c6 ⟨w3d, w3a, ⟨_, _, w3b⟩, ⟨_, _, w3c⟩, w3e⟩
    (fun w he _ => known ((ini_met env0 hL gsEq).ext he)) ha hb
end
end Same
end Go.Proofs.YtiofeejnmnfbiaaGreatDoor
