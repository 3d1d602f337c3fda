/- ScriptOne: the classes of three bytes; the run of each comes to true. -/
import Derived.Test.YtfcfjbphkegemaaGreatDoorS1
import Derived.KernelRfl
set_option warn.classDefReducibility false
set_option linter.unusedVariables false
set_option linter.unusedSectionVars false
set_option linter.unusedSimpArgs false
open Go Go.Ev Go.Proofs
namespace Go.Proofs.YtfcfjbphkegemaaGreatDoor
namespace One
noncomputable section
def kB1 : Key := .mk .d0 .d0 .d0 .d2 .d6
def kB2 : Key := .mk .d0 .d0 .d0 .d2 .d7
def b1 : AV := .sx .u8 kB1 0 0 255
def b2 : AV := .sx .u8 kB2 0 0 255
def c3 (r s t : Nat) : List AV :=
  match r with
  | 1 => [.md .u8 5 1, .md .u8 6 s, b2]
  | 2 => [.md .u8 5 2, b1, .md .u8 9 t]
  | 3 => [.md .u8 5 3, b1, .md .u8 9 t]
  | r => [.md .u8 5 r, b1, b2]
def classes : List (List AV) := [c3 0 0 0, c3 4 0 0] ++ (List.range 6).map (fun s => c3 1 s 0) ++ (List.range 9).map (fun t => c3 2 0 t) ++ (List.range 9).map (fun t => c3 3 0 t)
def ivs2 : List (Key × Int × Int) := [(kB1, 0, 255), (kB2, 0, 255)]
theorem ok2 : ivsOk gs ivs2 = true := by kernel_rfl
theorem runs : classes.map (fun c => startB E1 100000 3 [.agg c] (initHv gs ivs2) (Key.ofNat 30)) = classes.map (fun _ => true) := by kernel_rfl
end
end One
end Go.Proofs.YtfcfjbphkegemaaGreatDoor
