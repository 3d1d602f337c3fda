/- The document: calls that go over a list of a struct. -/
import Derived.Test.YtiofeejnmnfbiaaGreatDoorSb
import Derived.KernelRfl
set_option warn.classDefReducibility false
set_option linter.unusedVariables false
set_option linter.unusedSectionVars false
set_option linter.unusedSimpArgs false
open Go Go.Ev Go.Proofs
namespace Go.Proofs.YtiofeejnmnfbiaaGreatDoor
namespace Same
noncomputable section
def p20 : List Cm := [.cell 0, .cell 1, .cell 2, .cell 3, .list 16 4 [], .cell 6, .cell 7, .cell 8, .cell 9]
def m20 : List Cm := [.cell 0, .cell 1, .list 16 2 [], .cell 3, .list 19 4 []]
noncomputable def H20 : Cfg := edH 5 [2, 3] [(kA, bx 10 5 (aF 5)), (kB, bx 10 5 (aG 5))] (@headOf (fkP tShow p20 p20.length true relS0 true) (Ec 20) [argA tShow p20 5 tThr.length p20.length true, argB tShow p20 5 tThr.length p20.length true] (hL tThr.length))
theorem l200 : preB (Ec 20) tShow p20 5 tThr.length = true := by kernel_rfl
theorem l20a : @runB (fkP tShow p20 p20.length true relN0 false) (Ec 20) [argA tShow p20 5 tThr.length p20.length true, argB tShow p20 5 tThr.length p20.length true] (hL tThr.length) nx0 = true := by kernel_rfl
theorem l20b : @runB (fkP tShow p20 p20.length true relE0 true) (Ec 20) [argA tShow p20 5 tThr.length p20.length true, argB tShow p20 5 tThr.length p20.length true] (hL tThr.length) nx0 = true := by kernel_rfl
theorem l20c : ∀ b, @enterT (fkP tShow p20 p20.length true relS0 b) (Ec 20) hdIL 1000 sgF [kLF, kLG, kA, kB] [] H20 [argA tShow p20 5 tThr.length p20.length true, argB tShow p20 5 tThr.length p20.length true] (hL tThr.length) nx0 = some [headE [] H20] := by intro b; cases b <;> kernel_rfl
theorem l20d : gcH [kLF, kLG, kA, kB] H20.hp = H20.hp := by kernel_rfl
theorem l20e : ∀ b, @turnT (fkL 2 mxI tThr m20 m20.length true b) (Ec 20) (loopAt 20 0 4) 1000 sgT [kLF, kLG, kA, kB] [] H20 H20 = some [headE [] H20] := by intro b; cases b <;> kernel_rfl
theorem l20f : @runK (fkL 1 1 tThr m20 m20.length true true) (Ec 20) H20 = true := by kernel_rfl
theorem l20g : noB (Ec 20) tThr m20 H20 = true := by kernel_rfl
theorem c20 : CmpS Tryz.prog 20 tShow := cmpSL_of (envC 20) rfl (noC 20) (jl := 5) (tl := tThr) (by decide) rfl rfl (fun c hc => by
    simp only [List.mem_cons, List.not_mem_nil, or_false, p20] at hc
    rcases hc with rfl | rfl | rfl | rfl | rfl | rfl | rfl | rfl | rfl
    · exact ⟨_, rfl, fun l h => by cases h⟩
    · exact ⟨_, rfl, fun l h => by cases h⟩
    · exact ⟨_, rfl, fun l h => by cases h⟩
    · exact ⟨_, rfl, fun l h => by cases h⟩
    · exact ⟨rfl, _, rfl, c16⟩
    · exact ⟨_, rfl, fun l h => by cases h⟩
    · exact ⟨_, rfl, fun l h => by cases h⟩
    · exact ⟨_, rfl, fun l h => by cases h⟩
    · exact ⟨_, rfl, fun l h => by cases h⟩
  ) (by decide) rfl (fun c hc => by
    simp only [List.mem_cons, List.not_mem_nil, or_false, m20] at hc
    rcases hc with rfl | rfl | rfl | rfl | rfl
    · exact ⟨_, rfl, fun l h => by cases h⟩
    · exact ⟨_, rfl, fun l h => by cases h⟩
    · exact ⟨rfl, _, rfl, c16⟩
    · exact ⟨_, rfl, fun l h => by cases h⟩
    · exact ⟨rfl, _, rfl, c19⟩
  ) ⟨l200, l20a, l20b, ⟨_, _, l20c⟩⟩ ⟨l20d, ⟨_, _, l20e⟩, l20f, l20g⟩
def p6 : List Cm := [.cell 0, .cell 1, .cell 2, .cell 3, .cell 4, .list 16 5 [], .list 17 6 [], .many 18 7 6, .list 19 14 [], .cell 15]
def m6 : List Cm := [.cell 0, .cell 1, .many 20 2 10]
noncomputable def H6 : Cfg := edH 5 [2, 3] [(kA, bx 16 13 (aF 12)), (kB, bx 16 13 (aG 12))] (@headOf (fkP tLived p6 p6.length true relS0 true) (Ec 6) [argA tLived p6 13 tAns.length p6.length true, argB tLived p6 13 tAns.length p6.length true] (hL tAns.length))
theorem l60 : preB (Ec 6) tLived p6 13 tAns.length = true := by kernel_rfl
theorem l6a : @runB (fkP tLived p6 p6.length true relN0 false) (Ec 6) [argA tLived p6 13 tAns.length p6.length true, argB tLived p6 13 tAns.length p6.length true] (hL tAns.length) nx0 = true := by kernel_rfl
theorem l6b : @runB (fkP tLived p6 p6.length true relE0 true) (Ec 6) [argA tLived p6 13 tAns.length p6.length true, argB tLived p6 13 tAns.length p6.length true] (hL tAns.length) nx0 = true := by kernel_rfl
theorem l6c : ∀ b, @enterT (fkP tLived p6 p6.length true relS0 b) (Ec 6) hdIL 1000 sgF [kLF, kLG, kA, kB] [] H6 [argA tLived p6 13 tAns.length p6.length true, argB tLived p6 13 tAns.length p6.length true] (hL tAns.length) nx0 = some [headE [] H6] := by intro b; cases b <;> kernel_rfl
theorem l6d : gcH [kLF, kLG, kA, kB] H6.hp = H6.hp := by kernel_rfl
theorem l6e : ∀ b, @turnT (fkL 2 mxI tAns m6 m6.length true b) (Ec 6) (loopAt 6 0 4) 1000 sgT [kLF, kLG, kA, kB] [] H6 H6 = some [headE [] H6] := by intro b; cases b <;> kernel_rfl
theorem l6f : @runK (fkL 1 1 tAns m6 m6.length true true) (Ec 6) H6 = true := by kernel_rfl
theorem l6g : noB (Ec 6) tAns m6 H6 = true := by kernel_rfl
theorem c6 : CmpS Tryz.prog 6 tLived := cmpSL_of (envC 6) rfl (noC 6) (jl := 13) (tl := tAns) (by decide) rfl rfl (fun c hc => by
    simp only [List.mem_cons, List.not_mem_nil, or_false, p6] at hc
    rcases hc with rfl | rfl | rfl | rfl | rfl | rfl | rfl | rfl | rfl | rfl
    · exact ⟨_, rfl, fun l h => by cases h⟩
    · exact ⟨_, rfl, fun l h => by cases h⟩
    · exact ⟨_, rfl, fun l h => by cases h⟩
    · exact ⟨_, rfl, fun l h => by cases h⟩
    · exact ⟨_, rfl, fun l h => by cases h⟩
    · exact ⟨rfl, _, rfl, c16⟩
    · exact ⟨rfl, _, rfl, c17⟩
    · exact c18
    · exact ⟨rfl, _, rfl, c19⟩
    · exact ⟨_, rfl, fun l h => by cases h⟩
  ) (by decide) rfl (fun c hc => by
    simp only [List.mem_cons, List.not_mem_nil, or_false, m6] at hc
    rcases hc with rfl | rfl | rfl
    · exact ⟨_, rfl, fun l h => by cases h⟩
    · exact ⟨_, rfl, fun l h => by cases h⟩
    · exact c20
  ) ⟨l60, l6a, l6b, ⟨_, _, l6c⟩⟩ ⟨l6d, ⟨_, _, l6e⟩, l6f, l6g⟩
end
end Same
end Go.Proofs.YtiofeejnmnfbiaaGreatDoor
