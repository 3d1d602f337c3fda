/- Calls that compare structs, lists of them. -/
import Derived.Test.YtiofeejnmnfbiaaGreatDoorSa
import Derived.KernelRfl
set_option warn.classDefReducibility false
set_option linter.unusedVariables false
set_option linter.unusedSectionVars false
set_option linter.unusedSimpArgs false
open Go Go.Ev Go.Proofs
namespace Go.Proofs.YtiofeejnmnfbiaaGreatDoor
namespace Same
noncomputable section
def m52 : List Cm := [.cell 0, .cell 1, .cell 3, .list 10 2 [], .list 12 4 []]
theorem s52 : structB (Ec 52) tThr m52 = true := by kernel_rfl
theorem c52 : CmpS Tryz.prog 52 tThr := cmpS_of (envC 52) rfl (noC 52) (by decide) rfl (fun c hc => by
    simp only [List.mem_cons, List.not_mem_nil, or_false, m52] at hc
    rcases hc with rfl | rfl | rfl | rfl | rfl
    · exact ⟨_, rfl, fun l h => by cases h⟩
    · exact ⟨_, rfl, fun l h => by cases h⟩
    · exact ⟨_, rfl, fun l h => by cases h⟩
    · exact ⟨rfl, _, rfl, c10⟩
    · exact ⟨rfl, _, rfl, c12⟩
  ) s52
def m80 : List Cm := [.many 52 0 5]
noncomputable def H80 : Cfg := edH 17 [0, 1, 2, 15, 16] [] (@headOf (fkE relS0 [] true) (Ec 80) (aF tThr.length :: aG tThr.length :: [fnA 52]) (hL tThr.length))
theorem l80a : @runB (fkE relN0 [] false) (Ec 80) (aF tThr.length :: aG tThr.length :: [fnA 52]) (hL tThr.length) nx0 = true := by kernel_rfl
theorem l80b : @runB (fkE relE0 [] true) (Ec 80) (aF tThr.length :: aG tThr.length :: [fnA 52]) (hL tThr.length) nx0 = true := by kernel_rfl
theorem l80c : ∀ b, @enterT (fkE relS0 [] b) (Ec 80) hdIL 1000 sgF [kLF, kLG] [] H80 (aF tThr.length :: aG tThr.length :: [fnA 52]) (hL tThr.length) nx0 = some [headE [] H80] := by intro b; cases b <;> kernel_rfl
theorem l80d : gcH [kLF, kLG] H80.hp = H80.hp := by kernel_rfl
theorem l80e : ∀ b, @turnT (fkL 2 mxI tThr m80 m80.length true b) (Ec 80) (loopAt 80 0 4) 1000 sgT [kLF, kLG] [] H80 H80 = some [headE [] H80] := by intro b; cases b <;> kernel_rfl
theorem l80f : @runK (fkL 1 1 tThr m80 m80.length true true) (Ec 80) H80 = true := by kernel_rfl
theorem l80g : noB (Ec 80) tThr m80 H80 = true := by kernel_rfl
theorem c80 : CmpL Tryz.prog 80 tThr [fnA 52] := cmpL_of (envC 80) rfl (noC 80) (by decide) rfl (fun c hc => by
    simp only [List.mem_cons, List.not_mem_nil, or_false, m80] at hc
    rcases hc with rfl
    · exact c52
  ) rfl ⟨l80a, l80b, ⟨_, _, l80c⟩⟩ ⟨l80d, ⟨_, _, l80e⟩, l80f, l80g⟩
theorem w51t : wrapB (Ec 51) 80 [fnA 52] true = true := by kernel_rfl
theorem w51f : wrapB (Ec 51) 80 [fnA 52] false = true := by kernel_rfl
theorem c51 : CmpL Tryz.prog 51 tThr [fnA 52] := cmpW_of (envC 51) rfl (noC 51) rfl c80 w51t w51f
def m27 : List Cm := [.cell 0, .cell 1, .cell 2, .cell 3, .cell 6, .cell 7, .cell 8, .cell 9, .list 10 4 [], .list 51 5 [fnA 52]]
theorem s27 : structB (Ec 27) tShow m27 = true := by kernel_rfl
theorem c27 : CmpS Tryz.prog 27 tShow := cmpS_of (envC 27) rfl (noC 27) (by decide) rfl (fun c hc => by
    simp only [List.mem_cons, List.not_mem_nil, or_false, m27] at hc
    rcases hc with rfl | rfl | rfl | rfl | rfl | rfl | rfl | rfl | rfl | rfl
    · exact ⟨_, rfl, fun l h => by cases h⟩
    · exact ⟨_, rfl, fun l h => by cases h⟩
    · exact ⟨_, rfl, fun l h => by cases h⟩
    · exact ⟨_, rfl, fun l h => by cases h⟩
    · exact ⟨_, rfl, fun l h => by cases h⟩
    · exact ⟨_, rfl, fun l h => by cases h⟩
    · exact ⟨_, rfl, fun l h => by cases h⟩
    · exact ⟨_, rfl, fun l h => by cases h⟩
    · exact ⟨rfl, _, rfl, c10⟩
    · exact ⟨rfl, _, rfl, c51⟩
  ) s27
def m15 : List Cm := [.cell 0, .cell 1, .many 27 2 10]
theorem s15 : structB (Ec 15) tAns m15 = true := by kernel_rfl
theorem c15 : CmpS Tryz.prog 15 tAns := cmpS_of (envC 15) rfl (noC 15) (by decide) rfl (fun c hc => by
    simp only [List.mem_cons, List.not_mem_nil, or_false, m15] at hc
    rcases hc with rfl | rfl | rfl
    · exact ⟨_, rfl, fun l h => by cases h⟩
    · exact ⟨_, rfl, fun l h => by cases h⟩
    · exact c27
  ) s15
def m26 : List Cm := [.many 15 0 12]
noncomputable def H26 : Cfg := edH 17 [0, 1, 2, 15, 16] [] (@headOf (fkE relS0 [] true) (Ec 26) (aF tAns.length :: aG tAns.length :: [fnA 15]) (hL tAns.length))
theorem l26a : @runB (fkE relN0 [] false) (Ec 26) (aF tAns.length :: aG tAns.length :: [fnA 15]) (hL tAns.length) nx0 = true := by kernel_rfl
theorem l26b : @runB (fkE relE0 [] true) (Ec 26) (aF tAns.length :: aG tAns.length :: [fnA 15]) (hL tAns.length) nx0 = true := by kernel_rfl
theorem l26c : ∀ b, @enterT (fkE relS0 [] b) (Ec 26) hdIL 1000 sgF [kLF, kLG] [] H26 (aF tAns.length :: aG tAns.length :: [fnA 15]) (hL tAns.length) nx0 = some [headE [] H26] := by intro b; cases b <;> kernel_rfl
theorem l26d : gcH [kLF, kLG] H26.hp = H26.hp := by kernel_rfl
theorem l26e : ∀ b, @turnT (fkL 2 mxI tAns m26 m26.length true b) (Ec 26) (loopAt 26 0 4) 1000 sgT [kLF, kLG] [] H26 H26 = some [headE [] H26] := by intro b; cases b <;> kernel_rfl
theorem l26f : @runK (fkL 1 1 tAns m26 m26.length true true) (Ec 26) H26 = true := by kernel_rfl
theorem l26g : noB (Ec 26) tAns m26 H26 = true := by kernel_rfl
theorem c26 : CmpL Tryz.prog 26 tAns [fnA 15] := cmpL_of (envC 26) rfl (noC 26) (by decide) rfl (fun c hc => by
    simp only [List.mem_cons, List.not_mem_nil, or_false, m26] at hc
    rcases hc with rfl
    · exact c15
  ) rfl ⟨l26a, l26b, ⟨_, _, l26c⟩⟩ ⟨l26d, ⟨_, _, l26e⟩, l26f, l26g⟩
theorem w14t : wrapB (Ec 14) 26 [fnA 15] true = true := by kernel_rfl
theorem w14f : wrapB (Ec 14) 26 [fnA 15] false = true := by kernel_rfl
theorem c14 : CmpL Tryz.prog 14 tAns [fnA 15] := cmpW_of (envC 14) rfl (noC 14) rfl c26 w14t w14f
def m13 : List Cm := [.cell 0, .cell 2, .cell 3, .cell 4, .cell 5, .list 25 1 []]
theorem s13 : structB (Ec 13) tTaken m13 = true := by kernel_rfl
theorem c13 : CmpS Tryz.prog 13 tTaken := cmpS_of (envC 13) rfl (noC 13) (by decide) rfl (fun c hc => by
    simp only [List.mem_cons, List.not_mem_nil, or_false, m13] at hc
    rcases hc with rfl | rfl | rfl | rfl | rfl | rfl
    · exact ⟨_, rfl, fun l h => by cases h⟩
    · exact ⟨_, rfl, fun l h => by cases h⟩
    · exact ⟨_, rfl, fun l h => by cases h⟩
    · exact ⟨_, rfl, fun l h => by cases h⟩
    · exact ⟨_, rfl, fun l h => by cases h⟩
    · exact ⟨rfl, _, rfl, c25⟩
  ) s13
def m18 : List Cm := [.cell 0, .list 28 1 [], .cell 2, .cell 3, .cell 4, .cell 5]
theorem s18 : structB (Ec 18) tTaken m18 = true := by kernel_rfl
theorem c18 : CmpS Tryz.prog 18 tTaken := cmpS_of (envC 18) rfl (noC 18) (by decide) rfl (fun c hc => by
    simp only [List.mem_cons, List.not_mem_nil, or_false, m18] at hc
    rcases hc with rfl | rfl | rfl | rfl | rfl | rfl
    · exact ⟨_, rfl, fun l h => by cases h⟩
    · exact ⟨rfl, _, rfl, c28⟩
    · exact ⟨_, rfl, fun l h => by cases h⟩
    · exact ⟨_, rfl, fun l h => by cases h⟩
    · exact ⟨_, rfl, fun l h => by cases h⟩
    · exact ⟨_, rfl, fun l h => by cases h⟩
  ) s18
def m5 : List Cm := [.cell 0, .cell 1, .cell 2, .cell 3, .cell 4, .cell 15, .list 10 5 [], .list 11 6 [], .list 12 14 [], .many 13 7 6, .list 14 13 [fnA 15]]
theorem s5 : structB (Ec 5) tLived m5 = true := by kernel_rfl
theorem c5 : CmpS Tryz.prog 5 tLived := cmpS_of (envC 5) rfl (noC 5) (by decide) rfl (fun c hc => by
    simp only [List.mem_cons, List.not_mem_nil, or_false, m5] at hc
    rcases hc with rfl | rfl | rfl | rfl | rfl | rfl | rfl | rfl | rfl | rfl | rfl
    · exact ⟨_, rfl, fun l h => by cases h⟩
    · exact ⟨_, rfl, fun l h => by cases h⟩
    · exact ⟨_, rfl, fun l h => by cases h⟩
    · exact ⟨_, rfl, fun l h => by cases h⟩
    · exact ⟨_, rfl, fun l h => by cases h⟩
    · exact ⟨_, rfl, fun l h => by cases h⟩
    · exact ⟨rfl, _, rfl, c10⟩
    · exact ⟨rfl, _, rfl, c11⟩
    · exact ⟨rfl, _, rfl, c12⟩
    · exact c13
    · exact ⟨rfl, _, rfl, c14⟩
  ) s5
end
end Same
end Go.Proofs.YtiofeejnmnfbiaaGreatDoor
