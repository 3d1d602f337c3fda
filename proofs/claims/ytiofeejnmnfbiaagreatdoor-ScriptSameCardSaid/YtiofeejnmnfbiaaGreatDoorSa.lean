/- Calls that compare lists of numbers, of structs of numbers. -/
import Derived.Test.YtiofeejnmnfbiaaGreatDoorS1
import Derived.KernelRfl
set_option warn.classDefReducibility false
set_option linter.unusedVariables false
set_option linter.unusedSectionVars false
set_option linter.unusedSimpArgs false
open Go Go.Ev Go.Proofs
namespace Go.Proofs.YtiofeejnmnfbiaaGreatDoor
namespace Same
noncomputable section
/-- an environment of a call alone -/
noncomputable def Ec (f : Nat) : Env := { Env.of Tryz.prog 100000 0 with root := f }
theorem envC (f : Nat) : EnvOk (Ec f) Tryz.prog := envOk names mixed
theorem noC (f : Nat) : hasBody (Ec f) (Ec f).sum = false := by kernel_rfl
def fnA (n : Nat) : AV := .func (.fn (.func n)) [] []
def kA : Key := Key.ofNat 200
def kB : Key := Key.ofNat 201
def I : Td := .i .i64
def tThr : List Td := [I, I, .l [I], I, .l [I]]
def tShow : List Td := [I, I, I, I, .l [I], .l tThr, I, I, I, I]
def tAns : List Td := [I, I, I, I, I, I, .l [I], .l tThr, I, I, I, I]
def tTurn : List Td := [I, I]
def tRace : List Td := [I, I, I, I, .b, I, I, I, .b]
def tTaken : List Td := [.i .u32, .l tTurn, I, I, I, I]
def tLived : List Td := [I, I, I, I, I, .l [I], .l tRace, .i .u32, .l tTurn, I, I, I, I, .l tAns, .l [I], I]
def bx (n jl : Nat) (a : AV) : Ob := rowOf ((List.replicate n AV.any).set jl a)
def m16 : List Cm := [.cell 0]
noncomputable def H16 : Cfg := edH 5 [0, 1] [] (@headOf (fkE relS0 [] true) (Ec 16) (aF [I].length :: aG [I].length :: []) (hL [I].length))
theorem l16a : @runB (fkE relN0 [] false) (Ec 16) (aF [I].length :: aG [I].length :: []) (hL [I].length) nx0 = true := by kernel_rfl
theorem l16b : @runB (fkE relE0 [] true) (Ec 16) (aF [I].length :: aG [I].length :: []) (hL [I].length) nx0 = true := by kernel_rfl
theorem l16c : ∀ b, @enterT (fkE relS0 [] b) (Ec 16) hdIL 1000 sgF [kLF, kLG] [] H16 (aF [I].length :: aG [I].length :: []) (hL [I].length) nx0 = some [headE [] H16] := by intro b; cases b <;> kernel_rfl
theorem l16d : gcH [kLF, kLG] H16.hp = H16.hp := by kernel_rfl
theorem l16e : ∀ b, @turnT (fkL 2 mxI [I] m16 m16.length true b) (Ec 16) (loopAt 16 0 4) 1000 sgT [kLF, kLG] [] H16 H16 = some [headE [] H16] := by intro b; cases b <;> kernel_rfl
theorem l16f : @runK (fkL 1 1 [I] m16 m16.length true true) (Ec 16) H16 = true := by kernel_rfl
theorem l16g : noB (Ec 16) [I] m16 H16 = true := by kernel_rfl
theorem c16 : CmpL Tryz.prog 16 [I] [] := cmpL_of (envC 16) rfl (noC 16) (by decide) rfl (fun c hc => by
    simp only [List.mem_cons, List.not_mem_nil, or_false, m16] at hc
    rcases hc with rfl
    · exact ⟨_, rfl, fun l h => by cases h⟩
  ) rfl ⟨l16a, l16b, ⟨_, _, l16c⟩⟩ ⟨l16d, ⟨_, _, l16e⟩, l16f, l16g⟩
def m19 : List Cm := [.cell 0]
noncomputable def H19 : Cfg := edH 5 [0, 1] [] (@headOf (fkE relS0 [] true) (Ec 19) (aF [I].length :: aG [I].length :: []) (hL [I].length))
theorem l19a : @runB (fkE relN0 [] false) (Ec 19) (aF [I].length :: aG [I].length :: []) (hL [I].length) nx0 = true := by kernel_rfl
theorem l19b : @runB (fkE relE0 [] true) (Ec 19) (aF [I].length :: aG [I].length :: []) (hL [I].length) nx0 = true := by kernel_rfl
theorem l19c : ∀ b, @enterT (fkE relS0 [] b) (Ec 19) hdIL 1000 sgF [kLF, kLG] [] H19 (aF [I].length :: aG [I].length :: []) (hL [I].length) nx0 = some [headE [] H19] := by intro b; cases b <;> kernel_rfl
theorem l19d : gcH [kLF, kLG] H19.hp = H19.hp := by kernel_rfl
theorem l19e : ∀ b, @turnT (fkL 2 mxI [I] m19 m19.length true b) (Ec 19) (loopAt 19 0 4) 1000 sgT [kLF, kLG] [] H19 H19 = some [headE [] H19] := by intro b; cases b <;> kernel_rfl
theorem l19f : @runK (fkL 1 1 [I] m19 m19.length true true) (Ec 19) H19 = true := by kernel_rfl
theorem l19g : noB (Ec 19) [I] m19 H19 = true := by kernel_rfl
theorem c19 : CmpL Tryz.prog 19 [I] [] := cmpL_of (envC 19) rfl (noC 19) (by decide) rfl (fun c hc => by
    simp only [List.mem_cons, List.not_mem_nil, or_false, m19] at hc
    rcases hc with rfl
    · exact ⟨_, rfl, fun l h => by cases h⟩
  ) rfl ⟨l19a, l19b, ⟨_, _, l19c⟩⟩ ⟨l19d, ⟨_, _, l19e⟩, l19f, l19g⟩
def m28 : List Cm := [.cell 0, .cell 1]
noncomputable def H28 : Cfg := edH 5 [0, 1] [] (@headOf (fkE relS0 [] true) (Ec 28) (aF tTurn.length :: aG tTurn.length :: []) (hL tTurn.length))
theorem l28a : @runB (fkE relN0 [] false) (Ec 28) (aF tTurn.length :: aG tTurn.length :: []) (hL tTurn.length) nx0 = true := by kernel_rfl
theorem l28b : @runB (fkE relE0 [] true) (Ec 28) (aF tTurn.length :: aG tTurn.length :: []) (hL tTurn.length) nx0 = true := by kernel_rfl
theorem l28c : ∀ b, @enterT (fkE relS0 [] b) (Ec 28) hdIL 1000 sgF [kLF, kLG] [] H28 (aF tTurn.length :: aG tTurn.length :: []) (hL tTurn.length) nx0 = some [headE [] H28] := by intro b; cases b <;> kernel_rfl
theorem l28d : gcH [kLF, kLG] H28.hp = H28.hp := by kernel_rfl
theorem l28e : ∀ b, @turnT (fkL 2 mxI tTurn m28 m28.length true b) (Ec 28) (loopAt 28 0 4) 1000 sgT [kLF, kLG] [] H28 H28 = some [headE [] H28] := by intro b; cases b <;> kernel_rfl
theorem l28f : @runK (fkL 1 1 tTurn m28 m28.length true true) (Ec 28) H28 = true := by kernel_rfl
theorem l28g : noB (Ec 28) tTurn m28 H28 = true := by kernel_rfl
theorem c28 : CmpL Tryz.prog 28 tTurn [] := cmpL_of (envC 28) rfl (noC 28) (by decide) rfl (fun c hc => by
    simp only [List.mem_cons, List.not_mem_nil, or_false, m28] at hc
    rcases hc with rfl | rfl
    · exact ⟨_, rfl, fun l h => by cases h⟩
    · exact ⟨_, rfl, fun l h => by cases h⟩
  ) rfl ⟨l28a, l28b, ⟨_, _, l28c⟩⟩ ⟨l28d, ⟨_, _, l28e⟩, l28f, l28g⟩
def m17 : List Cm := [.cell 0, .cell 1, .cell 2, .cell 3, .cell 4, .cell 5, .cell 6, .cell 7, .cell 8]
noncomputable def H17 : Cfg := edH 5 [0, 1] [] (@headOf (fkE relS0 [] true) (Ec 17) (aF tRace.length :: aG tRace.length :: []) (hL tRace.length))
theorem l17a : @runB (fkE relN0 [] false) (Ec 17) (aF tRace.length :: aG tRace.length :: []) (hL tRace.length) nx0 = true := by kernel_rfl
theorem l17b : @runB (fkE relE0 [] true) (Ec 17) (aF tRace.length :: aG tRace.length :: []) (hL tRace.length) nx0 = true := by kernel_rfl
theorem l17c : ∀ b, @enterT (fkE relS0 [] b) (Ec 17) hdIL 1000 sgF [kLF, kLG] [] H17 (aF tRace.length :: aG tRace.length :: []) (hL tRace.length) nx0 = some [headE [] H17] := by intro b; cases b <;> kernel_rfl
theorem l17d : gcH [kLF, kLG] H17.hp = H17.hp := by kernel_rfl
theorem l17e : ∀ b, @turnT (fkL 2 mxI tRace m17 m17.length true b) (Ec 17) (loopAt 17 0 4) 1000 sgT [kLF, kLG] [] H17 H17 = some [headE [] H17] := by intro b; cases b <;> kernel_rfl
theorem l17f : @runK (fkL 1 1 tRace m17 m17.length true true) (Ec 17) H17 = true := by kernel_rfl
theorem l17g : noB (Ec 17) tRace m17 H17 = true := by kernel_rfl
theorem c17 : CmpL Tryz.prog 17 tRace [] := cmpL_of (envC 17) rfl (noC 17) (by decide) rfl (fun c hc => by
    simp only [List.mem_cons, List.not_mem_nil, or_false, m17] at hc
    rcases hc with rfl | rfl | rfl | rfl | rfl | rfl | rfl | rfl | rfl
    · exact ⟨_, rfl, fun l h => by cases h⟩
    · exact ⟨_, rfl, fun l h => by cases h⟩
    · exact ⟨_, rfl, fun l h => by cases h⟩
    · exact ⟨_, rfl, fun l h => by cases h⟩
    · exact ⟨_, rfl, fun l h => by cases h⟩
    · exact ⟨_, rfl, fun l h => by cases h⟩
    · exact ⟨_, rfl, fun l h => by cases h⟩
    · exact ⟨_, rfl, fun l h => by cases h⟩
    · exact ⟨_, rfl, fun l h => by cases h⟩
  ) rfl ⟨l17a, l17b, ⟨_, _, l17c⟩⟩ ⟨l17d, ⟨_, _, l17e⟩, l17f, l17g⟩
def m10 : List Cm := [.cell 0]
noncomputable def H10 : Cfg := edH 13 [0, 1, 12] [] (@headOf (fkE relS0 [] true) (Ec 10) (aF [I].length :: aG [I].length :: []) (hL [I].length))
theorem l10a : @runB (fkE relN0 [] false) (Ec 10) (aF [I].length :: aG [I].length :: []) (hL [I].length) nx0 = true := by kernel_rfl
theorem l10b : @runB (fkE relE0 [] true) (Ec 10) (aF [I].length :: aG [I].length :: []) (hL [I].length) nx0 = true := by kernel_rfl
theorem l10c : ∀ b, @enterT (fkE relS0 [] b) (Ec 10) hdIL 1000 sgF [kLF, kLG] [] H10 (aF [I].length :: aG [I].length :: []) (hL [I].length) nx0 = some [headE [] H10] := by intro b; cases b <;> kernel_rfl
theorem l10d : gcH [kLF, kLG] H10.hp = H10.hp := by kernel_rfl
theorem l10e : ∀ b, @turnT (fkL 2 mxI [I] m10 m10.length true b) (Ec 10) (loopAt 10 0 4) 1000 sgT [kLF, kLG] [] H10 H10 = some [headE [] H10] := by intro b; cases b <;> kernel_rfl
theorem l10f : @runK (fkL 1 1 [I] m10 m10.length true true) (Ec 10) H10 = true := by kernel_rfl
theorem l10g : noB (Ec 10) [I] m10 H10 = true := by kernel_rfl
theorem c10 : CmpL Tryz.prog 10 [I] [] := cmpL_of (envC 10) rfl (noC 10) (by decide) rfl (fun c hc => by
    simp only [List.mem_cons, List.not_mem_nil, or_false, m10] at hc
    rcases hc with rfl
    · exact ⟨_, rfl, fun l h => by cases h⟩
  ) rfl ⟨l10a, l10b, ⟨_, _, l10c⟩⟩ ⟨l10d, ⟨_, _, l10e⟩, l10f, l10g⟩
def m12 : List Cm := [.cell 0]
noncomputable def H12 : Cfg := edH 13 [0, 1, 12] [] (@headOf (fkE relS0 [] true) (Ec 12) (aF [I].length :: aG [I].length :: []) (hL [I].length))
theorem l12a : @runB (fkE relN0 [] false) (Ec 12) (aF [I].length :: aG [I].length :: []) (hL [I].length) nx0 = true := by kernel_rfl
theorem l12b : @runB (fkE relE0 [] true) (Ec 12) (aF [I].length :: aG [I].length :: []) (hL [I].length) nx0 = true := by kernel_rfl
theorem l12c : ∀ b, @enterT (fkE relS0 [] b) (Ec 12) hdIL 1000 sgF [kLF, kLG] [] H12 (aF [I].length :: aG [I].length :: []) (hL [I].length) nx0 = some [headE [] H12] := by intro b; cases b <;> kernel_rfl
theorem l12d : gcH [kLF, kLG] H12.hp = H12.hp := by kernel_rfl
theorem l12e : ∀ b, @turnT (fkL 2 mxI [I] m12 m12.length true b) (Ec 12) (loopAt 12 0 4) 1000 sgT [kLF, kLG] [] H12 H12 = some [headE [] H12] := by intro b; cases b <;> kernel_rfl
theorem l12f : @runK (fkL 1 1 [I] m12 m12.length true true) (Ec 12) H12 = true := by kernel_rfl
theorem l12g : noB (Ec 12) [I] m12 H12 = true := by kernel_rfl
theorem c12 : CmpL Tryz.prog 12 [I] [] := cmpL_of (envC 12) rfl (noC 12) (by decide) rfl (fun c hc => by
    simp only [List.mem_cons, List.not_mem_nil, or_false, m12] at hc
    rcases hc with rfl
    · exact ⟨_, rfl, fun l h => by cases h⟩
  ) rfl ⟨l12a, l12b, ⟨_, _, l12c⟩⟩ ⟨l12d, ⟨_, _, l12e⟩, l12f, l12g⟩
def m25 : List Cm := [.cell 0, .cell 1]
noncomputable def H25 : Cfg := edH 13 [0, 1, 12] [] (@headOf (fkE relS0 [] true) (Ec 25) (aF tTurn.length :: aG tTurn.length :: []) (hL tTurn.length))
theorem l25a : @runB (fkE relN0 [] false) (Ec 25) (aF tTurn.length :: aG tTurn.length :: []) (hL tTurn.length) nx0 = true := by kernel_rfl
theorem l25b : @runB (fkE relE0 [] true) (Ec 25) (aF tTurn.length :: aG tTurn.length :: []) (hL tTurn.length) nx0 = true := by kernel_rfl
theorem l25c : ∀ b, @enterT (fkE relS0 [] b) (Ec 25) hdIL 1000 sgF [kLF, kLG] [] H25 (aF tTurn.length :: aG tTurn.length :: []) (hL tTurn.length) nx0 = some [headE [] H25] := by intro b; cases b <;> kernel_rfl
theorem l25d : gcH [kLF, kLG] H25.hp = H25.hp := by kernel_rfl
theorem l25e : ∀ b, @turnT (fkL 2 mxI tTurn m25 m25.length true b) (Ec 25) (loopAt 25 0 4) 1000 sgT [kLF, kLG] [] H25 H25 = some [headE [] H25] := by intro b; cases b <;> kernel_rfl
theorem l25f : @runK (fkL 1 1 tTurn m25 m25.length true true) (Ec 25) H25 = true := by kernel_rfl
theorem l25g : noB (Ec 25) tTurn m25 H25 = true := by kernel_rfl
theorem c25 : CmpL Tryz.prog 25 tTurn [] := cmpL_of (envC 25) rfl (noC 25) (by decide) rfl (fun c hc => by
    simp only [List.mem_cons, List.not_mem_nil, or_false, m25] at hc
    rcases hc with rfl | rfl
    · exact ⟨_, rfl, fun l h => by cases h⟩
    · exact ⟨_, rfl, fun l h => by cases h⟩
  ) rfl ⟨l25a, l25b, ⟨_, _, l25c⟩⟩ ⟨l25d, ⟨_, _, l25e⟩, l25f, l25g⟩
def m11 : List Cm := [.cell 0, .cell 1, .cell 2, .cell 3, .cell 4, .cell 5, .cell 6, .cell 7, .cell 8]
noncomputable def H11 : Cfg := edH 13 [0, 1, 12] [] (@headOf (fkE relS0 [] true) (Ec 11) (aF tRace.length :: aG tRace.length :: []) (hL tRace.length))
theorem l11a : @runB (fkE relN0 [] false) (Ec 11) (aF tRace.length :: aG tRace.length :: []) (hL tRace.length) nx0 = true := by kernel_rfl
theorem l11b : @runB (fkE relE0 [] true) (Ec 11) (aF tRace.length :: aG tRace.length :: []) (hL tRace.length) nx0 = true := by kernel_rfl
theorem l11c : ∀ b, @enterT (fkE relS0 [] b) (Ec 11) hdIL 1000 sgF [kLF, kLG] [] H11 (aF tRace.length :: aG tRace.length :: []) (hL tRace.length) nx0 = some [headE [] H11] := by intro b; cases b <;> kernel_rfl
theorem l11d : gcH [kLF, kLG] H11.hp = H11.hp := by kernel_rfl
theorem l11e : ∀ b, @turnT (fkL 2 mxI tRace m11 m11.length true b) (Ec 11) (loopAt 11 0 4) 1000 sgT [kLF, kLG] [] H11 H11 = some [headE [] H11] := by intro b; cases b <;> kernel_rfl
theorem l11f : @runK (fkL 1 1 tRace m11 m11.length true true) (Ec 11) H11 = true := by kernel_rfl
theorem l11g : noB (Ec 11) tRace m11 H11 = true := by kernel_rfl
theorem c11 : CmpL Tryz.prog 11 tRace [] := cmpL_of (envC 11) rfl (noC 11) (by decide) rfl (fun c hc => by
    simp only [List.mem_cons, List.not_mem_nil, or_false, m11] at hc
    rcases hc with rfl | rfl | rfl | rfl | rfl | rfl | rfl | rfl | rfl
    · exact ⟨_, rfl, fun l h => by cases h⟩
    · exact ⟨_, rfl, fun l h => by cases h⟩
    · exact ⟨_, rfl, fun l h => by cases h⟩
    · exact ⟨_, rfl, fun l h => by cases h⟩
    · exact ⟨_, rfl, fun l h => by cases h⟩
    · exact ⟨_, rfl, fun l h => by cases h⟩
    · exact ⟨_, rfl, fun l h => by cases h⟩
    · exact ⟨_, rfl, fun l h => by cases h⟩
    · exact ⟨_, rfl, fun l h => by cases h⟩
  ) rfl ⟨l11a, l11b, ⟨_, _, l11c⟩⟩ ⟨l11d, ⟨_, _, l11e⟩, l11f, l11g⟩
end
end Same
end Go.Proofs.YtiofeejnmnfbiaaGreatDoor
