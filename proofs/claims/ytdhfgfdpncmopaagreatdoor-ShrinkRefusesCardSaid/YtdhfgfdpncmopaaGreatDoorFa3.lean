/- Closed facts of the card. -/
import Derived.Test.YtdhfgfdpncmopaaGreatDoorS1
import Derived.ProofKit
import Derived.Carry
import Derived.OpenShut
import Derived.LaidMore
import Derived.Lay
import Derived.Stop.Joined
import Derived.SevenTiedAt
import Derived.Test.YtdhfgfdpncmopaaGreatDoorCards
set_option linter.unusedVariables false
namespace Go.Proofs.YtdhfgfdpncmopaaGreatDoor.Shrink
open Go.ChangeShapes Go.WideShapes Go.ChangeAt Go.RowKit Go.Ev

theorem cW : Rows.shrinkRefusesRow.wfByText (OpenSpec.ofChange Rows.shrinkRefusesSpec) = true := by decide +kernel
theorem cM : Tryz.pinned.checked.prog.mainIs = some (true, ("d737aae098ca64c2104c740401c01c868c98b063c2352d5e33ce37a690f2e92f").toList) := by decide +kernel
theorem cL : true = Tryz.pinned.checked.prog.looks [] := by decide +kernel
theorem goes_none {P : Program} (h : (P.funcs.toList.all fun fn => !fn.goes) = true) (s : Start) (hs : s = .entering) (f : String) : false = P.goesAt s f := by
  subst hs
  have h1 : ∀ fn ∈ P.funcs.toList, fn.goes = false := fun fn hf => by simpa using List.all_eq_true.1 h fn hf
  have h2 : ∀ g, P.goes g = false := by
    intro g
    unfold Program.goes
    have a : (P.funcs.any Func.goes) = false := by
      rw [← Array.any_toList]
      exact List.any_eq_false.2 fun x hx => by rw [h1 x hx]; decide
    rw [a, Bool.and_false, Bool.or_false]
    refine List.any_eq_false.2 fun x _ => ?_
    cases hx : P.funcs[x]? with
    | none => simp
    | some fn =>
      have hm : fn ∈ P.funcs.toList := by
        rw [Array.getElem?_eq_some_iff] at hx
        obtain ⟨hlt, e⟩ := hx
        rw [← e]; exact Array.getElem_mem_toList hlt
      simp [h1 fn hm]
  unfold Program.goesAt Program.goesFrom
  cases P.funcNamed f with
  | none => rfl
  | some g => simp [h2 g]
theorem noGo : (Tryz.pinned.checked.prog.funcs.toList.all fun fn => !fn.goes) = true := by kernel_rfl
theorem cG : false = Rows.shrinkRefusesRow.goesBy Tryz.pinned.checked.prog := goes_none noGo _ rfl _
theorem cN : Tryz.pinned.checked.prog.funcNamed Rows.shrinkRefusesRow.func = some 3 := by kernel_rfl
theorem cT : ([3, 25].all fun u => !Tryz.pinned.checked.prog.wantsStandIn u) = true := by kernel_rfl
theorem cF : Tryz.pinned.checked.prog.funcs[3]? = some Tryz.f3 := Tryz.func3
theorem cP : ∀ f fn, Tryz.pinned.checked.prog.funcNamed Rows.shrinkRefusesRow.func = some f → Tryz.pinned.checked.prog.funcs[f]? = some fn →
    true = Tryz.pinned.checked.prog.looks [] ∧ ∀ (j : Nat) t, fn.params[j]? = some t → Tryz.pinned.checked.prog.wantsStandIn t = false := by
  intro f fn hf hfn
  rw [cN] at hf
  obtain rfl : 3 = f := Option.some.inj hf
  rw [cF] at hfn
  obtain rfl : Tryz.f3 = fn := Option.some.inj hfn
  refine ⟨cL, fun j t ht => ?_⟩
  rw [Tryz.params3] at ht
  have hm : t ∈ [3, 25] := by simpa using Array.mem_of_getElem? ht
  have := List.all_eq_true.1 cT t hm
  simpa using this
end Go.Proofs.YtdhfgfdpncmopaaGreatDoor.Shrink
