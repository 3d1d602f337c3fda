/- Closed facts of the card. -/
import Derived.Test.YtiofeejnmnfbiaaGreatDoorS1
import Derived.ProofKit
import Derived.Carry
import Derived.OpenShut
import Derived.LaidMore
import Derived.Lay
import Derived.Stop.Joined
import Derived.SevenTiedAt
import Derived.Test.YtiofeejnmnfbiaaGreatDoorCards
set_option linter.unusedVariables false
namespace Go.Proofs.YtiofeejnmnfbiaaGreatDoor.Same
open Go.ChangeShapes Go.WideShapes Go.ChangeAt Go.RowKit Go.Ev

theorem cW : Rows.scriptSameRow.wfByText (OpenSpec.ofChange Rows.scriptSameSpec) = true := by decide +kernel
theorem cM : Tryz.pinned.checked.prog.mainIs = some (true, ("508b082adbf9e7d97cc78779fe7d704b80785a99ffeecc300a648db4752e14d3").toList) := by decide +kernel
theorem cL : true = Tryz.pinned.checked.prog.looks [] := by decide +kernel
theorem goes_none {P : Program} (h : (P.funcs.toList.all fun fn => !fn.goes) = true) (s : Start) (hs : s = .entering) (f : String) : false = P.goesAt s f := by
  subst hs
  have h1 : ∀ fn ∈ P.funcs.toList, fn.goes = false := fun fn hf => by simpa using List.all_eq_true.1 h fn hf
  have h2 : ∀ g, P.goes g = false := by
    intro g
    unfold Program.goes
    have a : (P.funcs.any Func.goes) = false := by
      rw [← Array.any_toList]
      exact List.any_eq_false.2 fun x hx => by rw [h1 x hx]; decide
    rw [a, Bool.and_false, Bool.or_false]
    refine List.any_eq_false.2 fun x _ => ?_
    cases hx : P.funcs[x]? with
    | none => simp
    | some fn =>
      have hm : fn ∈ P.funcs.toList := by
        rw [Array.getElem?_eq_some_iff] at hx
        obtain ⟨hlt, e⟩ := hx
        rw [← e]; exact Array.getElem_mem_toList hlt
      simp [h1 fn hm]
  unfold Program.goesAt Program.goesFrom
  cases P.funcNamed f with
  | none => rfl
  | some g => simp [h2 g]
theorem noGo : (Tryz.pinned.checked.prog.funcs.toList.all fun fn => !fn.goes) = true := by kernel_rfl
theorem cG : false = Rows.scriptSameRow.goesBy Tryz.pinned.checked.prog := goes_none noGo _ rfl _
theorem cN : Tryz.pinned.checked.prog.funcNamed Rows.scriptSameRow.func = some 3 := by kernel_rfl
theorem cT : ([35, 35].all fun u => !Tryz.pinned.checked.prog.wantsStandIn u) = true := by kernel_rfl
theorem cF : Tryz.pinned.checked.prog.funcs[3]? = some Tryz.f3 := Tryz.func3
theorem cP : ∀ f fn, Tryz.pinned.checked.prog.funcNamed Rows.scriptSameRow.func = some f → Tryz.pinned.checked.prog.funcs[f]? = some fn →
    true = Tryz.pinned.checked.prog.looks [] ∧ ∀ (j : Nat) t, fn.params[j]? = some t → Tryz.pinned.checked.prog.wantsStandIn t = false := by
  intro f fn hf hfn
  rw [cN] at hf
  obtain rfl : 3 = f := Option.some.inj hf
  rw [cF] at hfn
  obtain rfl : Tryz.f3 = fn := Option.some.inj hfn
  refine ⟨cL, fun j t ht => ?_⟩
  rw [Tryz.params3] at ht
  have hm : t ∈ [35, 35] := by simpa using Array.mem_of_getElem? ht
  have := List.all_eq_true.1 cT t hm
  simpa using this
end Go.Proofs.YtiofeejnmnfbiaaGreatDoor.Same
