/-
  WaitsNil: whatever number comes in, the law answers true and leaves it as it was; the listed package-level variables hold what the program's text lays in them.
-/
import Derived.Test.YtfcpaakdnpeomaaGreatDoorTie
import Derived.Test.YtfcpaakdnpeomaaGreatDoorCards
import Derived.Test.YtfcpaakdnpeomaaGreatDoorRuns
import Derived.Test.YtfcpaakdnpeomaaGreatDoorFa1
import Derived.Test.YtfcpaakdnpeomaaGreatDoorFa2
import Derived.ProofKit
import Derived.Carry
import Derived.OpenShut
import Derived.LaidMore
import Derived.Lay
import Derived.SevenTiedAt
import Derived.Stop.Joined
set_option linter.unusedVariables false
namespace Go.Proofs.YtfcpaakdnpeomaaGreatDoor.WaitN
open Go.ChangeShapes Go.WideShapes Go.ChangeAt Go.RowKit Go.Ev

theorem own : ownKnob Tryz.prog.godebug = none := by kernel_rfl

/-- known() answers true -/
theorem known {W : World} (hi : IniR gs W) : Calls Tryz.prog E1.sum #[] W (fun e w' => e = .returned (.bool true) ∧ Ext W.heap.size W w') :=
  ini_calls env0 hi bits (fun h => by rw [show E0.sum = 100000 from rfl, noSum] at h; cases h) (vs := []) (fun μ => .nil) runKnown

theorem lawRun {W : World} (hi : IniR gs W) {n : Nat} {nx : Key} {vs : List AV} {args : Array Value} (hv : ∀ μ, VRs μ vs args.toList) (hrun : startB E1 n 3 vs (initH gs) nx = true) :
    Calls Tryz.prog 3 args W (fun e w' => e = .returned (.bool true) ∧ Ext W.heap.size W w') :=
  ini_calls env1 hi bits (fun _ _ hw => known hw) hv hrun
theorem wf64 {a : Int} (h : (Lit.int .i64 a).wf = true) : -9223372036854775808 ≤ a ∧ a ≤ 9223372036854775807 := by
  simp only [Lit.wf, Bool.and_eq_true, decide_eq_true_eq] at h
  exact h
theorem any64 (a : Int) (μ : Mu) : VR μ .any (.int .i64 a) := by simp only [VR]; exact trivial
theorem rng64 {a lo hi : Int} (h : lo ≤ a ∧ a ≤ hi) (μ : Mu) : VR μ (.rng .i64 lo hi) (.int .i64 a) := by simp only [VR]; exact ⟨a, rfl, h.1, h.2⟩
theorem int64 (a : Int) (μ : Mu) : VR μ (.int .i64 a) (.int .i64 a) := by simp only [VR]


theorem walk (a0 : Int) (w0 : (Lit.int .i64 a0).wf = true) (W : World) (hL : laidMetH Tryz.prog rowLaid W) :
    Calls Tryz.prog 3 #[.int .i64 a0] W (fun e w' => e = .returned (.bool true) ∧ Ext W.heap.size W w') :=
  lawRun (ini_met env0 hL gsEq) (fun μ => .cons (any64 a0 μ) .nil) runA

set_option maxRecDepth 100000 in
theorem lifted (os : Os) (started : os.Started) (H : Type) (enc : TypeId × Value → H) :
    ReturnsInHanded {} Tryz.checked os 3 .any (fun w args => (Rows.waitsNilSpec.pre enc Tryz.prog Tryz.f3 Rows.waitsNilRow.domain false w args ∧ laidMetH Tryz.prog rowLaid w) ∧ sizedMet enc Tryz.prog Tryz.f3 (OpenSpec.ofChange Rows.waitsNilSpec) false w args)
      (Rows.waitsNilSpec.post enc Tryz.prog Tryz.f3 false true false false) := by
  refine returnsInHanded_of_change_and (C := Tryz.checked) (X := fun w _ => laidMetH Tryz.prog rowLaid w) (fun _ _ _ hh h => h.of_heap hh) own started noInit Tryz.func3
    (ChangeSpec.witness_shaped (enc := enc) (C := Tryz.checked) (os := os) (X := fun w _ => laidMetH Tryz.prog rowLaid w) false (World.laidAll Tryz.prog os rowLaid) wArgs 8 (World.laidAll_os _ _ _)
      (World.shaped_of_ZipB (zipW os) (restW os)) (okW os) (preW os H enc) (sizW os H enc) (metW os)) ?_
  intro W base args ds gs' before hval0 hW hcnd _ hL _
  have hval : ∀ (j : Nat) t v, Tryz.f3.params[j]? = some t → args[j]? = some v → Value.okWide Tryz.prog W .any base t v := hval0
  have hW' := hW
  obtain ⟨p, q, hA0, hV, rfl, hfz, hnd⟩ := hW
  have hA : DataW.TrodAll enc Tryz.prog W 0 (fun _ => true) true Tryz.f3.params.toList args.toList ds p := hA0
  rw [Tryz.params3] at hA hval
  obtain ⟨v0, vs0, d0, ds0, p0, q0, hargs, rfl, rfl, h0, r0⟩ := trodAll_cons hA
  obtain ⟨rfl, rfl, rfl⟩ := trodAll_nil r0
  obtain rfl : args = #[v0] := by cases args; simp_all
  obtain ⟨rfl, rfl⟩ := trodVars_none hV
  obtain ⟨a0, rfl, rfl, rfl, w0⟩ := open_int Tryz.underlying3 (hval 0 3 v0 rfl rfl) h0
  clear hA0 hval0
  simp only [List.append_nil] at hW'
  refine (walk a0 w0 W hL).mono fun e W' ⟨he, hg⟩ => ?_
  subst he
  exact ⟨_, rfl, post_of_ext' (pa := []) (pv := []) hW' (fun _ _ _ => (trodAll_cons_mk (shut_bool Tryz.underlying4 _) trodAll_mk0))
    (trodAll_cons_mk (shut_int Tryz.underlying3 w0) trodAll_mk0) rfl hg⟩

theorem holds : Rows.WaitsNilSaid :=
  OpenClaim.holds_of_wide 3 Tryz.f3 rfl rfl rfl rfl rfl rfl rfl ⟨rfl, rfl, rfl, rfl, rfl⟩ rfl rfl rfl rfl rfl named3 Tryz.func3 closedF inst3 wrap3
    (fun os started H enc _ => lifted os started H enc)

/-- THE STATEMENT: the tied card -/
theorem card_holds : Rows.WaitsNilCardSaid :=
  Claim7.holds_tied_plain_at .later [] [.data, .data, .data, .sentinel, .sentinel, .data, .data, .data, .data, .data] true (true, "28f194b01efe6d5902487008e32a0cda844a9be6926320785df301932d26b7ff") true holds (fun _ h => by cases h) (by kernel_rfl) (fun _ h => by cases h) waitsNil_row_tie rfl ⟨rfl, rfl⟩ (by kernel_rfl) rfl
    (fun f fn hf hfn => by
      obtain rfl : f = 3 := Option.some.inj ((show Tryz.prog.funcNamed "warp/warplaw21.WaitsNil" = some 3 by kernel_rfl).symm.trans hf) |>.symm
      obtain rfl : fn = Tryz.f3 := (Option.some.inj (Tryz.func3.symm.trans hfn)).symm
      exact ⟨by kernel_rfl, fun j t ht => by
        rw [Tryz.params3] at ht
        have hm : t ∈ [3] := by simpa using Array.mem_of_getElem? ht
        have hall : ([3].all fun u => !Tryz.prog.wantsStandIn u) = true := by kernel_rfl
        exact (show Tryz.prog.wantsStandIn t = false by simpa using List.all_eq_true.1 hall t hm)⟩)
    (by kernel_rfl)
#print axioms card_holds
end Go.Proofs.YtfcpaakdnpeomaaGreatDoor.WaitN
