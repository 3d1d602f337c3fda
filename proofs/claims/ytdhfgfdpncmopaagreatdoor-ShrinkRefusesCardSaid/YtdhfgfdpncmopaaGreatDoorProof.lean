/-
  ShrinkRefuses: whatever number and ending come in, the law answers true and leaves them as they were; the listed package-level variables hold what the program's text lays in them.
-/
import Derived.Test.YtdhfgfdpncmopaaGreatDoorTie
import Derived.Test.YtdhfgfdpncmopaaGreatDoorCards
import Derived.Test.YtdhfgfdpncmopaaGreatDoorWk
import Derived.Test.YtdhfgfdpncmopaaGreatDoorFa1
import Derived.Test.YtdhfgfdpncmopaaGreatDoorFa2
import Derived.ProofKit
import Derived.Carry
import Derived.OpenShut
import Derived.LaidMore
import Derived.Lay
import Derived.SevenTiedAt
import Derived.Stop.Joined
set_option linter.unusedVariables false
namespace Go.Proofs.YtdhfgfdpncmopaaGreatDoor.Shrink
open Go.ChangeShapes Go.WideShapes Go.ChangeAt Go.RowKit Go.Ev

theorem own : ownKnob Tryz.prog.godebug = none := by kernel_rfl

theorem wf64 {a : Int} (h : (Lit.int .i64 a).wf = true) : -9223372036854775808 ≤ a ∧ a ≤ 9223372036854775807 := by
  simp only [Lit.wf, Bool.and_eq_true, decide_eq_true_eq] at h
  exact h
def evL1 : List AV := [.rng .i64 (-9223372036854775808) 9223372036854775807, .rng .i64 (-9223372036854775808) 9223372036854775807]
theorem evAbs1 : absT E1 8 25 = some evL1 := by kernel_rfl
theorem evAgg1 : (match E1.und 25 with | some td => isAggT td | none => false) = true := by kernel_rfl

theorem walkV (m : Int) (wm : (Lit.int .i64 m).wf = true) (v1 : Value) (hv1 : ∀ μ, VR μ (.agg evL1) v1) (W : World) (hL : laidMetH Tryz.prog rowLaid W) :
    Calls Tryz.prog 3 #[.int .i64 m, v1] W (fun e w' => e = .returned (.bool true) ∧ Ext W.heap.size W w') := by
  have h0 := hv1 (fun _ _ => none)
  simp only [VR] at h0
  obtain ⟨cs, rfl, hc⟩ := h0
  obtain ⟨x, r, e1, hx, hc⟩ := hc.cons_inv
  obtain ⟨y, r1, e2, hy, hc⟩ := hc.cons_inv
  have e4 := hc.nil_inv
  subst e4 e2
  simp only [VR] at hx hy
  obtain ⟨a, rfl, a1, a2⟩ := hx
  obtain ⟨b, rfl, b1, b2⟩ := hy
  exact walk hL (wf64 wm) ⟨b1, b2⟩ ⟨a1, a2⟩ cs e1

set_option maxRecDepth 100000 in
theorem lifted (os : Os) (started : os.Started) (H : Type) (enc : TypeId × Value → H) :
    ReturnsInHanded {} Tryz.checked os 3 .any (fun w args => (Rows.shrinkRefusesSpec.pre enc Tryz.prog Tryz.f3 Rows.shrinkRefusesRow.domain false w args ∧ laidMetH Tryz.prog rowLaid w) ∧ sizedMet enc Tryz.prog Tryz.f3 (OpenSpec.ofChange Rows.shrinkRefusesSpec) false w args)
      (Rows.shrinkRefusesSpec.post enc Tryz.prog Tryz.f3 false true false false) := by
  refine returnsInHanded_of_change_and (C := Tryz.checked) (X := fun w _ => laidMetH Tryz.prog rowLaid w) (fun _ _ _ hh h => h.of_heap hh) own started noInit Tryz.func3
    (ChangeSpec.witness_shaped (enc := enc) (C := Tryz.checked) (os := os) (X := fun w _ => laidMetH Tryz.prog rowLaid w) false (World.laidAll Tryz.prog os rowLaid) wArgs 8 (World.laidAll_os _ _ _)
      (World.shaped_of_ZipB (zipW os) (restW os)) (okW os) (preW os H enc) (sizW os H enc) (metW os)) ?_
  intro W base args ds gs' before hval0 hW hcnd _ hL _
  have hval : ∀ (j : Nat) t v, Tryz.f3.params[j]? = some t → args[j]? = some v → Value.okWide Tryz.prog W .any base t v := hval0
  have hW' := hW
  obtain ⟨p, q, hA0, hV, rfl, hfz, hnd⟩ := hW
  have hA : DataW.TrodAll enc Tryz.prog W 0 (fun _ => true) true Tryz.f3.params.toList args.toList ds p := hA0
  rw [Tryz.params3] at hA hval
  obtain ⟨v0, vs0, d0, ds0, p0, q0, hargs, rfl, rfl, h0, r0⟩ := trodAll_cons hA
  obtain ⟨v1, vs1, d1, ds1, p1, q1, rfl, rfl, rfl, h1, r1⟩ := trodAll_cons r0
  obtain ⟨rfl, rfl, rfl⟩ := trodAll_nil r1
  obtain rfl : args = #[v0, v1] := by cases args; simp_all
  obtain ⟨rfl, rfl⟩ := trodVars_none hV
  obtain ⟨a0, rfl, rfl, rfl, w0⟩ := open_int Tryz.underlying3 (hval 0 3 v0 rfl rfl) h0
  have hv1 : ∀ μ, VR μ (.agg evL1) v1 := fun μ => absV_sound env1 (n := 8) (t := 25) evAgg1 (hval 1 25 v1 rfl rfl) h1 evAbs1
  clear hA0 hval0
  simp only [List.append_nil] at hW'
  have hlt1 : ∀ x ∈ p1, x.block < W.heap.size := fun x hx => hW'.lt x (by simp [hx])
  refine (walkV a0 w0 v1 hv1 W hL).mono fun e W' ⟨he, hg⟩ => ?_
  subst he
  exact ⟨_, rfl, post_of_ext' (pa := p1) (pv := []) hW' (fun _ _ _ => (trodAll_cons_mk (shut_bool Tryz.underlying4 _) trodAll_mk0))
    (by
      have hh := (trodAll_cons_mk (shut_int Tryz.underlying3 w0) (trodAll_cons_mk (Go.RowKit.Below.trod (P := Tryz.prog) laidOut read25 lt25 h1 (below_of_ext hg) hlt1) trodAll_mk0))
      simp only [List.append_nil] at hh
      exact hh) rfl hg⟩

theorem holds : Rows.ShrinkRefusesSaid :=
  OpenClaim.holds_of_wide 3 Tryz.f3 rfl rfl rfl rfl rfl rfl rfl ⟨rfl, rfl, rfl, rfl, rfl⟩ rfl rfl rfl rfl rfl named3 Tryz.func3 closedF inst3 wrap3
    (fun os started H enc _ => lifted os started H enc)

end Go.Proofs.YtdhfgfdpncmopaaGreatDoor.Shrink
