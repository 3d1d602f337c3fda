/-
  DebugNil: whatever move and breakpoint come in, the law answers true and leaves them as they were; the listed package-level variables hold what the program's text lays in them.
-/
import Derived.Test.YtckhjkbfaibnpaaGreatDoorTie
import Derived.Test.YtckhjkbfaibnpaaGreatDoorCards
import Derived.Test.YtckhjkbfaibnpaaGreatDoorRuns
import Derived.Test.YtckhjkbfaibnpaaGreatDoorFa1
import Derived.Test.YtckhjkbfaibnpaaGreatDoorFa2
import Derived.ProofKit
import Derived.Carry
import Derived.OpenShut
import Derived.LaidMore
import Derived.Lay
import Derived.SevenTiedAt
import Derived.Stop.Joined
set_option linter.unusedVariables false
namespace Go.Proofs.YtckhjkbfaibnpaaGreatDoor.DebN
open Go.ChangeShapes Go.WideShapes Go.ChangeAt Go.RowKit Go.Ev

theorem own : ownKnob Tryz.prog.godebug = none := by kernel_rfl

/-- known() answers true -/
theorem known {W : World} (hi : IniR gs W) : Calls Tryz.prog E1.sum #[] W (fun e w' => e = .returned (.bool true) ∧ Ext W.heap.size W w') :=
  ini_calls env0 hi bits (fun h => by rw [show E0.sum = 100000 from rfl, noSum] at h; cases h) (vs := []) (fun μ => .nil) runKnown

theorem lawRun {W : World} (hi : IniR gs W) {n : Nat} {nx : Key} {vs : List AV} {args : Array Value} (hv : ∀ μ, VRs μ vs args.toList) (hrun : startB E1 n 3 vs (initH gs) nx = true) :
    Calls Tryz.prog 3 args W (fun e w' => e = .returned (.bool true) ∧ Ext W.heap.size W w') :=
  ini_calls env1 hi bits (fun _ _ hw => known hw) hv hrun
theorem wf64 {a : Int} (h : (Lit.int .i64 a).wf = true) : -9223372036854775808 ≤ a ∧ a ≤ 9223372036854775807 := by
  simp only [Lit.wf, Bool.and_eq_true, decide_eq_true_eq] at h
  exact h
theorem any64 (a : Int) (μ : Mu) : VR μ .any (.int .i64 a) := by simp only [VR]; exact trivial
theorem rng64 {a lo hi : Int} (h : lo ≤ a ∧ a ≤ hi) (μ : Mu) : VR μ (.rng .i64 lo hi) (.int .i64 a) := by simp only [VR]; exact ⟨a, rfl, h.1, h.2⟩
theorem int64 (a : Int) (μ : Mu) : VR μ (.int .i64 a) (.int .i64 a) := by simp only [VR]
def evL0 : List AV := [.rng .i64 (-9223372036854775808) 9223372036854775807, .rng .i64 (-9223372036854775808) 9223372036854775807]
theorem evAbs0 : absT E1 8 24 = some evL0 := by kernel_rfl
theorem evAgg0 : (match E1.und 24 with | some td => isAggT td | none => false) = true := by kernel_rfl
def evL1 : List AV := [.rng .i64 (-9223372036854775808) 9223372036854775807, .rng .i64 (-9223372036854775808) 9223372036854775807]
theorem evAbs1 : absT E1 8 26 = some evL1 := by kernel_rfl
theorem evAgg1 : (match E1.und 26 with | some td => isAggT td | none => false) = true := by kernel_rfl


theorem weak2 {a b c d : Int} {v : Value} {μ : Mu} (h : VR μ (.agg [.rng .i64 a b, .rng .i64 c d]) v) : VR μ (.agg [.any, .any]) v := by
  simp only [VR] at h ⊢
  obtain ⟨cs, rfl, h⟩ := h
  refine ⟨cs, rfl, ?_⟩
  obtain ⟨x, r, e, h1, h2⟩ := h.cons_inv
  obtain ⟨y, r', e', h3, h4⟩ := h2.cons_inv
  rw [e, e', h4.nil_inv]
  simp only [VR] at h1 h3
  obtain ⟨n, rfl, _⟩ := h1
  obtain ⟨m, rfl, _⟩ := h3
  exact .cons (any64 n μ) (.cons (any64 m μ) .nil)

theorem walk (v0 : Value) (hv0 : ∀ μ, VR μ (.agg evL0) v0) (v1 : Value) (hv1 : ∀ μ, VR μ (.agg evL1) v1) (W : World) (hL : laidMetH Tryz.prog rowLaid W) :
    Calls Tryz.prog 3 #[v0, v1] W (fun e w' => e = .returned (.bool true) ∧ Ext W.heap.size W w') :=
  lawRun (ini_met env0 hL gsEq) (fun μ => .cons (weak2 (hv0 μ)) (.cons (weak2 (hv1 μ)) .nil)) runA

set_option maxRecDepth 100000 in
theorem lifted (os : Os) (started : os.Started) (H : Type) (enc : TypeId × Value → H) :
    ReturnsInHanded {} Tryz.checked os 3 .any (fun w args => (Rows.debugNilSpec.pre enc Tryz.prog Tryz.f3 Rows.debugNilRow.domain false w args ∧ laidMetH Tryz.prog rowLaid w) ∧ sizedMet enc Tryz.prog Tryz.f3 (OpenSpec.ofChange Rows.debugNilSpec) false w args)
      (Rows.debugNilSpec.post enc Tryz.prog Tryz.f3 false true false false) := by
  refine returnsInHanded_of_change_and (C := Tryz.checked) (X := fun w _ => laidMetH Tryz.prog rowLaid w) (fun _ _ _ hh h => h.of_heap hh) own started noInit Tryz.func3
    (ChangeSpec.witness_shaped (enc := enc) (C := Tryz.checked) (os := os) (X := fun w _ => laidMetH Tryz.prog rowLaid w) false (World.laidAll Tryz.prog os rowLaid) wArgs 8 (World.laidAll_os _ _ _)
      (World.shaped_of_ZipB (zipW os) (restW os)) (okW os) (preW os H enc) (sizW os H enc) (metW os)) ?_
  intro W base args ds gs' before hval0 hW hcnd _ hL _
  have hval : ∀ (j : Nat) t v, Tryz.f3.params[j]? = some t → args[j]? = some v → Value.okWide Tryz.prog W .any base t v := hval0
  have hW' := hW
  obtain ⟨p, q, hA0, hV, rfl, hfz, hnd⟩ := hW
  have hA : DataW.TrodAll enc Tryz.prog W 0 (fun _ => true) true Tryz.f3.params.toList args.toList ds p := hA0
  rw [Tryz.params3] at hA hval
  obtain ⟨v0, vs0, d0, ds0, p0, q0, hargs, rfl, rfl, h0, r0⟩ := trodAll_cons hA
  obtain ⟨v1, vs1, d1, ds1, p1, q1, rfl, rfl, rfl, h1, r1⟩ := trodAll_cons r0
  obtain ⟨rfl, rfl, rfl⟩ := trodAll_nil r1
  obtain rfl : args = #[v0, v1] := by cases args; simp_all
  obtain ⟨rfl, rfl⟩ := trodVars_none hV
  have hv0 : ∀ μ, VR μ (.agg evL0) v0 := fun μ => absV_sound env1 (n := 8) (t := 24) evAgg0 (hval 0 24 v0 rfl rfl) h0 evAbs0
  have hv1 : ∀ μ, VR μ (.agg evL1) v1 := fun μ => absV_sound env1 (n := 8) (t := 26) evAgg1 (hval 1 26 v1 rfl rfl) h1 evAbs1
  clear hA0 hval0
  simp only [List.append_nil] at hW'
  have hlt0 : ∀ x ∈ p0, x.block < W.heap.size := fun x hx => hW'.lt x (by simp [hx])
  have hlt1 : ∀ x ∈ p1, x.block < W.heap.size := fun x hx => hW'.lt x (by simp [hx])
  refine (walk v0 hv0 v1 hv1 W hL).mono fun e W' ⟨he, hg⟩ => ?_
  subst he
  exact ⟨_, rfl, post_of_ext' (pa := p0 ++ p1) (pv := []) hW' (fun _ _ _ => (trodAll_cons_mk (shut_bool Tryz.underlying4 _) trodAll_mk0))
    (by
      have hh := (trodAll_cons_mk (Go.RowKit.Below.trod (P := Tryz.prog) laidOut read24 lt24 h0 (below_of_ext hg) hlt0) (trodAll_cons_mk (Go.RowKit.Below.trod (P := Tryz.prog) laidOut read26 lt26 h1 (below_of_ext hg) hlt1) trodAll_mk0))
      simp only [List.append_nil] at hh
      exact hh) rfl hg⟩

theorem holds : Rows.DebugNilSaid :=
  OpenClaim.holds_of_wide 3 Tryz.f3 rfl rfl rfl rfl rfl rfl rfl ⟨rfl, rfl, rfl, rfl, rfl⟩ rfl rfl rfl rfl rfl named3 Tryz.func3 closedF inst3 wrap3
    (fun os started H enc _ => lifted os started H enc)

/-- THE STATEMENT: the tied card -/
theorem card_holds : Rows.DebugNilCardSaid :=
  Claim7.holds_tied_plain_at .later [] [.data, .data, .data] true (true, "591b4b31f7175517c073054a1af8fe93e76cec44d6267d47f8c162914725c2e0") true holds (fun _ h => by cases h) (by kernel_rfl) (fun _ h => by cases h) debugNil_row_tie rfl ⟨rfl, rfl⟩ (by kernel_rfl) rfl
    (fun f fn hf hfn => by
      obtain rfl : f = 3 := Option.some.inj ((show Tryz.prog.funcNamed "warp/warplaw16.DebugNil" = some 3 by kernel_rfl).symm.trans hf) |>.symm
      obtain rfl : fn = Tryz.f3 := (Option.some.inj (Tryz.func3.symm.trans hfn)).symm
      exact ⟨by kernel_rfl, fun j t ht => by
        rw [Tryz.params3] at ht
        have hm : t ∈ [24, 26] := by simpa using Array.mem_of_getElem? ht
        have hall : ([24, 26].all fun u => !Tryz.prog.wantsStandIn u) = true := by kernel_rfl
        exact (show Tryz.prog.wantsStandIn t = false by simpa using List.all_eq_true.1 hall t hm)⟩)
    (by kernel_rfl)
#print axioms card_holds
end Go.Proofs.YtckhjkbfaibnpaaGreatDoor.DebN
