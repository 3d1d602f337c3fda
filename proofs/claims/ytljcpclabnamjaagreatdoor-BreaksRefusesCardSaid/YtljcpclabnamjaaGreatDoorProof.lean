/-
  BreaksRefuses: whatever three numbers come in, the law answers true and leaves them as they were; the listed package-level variables hold what the program's text lays in them.
-/
import Derived.Test.YtljcpclabnamjaaGreatDoorTie
import Derived.Test.YtljcpclabnamjaaGreatDoorCards
import Derived.Test.YtljcpclabnamjaaGreatDoorRuns
import Derived.Test.YtljcpclabnamjaaGreatDoorFa1
import Derived.Test.YtljcpclabnamjaaGreatDoorFa2
import Derived.ProofKit
import Derived.Carry
import Derived.OpenShut
import Derived.LaidMore
import Derived.Lay
import Derived.SevenTiedAt
import Derived.Stop.Joined
set_option linter.unusedVariables false
namespace Go.Proofs.YtljcpclabnamjaaGreatDoor.Brk
open Go.ChangeShapes Go.WideShapes Go.ChangeAt Go.RowKit Go.Ev

theorem own : ownKnob Tryz.prog.godebug = none := by kernel_rfl

/-- known() answers true -/
theorem known {W : World} (hi : IniR gs W) : Calls Tryz.prog E1.sum #[] W (fun e w' => e = .returned (.bool true) ∧ Ext W.heap.size W w') :=
  ini_calls env0 hi bits (fun h => by rw [show E0.sum = 100000 from rfl, noSum] at h; cases h) (vs := []) (fun μ => .nil) runKnown

theorem lawRun {W : World} (hi : IniR gs W) {n : Nat} {nx : Key} {vs : List AV} {args : Array Value} (hv : ∀ μ, VRs μ vs args.toList) (hrun : startB E1 n 3 vs (initH gs) nx = true) :
    Calls Tryz.prog 3 args W (fun e w' => e = .returned (.bool true) ∧ Ext W.heap.size W w') :=
  ini_calls env1 hi bits (fun _ _ hw => known hw) hv hrun
theorem wf64 {a : Int} (h : (Lit.int .i64 a).wf = true) : -9223372036854775808 ≤ a ∧ a ≤ 9223372036854775807 := by
  simp only [Lit.wf, Bool.and_eq_true, decide_eq_true_eq] at h
  exact h
theorem any64 (a : Int) (μ : Mu) : VR μ .any (.int .i64 a) := by simp only [VR]; exact trivial
theorem rng64 {a lo hi : Int} (h : lo ≤ a ∧ a ≤ hi) (μ : Mu) : VR μ (.rng .i64 lo hi) (.int .i64 a) := by simp only [VR]; exact ⟨a, rfl, h.1, h.2⟩
theorem int64 (a : Int) (μ : Mu) : VR μ (.int .i64 a) (.int .i64 a) := by simp only [VR]


theorem intI (k : Nat) (μ : Mu) : VR μ (I k) (.int .i64 (k : Int)) := by
  unfold I
  simp only [VR]
  rfl

theorem walk (a0 : Int) (w0 : (Lit.int .i64 a0).wf = true) (a1 : Int) (w1 : (Lit.int .i64 a1).wf = true) (a2 : Int) (w2 : (Lit.int .i64 a2).wf = true) (W : World) (hL : laidMetH Tryz.prog rowLaid W) :
    Calls Tryz.prog 3 #[.int .i64 a0, .int .i64 a1, .int .i64 a2] W (fun e w' => e = .returned (.bool true) ∧ Ext W.heap.size W w') := by
  have hi : IniR gs W := ini_met env0 hL gsEq
  have b0 := wf64 w0
  have b1 := wf64 w1
  have b2 := wf64 w2
  have three : ∀ (x y z : AV), (∀ μ, VR μ x (.int .i64 a0)) → (∀ μ, VR μ y (.int .i64 a1)) → (∀ μ, VR μ z (.int .i64 a2)) → ∀ μ, VRs μ [x, y, z] [.int .i64 a0, .int .i64 a1, .int .i64 a2] :=
    fun x y z hx hy hz μ => .cons (hx μ) (.cons (hy μ) (.cons (hz μ) .nil))
  by_cases c1 : a0 ≤ -2
  · exact lawRun hi (three _ _ _ (rng64 ⟨b0.1, c1⟩) (any64 a1) (any64 a2)) lf0
  by_cases c2 : 2 ≤ a0
  · exact lawRun hi (three _ _ _ (rng64 ⟨c2, b0.2⟩) (any64 a1) (any64 a2)) lf1
  by_cases c3 : a1 ≤ -1
  · exact lawRun hi (three _ _ _ (rng64 ⟨by omega, by omega⟩) (rng64 ⟨b1.1, c3⟩) (any64 a2)) lf2
  by_cases c4 : 71 ≤ a1
  · exact lawRun hi (three _ _ _ (rng64 ⟨by omega, by omega⟩) (rng64 ⟨c4, b1.2⟩) (any64 a2)) lf3
  have h1 : ∀ μ, VR μ (.rng .i64 0 70) (.int .i64 a1) := rng64 ⟨by omega, by omega⟩
  have cases2 : a2 ≤ -1 ∨ 6 ≤ a2 ∨ a2 = (0 : Nat) ∨ a2 = (1 : Nat) ∨ a2 = (2 : Nat) ∨ a2 = (3 : Nat) ∨ a2 = (4 : Nat) ∨ a2 = (5 : Nat) := by omega
  have cases0 : a0 = -1 ∨ a0 = (0 : Nat) ∨ a0 = (1 : Nat) := by omega
  rcases cases0 with e0 | e0 | e0
  · have h0 : ∀ μ, VR μ (.int .i64 (.negSucc 0)) (.int .i64 a0) := fun μ => by rw [e0]; exact int64 _ μ
    rcases cases2 with c | c | e | e | e | e | e | e
    · exact lawRun hi (three _ _ _ h0 h1 (rng64 ⟨b2.1, c⟩)) lb0
    · exact lawRun hi (three _ _ _ h0 h1 (rng64 ⟨c, b2.2⟩)) lb1
    · exact lawRun hi (three _ _ _ h0 h1 (by rw [e]; exact intI 0)) la0
    · exact lawRun hi (three _ _ _ h0 h1 (by rw [e]; exact intI 1)) la1
    · exact lawRun hi (three _ _ _ h0 h1 (by rw [e]; exact intI 2)) la2
    · exact lawRun hi (three _ _ _ h0 h1 (by rw [e]; exact intI 3)) la3
    · exact lawRun hi (three _ _ _ h0 h1 (by rw [e]; exact intI 4)) la4
    · exact lawRun hi (three _ _ _ h0 h1 (by rw [e]; exact intI 5)) la5
  · have h0 : ∀ μ, VR μ (I 0) (.int .i64 a0) := by rw [e0]; exact intI 0
    rcases cases2 with c | c | e | e | e | e | e | e
    · exact lawRun hi (three _ _ _ h0 h1 (rng64 ⟨b2.1, c⟩)) ld0
    · exact lawRun hi (three _ _ _ h0 h1 (rng64 ⟨c, b2.2⟩)) ld1
    · exact lawRun hi (three _ _ _ h0 h1 (by rw [e]; exact intI 0)) lc0
    · exact lawRun hi (three _ _ _ h0 h1 (by rw [e]; exact intI 1)) lc1
    · exact lawRun hi (three _ _ _ h0 h1 (by rw [e]; exact intI 2)) lc2
    · exact lawRun hi (three _ _ _ h0 h1 (by rw [e]; exact intI 3)) lc3
    · exact lawRun hi (three _ _ _ h0 h1 (by rw [e]; exact intI 4)) lc4
    · exact lawRun hi (three _ _ _ h0 h1 (by rw [e]; exact intI 5)) lc5
  · have h0 : ∀ μ, VR μ (I 1) (.int .i64 a0) := by rw [e0]; exact intI 1
    rcases cases2 with c | c | e | e | e | e | e | e
    · exact lawRun hi (three _ _ _ h0 h1 (rng64 ⟨b2.1, c⟩)) le6
    · exact lawRun hi (three _ _ _ h0 h1 (rng64 ⟨c, b2.2⟩)) le7
    · exact lawRun hi (three _ _ _ h0 h1 (by rw [e]; exact intI 0)) le0
    · exact lawRun hi (three _ _ _ h0 h1 (by rw [e]; exact intI 1)) le1
    · exact lawRun hi (three _ _ _ h0 h1 (by rw [e]; exact intI 2)) le2
    · exact lawRun hi (three _ _ _ h0 h1 (by rw [e]; exact intI 3)) le3
    · exact lawRun hi (three _ _ _ h0 h1 (by rw [e]; exact intI 4)) le4
    · exact lawRun hi (three _ _ _ h0 h1 (by rw [e]; exact intI 5)) le5

set_option maxRecDepth 100000 in
theorem lifted (os : Os) (started : os.Started) (H : Type) (enc : TypeId × Value → H) :
    ReturnsInHanded {} Tryz.checked os 3 .any (fun w args => (Rows.breaksRefusesSpec.pre enc Tryz.prog Tryz.f3 Rows.breaksRefusesRow.domain false w args ∧ laidMetH Tryz.prog rowLaid w) ∧ sizedMet enc Tryz.prog Tryz.f3 (OpenSpec.ofChange Rows.breaksRefusesSpec) false w args)
      (Rows.breaksRefusesSpec.post enc Tryz.prog Tryz.f3 false true false false) := by
  refine returnsInHanded_of_change_and (C := Tryz.checked) (X := fun w _ => laidMetH Tryz.prog rowLaid w) (fun _ _ _ hh h => h.of_heap hh) own started noInit Tryz.func3
    (ChangeSpec.witness_shaped (enc := enc) (C := Tryz.checked) (os := os) (X := fun w _ => laidMetH Tryz.prog rowLaid w) false (World.laidAll Tryz.prog os rowLaid) wArgs 8 (World.laidAll_os _ _ _)
      (World.shaped_of_ZipB (zipW os) (restW os)) (okW os) (preW os H enc) (sizW os H enc) (metW os)) ?_
  intro W base args ds gs' before hval0 hW hcnd _ hL _
  have hval : ∀ (j : Nat) t v, Tryz.f3.params[j]? = some t → args[j]? = some v → Value.okWide Tryz.prog W .any base t v := hval0
  have hW' := hW
  obtain ⟨p, q, hA0, hV, rfl, hfz, hnd⟩ := hW
  have hA : DataW.TrodAll enc Tryz.prog W 0 (fun _ => true) true Tryz.f3.params.toList args.toList ds p := hA0
  rw [Tryz.params3] at hA hval
  obtain ⟨v0, vs0, d0, ds0, p0, q0, hargs, rfl, rfl, h0, r0⟩ := trodAll_cons hA
  obtain ⟨v1, vs1, d1, ds1, p1, q1, rfl, rfl, rfl, h1, r1⟩ := trodAll_cons r0
  obtain ⟨v2, vs2, d2, ds2, p2, q2, rfl, rfl, rfl, h2, r2⟩ := trodAll_cons r1
  obtain ⟨rfl, rfl, rfl⟩ := trodAll_nil r2
  obtain rfl : args = #[v0, v1, v2] := by cases args; simp_all
  obtain ⟨rfl, rfl⟩ := trodVars_none hV
  obtain ⟨a0, rfl, rfl, rfl, w0⟩ := open_int Tryz.underlying3 (hval 0 3 v0 rfl rfl) h0
  obtain ⟨a1, rfl, rfl, rfl, w1⟩ := open_int Tryz.underlying3 (hval 1 3 v1 rfl rfl) h1
  obtain ⟨a2, rfl, rfl, rfl, w2⟩ := open_int Tryz.underlying3 (hval 2 3 v2 rfl rfl) h2
  clear hA0 hval0
  simp only [List.append_nil] at hW'
  refine (walk a0 w0 a1 w1 a2 w2 W hL).mono fun e W' ⟨he, hg⟩ => ?_
  subst he
  exact ⟨_, rfl, post_of_ext' (pa := []) (pv := []) hW' (fun _ _ _ => (trodAll_cons_mk (shut_bool Tryz.underlying4 _) trodAll_mk0))
    (trodAll_cons_mk (shut_int Tryz.underlying3 w0) (trodAll_cons_mk (shut_int Tryz.underlying3 w1) (trodAll_cons_mk (shut_int Tryz.underlying3 w2) trodAll_mk0))) rfl hg⟩

theorem holds : Rows.BreaksRefusesSaid :=
  OpenClaim.holds_of_wide 3 Tryz.f3 rfl rfl rfl rfl rfl rfl rfl ⟨rfl, rfl, rfl, rfl, rfl⟩ rfl rfl rfl rfl rfl named3 Tryz.func3 closedF inst3 wrap3
    (fun os started H enc _ => lifted os started H enc)

/-- THE STATEMENT: the tied card -/
theorem card_holds : Rows.BreaksRefusesCardSaid :=
  Claim7.holds_tied_plain_at .later [] [.data, .data, .data] true (true, "5a968a6c3c1d4809098a426b882eebce90ae99ee488efb6cbbb1834ba1a5059e") true holds (fun _ h => by cases h) (by kernel_rfl) (fun _ h => by cases h) breaksRefuses_row_tie rfl ⟨rfl, rfl⟩ (by kernel_rfl) rfl
    (fun f fn hf hfn => by
      obtain rfl : f = 3 := Option.some.inj ((show Tryz.prog.funcNamed "warp/warplaw23.BreaksRefuses" = some 3 by kernel_rfl).symm.trans hf) |>.symm
      obtain rfl : fn = Tryz.f3 := (Option.some.inj (Tryz.func3.symm.trans hfn)).symm
      exact ⟨by kernel_rfl, fun j t ht => by
        rw [Tryz.params3] at ht
        have hm : t ∈ [3, 3, 3] := by simpa using Array.mem_of_getElem? ht
        have hall : ([3, 3, 3].all fun u => !Tryz.prog.wantsStandIn u) = true := by kernel_rfl
        exact (show Tryz.prog.wantsStandIn t = false by simpa using List.all_eq_true.1 hall t hm)⟩)
    (by kernel_rfl)
#print axioms card_holds
end Go.Proofs.YtljcpclabnamjaaGreatDoor.Brk
