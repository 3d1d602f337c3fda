/-
  CompileDeep: whatever depth and kind come in, the law answers true and leaves both numbers as they were; the listed package-level variables hold what the program's text lays in them.
-/
import Derived.Test.YtdogbhahpfcggaaGreatDoorTie
import Derived.Test.YtdogbhahpfcggaaGreatDoorCards
import Derived.Test.YtdogbhahpfcggaaGreatDoorRuns
import Derived.Test.YtdogbhahpfcggaaGreatDoorEvC
import Derived.ProofKit
import Derived.OpenShut
import Derived.LaidMore
import Derived.Lay
import Derived.SevenTiedAt
import Derived.Stop.Joined
namespace Go.Proofs.YtdogbhahpfcggaaGreatDoor.Deep
open Go.ChangeShapes Go.WideShapes Go.ChangeAt Go.RowKit Go.Ev

theorem own : ownKnob Tryz.prog.godebug = none := by kernel_rfl

/-- known() answers true -/
theorem known {W : World} (hi : IniR gs W) : Calls Tryz.prog 4 #[] W (fun e w' => e = .returned (.bool true) ∧ Ext W.heap.size W w') :=
  ini_calls env0 hi bits (fun h => by rw [show E0.sum = 100000 from rfl, noSum] at h; cases h) (vs := []) (fun μ => .nil) runKnown

theorem deepRun {W : World} (hi : IniR gs W) {vs : List AV} {args : Array Value} (hv : ∀ μ, VRs μ vs args.toList) (hrun : startB E1 100000 3 vs (initH gs) (Key.ofNat 30) = true) :
    Calls Tryz.prog 3 args W (fun e w' => e = .returned (.bool true) ∧ Ext W.heap.size W w') :=
  ini_calls env1 hi bits (fun _ _ hw => known hw) hv hrun

theorem walk (a0 a1 : Int) (w0 : (Lit.int .i64 a0).wf = true) (w1 : (Lit.int .i64 a1).wf = true) (W : World) (hL : laidMetH Tryz.prog rowLaid W) :
    Calls Tryz.prog 3 #[.int .i64 a0, .int .i64 a1] W (fun e w' => e = .returned (.bool true) ∧ Ext W.heap.size W w') := by
  have hi : IniR gs W := ini_met env0 hL gsEq
  have b0 : -9223372036854775808 ≤ a0 ∧ a0 ≤ 9223372036854775807 := by
    simp only [Lit.wf, Bool.and_eq_true, decide_eq_true_eq] at w0
    exact w0
  have b1 : -9223372036854775808 ≤ a1 ∧ a1 ≤ 9223372036854775807 := by
    simp only [Lit.wf, Bool.and_eq_true, decide_eq_true_eq] at w1
    exact w1
  have any1 : ∀ μ, VRs μ [.any] [.int .i64 a1] := fun μ => .cons (by simp only [VR]; exact trivial) .nil
  by_cases h0 : a0 < 0
  · exact deepRun hi (fun μ => .cons (by simp only [VR]; exact ⟨a0, rfl, by omega, by omega⟩) (any1 μ)) runLow
  by_cases h1 : 30 < a0
  · exact deepRun hi (fun μ => .cons (by simp only [VR]; exact ⟨a0, rfl, by omega, by omega⟩) (any1 μ)) runHigh
  by_cases h2 : a1 < 0
  · exact deepRun hi (fun μ => .cons (by simp only [VR]; exact ⟨a0, rfl, by omega, by omega⟩) (.cons (by simp only [VR]; exact ⟨a1, rfl, by omega, by omega⟩) .nil)) runNeg
  obtain ⟨d, rfl⟩ : ∃ d : Nat, a0 = d := ⟨a0.toNat, by omega⟩
  obtain ⟨k, rfl⟩ : ∃ k : Nat, a1 = k := ⟨a1.toNat, by omega⟩
  exact deepRun hi (fun μ => .cons (by simp only [VR]; rfl) (.cons (by simp only [VR]; exact ⟨k, rfl, rfl⟩) .nil)) (runs d (k % 4) (by omega) (Nat.mod_lt _ (by omega)))

set_option maxRecDepth 100000 in
theorem lifted (os : Os) (started : os.Started) (H : Type) (enc : TypeId × Value → H) :
    ReturnsInHanded {} Tryz.checked os 3 .any (fun w args => (Rows.compileDeepSpec.pre enc Tryz.prog Tryz.f3 Rows.compileDeepRow.domain false w args ∧ laidMetH Tryz.prog rowLaid w) ∧ sizedMet enc Tryz.prog Tryz.f3 (OpenSpec.ofChange Rows.compileDeepSpec) false w args)
      (Rows.compileDeepSpec.post enc Tryz.prog Tryz.f3 false true false false) := by
  refine returnsInHanded_of_change_and (C := Tryz.checked) (X := fun w _ => laidMetH Tryz.prog rowLaid w) (fun _ _ _ hh h => h.of_heap hh) own started (by kernel_rfl) Tryz.func3
    (ChangeSpec.witness_shaped (enc := enc) (C := Tryz.checked) (os := os) (X := fun w _ => laidMetH Tryz.prog rowLaid w) false (World.laidAll Tryz.prog os rowLaid) #[.int .i64 0, .int .i64 0] 8 (World.laidAll_os _ _ _)
      (World.shaped_of_ZipB (by kernel_rfl) (by kernel_rfl)) (by kernel_rfl) (by kernel_rfl) (by kernel_rfl)
      (by rw [MakeChecks.laidMetH_plain _ _ _ (by kernel_rfl)]; exact laidMet_laidAll _ (by kernel_rfl) (by kernel_rfl))) ?_
  intro W base args ds gs' before hval0 hW hc _ hL _
  have hval : ∀ (j : Nat) t v, Tryz.f3.params[j]? = some t → args[j]? = some v → Value.okWide Tryz.prog W .any base t v := hval0
  have hW' := hW
  obtain ⟨p, q, hA0, hV, rfl, hfz, hnd⟩ := hW
  have hA : DataW.TrodAll enc Tryz.prog W 0 (fun _ => true) true Tryz.f3.params.toList args.toList ds p := hA0
  rw [Tryz.params3] at hA hval
  obtain ⟨v0, vs0, d0, ds0, p0, q0, hargs, rfl, rfl, h0, r0⟩ := trodAll_cons hA
  obtain ⟨v1, vs1, d1, ds1, p1, q1, rfl, rfl, rfl, h1, r1⟩ := trodAll_cons r0
  obtain ⟨rfl, rfl, rfl⟩ := trodAll_nil r1
  obtain rfl : args = #[v0, v1] := by cases args; simp_all
  obtain ⟨rfl, rfl⟩ := trodVars_none hV
  obtain ⟨a0, rfl, rfl, rfl, w0⟩ := open_int Tryz.underlying3 (hval 0 3 v0 rfl rfl) h0
  obtain ⟨a1, rfl, rfl, rfl, w1⟩ := open_int Tryz.underlying3 (hval 1 3 v1 rfl rfl) h1
  clear hA0 hval0
  simp only [List.append_nil] at hW'
  refine (walk a0 a1 w0 w1 W hL).mono fun e W' ⟨he, hg⟩ => ?_
  subst he
  exact ⟨_, rfl, post_of_ext (pa := []) (pv := []) hW' (fun _ _ _ => (trodAll_cons_mk (shut_bool Tryz.underlying4 _) trodAll_mk0)) (fun sp _ => (trodAll_cons_mk (shut_int Tryz.underlying3 w0) (trodAll_cons_mk (shut_int Tryz.underlying3 w1) trodAll_mk0))) (fun _ _ => rfl) hg⟩

theorem holds : Rows.CompileDeepSaid :=
  OpenClaim.holds_of_wide 3 Tryz.f3 rfl rfl rfl rfl rfl rfl rfl ⟨rfl, rfl, rfl, rfl, rfl⟩ rfl rfl rfl rfl rfl (by kernel_rfl) Tryz.func3 (by kernel_rfl)
    (of_decide_eq_true (by kernel_rfl)) (by unfold Func.isWrapper; first | (rw [if_pos (by decide +kernel)]; kernel_rfl) | (rw [if_neg (by decide +kernel)]; exact ⟨rfl, rfl⟩))
    (fun os started H enc _ => lifted os started H enc)

/-- THE STATEMENT: the tied card -/
theorem card_holds : Rows.CompileDeepCardSaid :=
  Claim7.holds_tied_plain_at .later [] [.data, .data, .data, .sentinel, .sentinel, .data, .data, .data] true (true, "3d00271d40ef35feab6d18cb388f2318cde261ac90df220d9d90a38f68e4f441") true holds (fun _ h => by cases h) (by kernel_rfl) (fun _ h => by cases h) compileDeep_row_tie rfl ⟨rfl, rfl⟩ (by kernel_rfl) rfl
    (fun f fn hf hfn => by
      obtain rfl : f = 3 := Option.some.inj ((show Tryz.prog.funcNamed "warp/warplaw08.CompileDeep" = some 3 by kernel_rfl).symm.trans hf) |>.symm
      obtain rfl : fn = Tryz.f3 := (Option.some.inj (Tryz.func3.symm.trans hfn)).symm
      exact ⟨by kernel_rfl, fun j t ht => by
        rw [Tryz.params3] at ht
        have hm : t ∈ [3, 3] := by simpa using Array.mem_of_getElem? ht
        have hall : ([3, 3].all fun u => !Tryz.prog.wantsStandIn u) = true := by kernel_rfl
        exact (show Tryz.prog.wantsStandIn t = false by simpa using List.all_eq_true.1 hall t hm)⟩)
    (by kernel_rfl)
#print axioms card_holds
end Go.Proofs.YtdogbhahpfcggaaGreatDoor.Deep
