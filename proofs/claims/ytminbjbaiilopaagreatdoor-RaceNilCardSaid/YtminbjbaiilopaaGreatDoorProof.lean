/-
  RaceNil: whatever event and number come in, the law answers true and leaves them as they were; the listed package-level variables hold what the program's text lays in them.
-/
import Derived.Test.YtminbjbaiilopaaGreatDoorTie
import Derived.Test.YtminbjbaiilopaaGreatDoorCards
import Derived.Test.YtminbjbaiilopaaGreatDoorRuns
import Derived.Test.YtminbjbaiilopaaGreatDoorFa1
import Derived.Test.YtminbjbaiilopaaGreatDoorFa2
import Derived.ProofKit
import Derived.Carry
import Derived.OpenShut
import Derived.LaidMore
import Derived.Lay
import Derived.SevenTiedAt
import Derived.Stop.Joined
set_option linter.unusedVariables false
namespace Go.Proofs.YtminbjbaiilopaaGreatDoor.Race
open Go.ChangeShapes Go.WideShapes Go.ChangeAt Go.RowKit Go.Ev

theorem own : ownKnob Tryz.prog.godebug = none := by kernel_rfl

/-- known() answers true -/
theorem known {W : World} (hi : IniR gs W) : Calls Tryz.prog E1.sum #[] W (fun e w' => e = .returned (.bool true) ∧ Ext W.heap.size W w') :=
  ini_calls env0 hi bits (fun h => by rw [show E0.sum = 100000 from rfl, noSum] at h; cases h) (vs := []) (fun μ => .nil) runKnown

theorem lawRun {W : World} (hi : IniR gs W) {n : Nat} {nx : Key} {vs : List AV} {args : Array Value} (hv : ∀ μ, VRs μ vs args.toList) (hrun : startB E1 n 3 vs (initH gs) nx = true) :
    Calls Tryz.prog 3 args W (fun e w' => e = .returned (.bool true) ∧ Ext W.heap.size W w') :=
  ini_calls env1 hi bits (fun _ _ hw => known hw) hv hrun
theorem wf64 {a : Int} (h : (Lit.int .i64 a).wf = true) : -9223372036854775808 ≤ a ∧ a ≤ 9223372036854775807 := by
  simp only [Lit.wf, Bool.and_eq_true, decide_eq_true_eq] at h
  exact h
theorem any64 (a : Int) (μ : Mu) : VR μ .any (.int .i64 a) := by simp only [VR]; exact trivial
theorem rng64 {a lo hi : Int} (h : lo ≤ a ∧ a ≤ hi) (μ : Mu) : VR μ (.rng .i64 lo hi) (.int .i64 a) := by simp only [VR]; exact ⟨a, rfl, h.1, h.2⟩
theorem int64 (a : Int) (μ : Mu) : VR μ (.int .i64 a) (.int .i64 a) := by simp only [VR]

def evL : List AV := [.rng .i64 (-9223372036854775808) 9223372036854775807, .rng .i64 (-9223372036854775808) 9223372036854775807, .ub, .rng .i64 (-9223372036854775808) 9223372036854775807, .sl 0 9223372036854775807, .ub, .rng .i64 (-9223372036854775808) 9223372036854775807, .rng .i64 (-9223372036854775808) 9223372036854775807, .sl 0 9223372036854775807]
theorem evAbs : absT E1 8 26 = some evL := by kernel_rfl
theorem evAgg : (match E1.und 26 with | some td => isAggT td | none => false) = true := by kernel_rfl
theorem set_vr {μ : Mu} {l : List AV} {vs : List Value} (h : VRs μ l vs) (i : Nat) (a : AV) (hi : ∀ v, vs[i]? = some v → VR μ a v) : VRs μ (l.set i a) vs :=
  .of_get (by simpa using h.length) fun j b hb => by
    rw [List.getElem?_set] at hb
    split at hb
    · rename_i e
      subst e
      split at hb
      · rename_i hl
        cases hb
        have hl' : i < vs.length := by rw [← h.length]; exact hl
        exact ⟨vs[i], List.getElem?_eq_getElem hl', hi _ (List.getElem?_eq_getElem hl')⟩
      · cases hb
    · exact h.get hb
theorem sl_vr {μ : Mu} {lo hi l c : Nat} {p : Option Addr} (h1 : lo ≤ l) (h2 : l ≤ hi) : VR μ (.sl lo hi) (.slice p l c) := by simp only [VR]; exact ⟨p, l, c, rfl, h1, h2⟩

theorem walk (v0 : Value) (a1 : Int) (hv : ∀ μ, VR μ (.agg evL) v0) (W : World) (hL : laidMetH Tryz.prog rowLaid W) :
    Calls Tryz.prog 3 #[v0, .int .i64 a1] W (fun e w' => e = .returned (.bool true) ∧ Ext W.heap.size W w') := by
  have hi : IniR gs W := ini_met env0 hL gsEq
  have h0 := hv (fun _ _ => none)
  simp only [VR] at h0
  obtain ⟨cs, rfl, hc0⟩ := h0
  have hc : ∀ μ, VRs μ evL cs.toList := fun μ => by
    have h := hv μ
    simp only [VR] at h
    obtain ⟨cs', e, h⟩ := h
    cases e
    exact h
  obtain ⟨s4, g4, h4⟩ := hc0.get (i := 4) (a := .sl 0 9223372036854775807) rfl
  obtain ⟨s8, g8, h8⟩ := hc0.get (i := 8) (a := .sl 0 9223372036854775807) rfl
  simp only [VR] at h4 h8
  obtain ⟨p4, l4, c4, rfl, _, u4⟩ := h4
  obtain ⟨p8, l8, c8, rfl, _, u8⟩ := h8
  have two : ∀ (lo hi lo' hi' : Nat), lo ≤ l4 → l4 ≤ hi → lo' ≤ l8 → l8 ≤ hi' → ∀ μ, VRs μ [.agg ((evL.set 4 (.sl lo hi)).set 8 (.sl lo' hi')), .any] [.agg cs, .int .i64 a1] := fun lo hi lo' hi' q1 q2 q3 q4 μ =>
    .cons (by
      simp only [VR]
      exact ⟨cs, rfl, set_vr (set_vr (hc μ) 4 _ (fun v e => by rw [g4] at e; cases e; exact sl_vr q1 q2)) 8 _ (fun v e => by rw [g8] at e; cases e; exact sl_vr q3 q4)⟩) (.cons (any64 _ μ) .nil)
  by_cases k4 : l4 ≤ 6
  · by_cases k8 : l8 ≤ 6
    · exact lawRun hi (two 0 6 0 6 (Nat.zero_le _) k4 (Nat.zero_le _) k8) runA
    · exact lawRun hi (two 0 6 7 9223372036854775807 (Nat.zero_le _) k4 (by omega) u8) runC
  · exact lawRun hi (two 7 9223372036854775807 0 9223372036854775807 (by omega) u4 (Nat.zero_le _) u8) runB

set_option maxRecDepth 100000 in
theorem lifted (os : Os) (started : os.Started) (H : Type) (enc : TypeId × Value → H) :
    ReturnsInHanded {} Tryz.checked os 3 .any (fun w args => (Rows.raceNilSpec.pre enc Tryz.prog Tryz.f3 Rows.raceNilRow.domain false w args ∧ laidMetH Tryz.prog rowLaid w) ∧ sizedMet enc Tryz.prog Tryz.f3 (OpenSpec.ofChange Rows.raceNilSpec) false w args)
      (Rows.raceNilSpec.post enc Tryz.prog Tryz.f3 false true false false) := by
  refine returnsInHanded_of_change_and (C := Tryz.checked) (X := fun w _ => laidMetH Tryz.prog rowLaid w) (fun _ _ _ hh h => h.of_heap hh) own started noInit Tryz.func3
    (ChangeSpec.witness_shaped (enc := enc) (C := Tryz.checked) (os := os) (X := fun w _ => laidMetH Tryz.prog rowLaid w) false (World.laidAll Tryz.prog os rowLaid) wArgs 8 (World.laidAll_os _ _ _)
      (World.shaped_of_ZipB (zipW os) (restW os)) (okW os) (preW os H enc) (sizW os H enc) (metW os)) ?_
  intro W base args ds gs' before hval0 hW hcnd _ hL _
  have hval : ∀ (j : Nat) t v, Tryz.f3.params[j]? = some t → args[j]? = some v → Value.okWide Tryz.prog W .any base t v := hval0
  have hW' := hW
  obtain ⟨p, q, hA0, hV, rfl, hfz, hnd⟩ := hW
  have hA : DataW.TrodAll enc Tryz.prog W 0 (fun _ => true) true Tryz.f3.params.toList args.toList ds p := hA0
  rw [Tryz.params3] at hA hval
  obtain ⟨v0, vs0, d0, ds0, p0, q0, hargs, rfl, rfl, h0, r0⟩ := trodAll_cons hA
  obtain ⟨v1, vs1, d1, ds1, p1, q1, rfl, rfl, rfl, h1, r1⟩ := trodAll_cons r0
  obtain ⟨rfl, rfl, rfl⟩ := trodAll_nil r1
  obtain rfl : args = #[v0, v1] := by cases args; simp_all
  obtain ⟨rfl, rfl⟩ := trodVars_none hV
  obtain ⟨a1, rfl, rfl, rfl, w1⟩ := open_int Tryz.underlying3 (hval 1 3 v1 rfl rfl) h1
  have hv : ∀ μ, VR μ (.agg evL) v0 := fun μ => absV_sound env1 (n := 8) (t := 26) evAgg (hval 0 26 v0 rfl rfl) h0 evAbs
  clear hA0 hval0
  simp only [List.append_nil] at hW'
  have hlt0 : ∀ x ∈ p0, x.block < W.heap.size := fun x hx => hW'.lt x hx
  refine (walk v0 a1 hv W hL).mono fun e W' ⟨he, hg⟩ => ?_
  subst he
  exact ⟨_, rfl, post_of_ext' (pa := p0) (pv := []) hW' (fun _ _ _ => (trodAll_cons_mk (shut_bool Tryz.underlying4 _) trodAll_mk0))
    (by
      have hh := (trodAll_cons_mk (Go.RowKit.Below.trod (P := Tryz.prog) laidOut read26 lt26 h0 (below_of_ext hg) hlt0) (trodAll_cons_mk (shut_int Tryz.underlying3 w1) trodAll_mk0))
      simp only [List.append_nil] at hh
      exact hh) rfl hg⟩

theorem holds : Rows.RaceNilSaid :=
  OpenClaim.holds_of_wide 3 Tryz.f3 rfl rfl rfl rfl rfl rfl rfl ⟨rfl, rfl, rfl, rfl, rfl⟩ rfl rfl rfl rfl rfl named3 Tryz.func3 closedF inst3 wrap3
    (fun os started H enc _ => lifted os started H enc)

/-- THE STATEMENT: the tied card -/
theorem card_holds : Rows.RaceNilCardSaid :=
  Claim7.holds_tied_plain_at .later [] [.data, .data, .data] true (true, "6286fa2b54758414dad5162c226fadc4237fbcf6061ad8573a6b09ab21c6ab28") true holds (fun _ h => by cases h) (by kernel_rfl) (fun _ h => by cases h) raceNil_row_tie rfl ⟨rfl, rfl⟩ (by kernel_rfl) rfl
    (fun f fn hf hfn => by
      obtain rfl : f = 3 := Option.some.inj ((show Tryz.prog.funcNamed "warp/warplaw14.RaceNil" = some 3 by kernel_rfl).symm.trans hf) |>.symm
      obtain rfl : fn = Tryz.f3 := (Option.some.inj (Tryz.func3.symm.trans hfn)).symm
      exact ⟨by kernel_rfl, fun j t ht => by
        rw [Tryz.params3] at ht
        have hm : t ∈ [26, 3] := by simpa using Array.mem_of_getElem? ht
        have hall : ([26, 3].all fun u => !Tryz.prog.wantsStandIn u) = true := by kernel_rfl
        exact (show Tryz.prog.wantsStandIn t = false by simpa using List.all_eq_true.1 hall t hm)⟩)
    (by kernel_rfl)
#print axioms card_holds
end Go.Proofs.YtminbjbaiilopaaGreatDoor.Race
