/-
  ScriptTells: whatever order comes in, the law answers true and leaves it as it was; the listed package-level variables hold what the program's text lays in them.
-/
import Derived.Test.YtmaokndfmohdpaaGreatDoorTie
import Derived.Test.YtmaokndfmohdpaaGreatDoorCards
import Derived.Test.YtmaokndfmohdpaaGreatDoorRuns
import Derived.Test.YtmaokndfmohdpaaGreatDoorFa1
import Derived.Test.YtmaokndfmohdpaaGreatDoorFa2
import Derived.ProofKit
import Derived.Carry
import Derived.OpenShut
import Derived.LaidMore
import Derived.Lay
import Derived.SevenTiedAt
import Derived.Stop.Joined
set_option linter.unusedVariables false
namespace Go.Proofs.YtmaokndfmohdpaaGreatDoor.STells
open Go.ChangeShapes Go.WideShapes Go.ChangeAt Go.RowKit Go.Ev

theorem own : ownKnob Tryz.prog.godebug = none := by kernel_rfl

/-- known() answers true -/
theorem known [Val] {W : World} (hi : IniR gs W) : Calls Tryz.prog E1.sum #[] W (fun e w' => e = .returned (.bool true) ∧ Ext W.heap.size W w') :=
  ini_calls env0 hi bits (fun h => by rw [show E0.sum = 100000 from rfl, noSum] at h; cases h) (vs := []) (fun μ => .nil) runKnown

theorem lawRun [Val] {W : World} (hi : IniR gs W) {n : Nat} {nx : Key} {vs : List AV} {args : Array Value} (hv : ∀ μ, VRs μ vs args.toList) (hrun : startB E1 n 3 vs (initH gs) nx = true) :
    Calls Tryz.prog 3 args W (fun e w' => e = .returned (.bool true) ∧ Ext W.heap.size W w') :=
  ini_calls env1 hi bits (fun _ _ hw => known hw) hv hrun
theorem lawRunV [Val] {W : World} (hi : IniR gs W) {n : Nat} {nx : Key} {vs : List AV} {args : Array Value} {ivs : List (Key × Int × Int)} (hok : ivsOk gs ivs = true) (hiv : ∀ x ∈ ivs, x.2.1 ≤ Val.n x.1 ∧ Val.n x.1 ≤ x.2.2)
    (hv : ∀ μ, VRs μ vs args.toList) (hrun : startB E1 n 3 vs (initHv gs ivs) nx = true) :
    Calls Tryz.prog 3 args W (fun e w' => e = .returned (.bool true) ∧ Ext W.heap.size W w') :=
  ini_callsV env1 hi bits (fun _ _ hw => known hw) hok hiv hv hrun
theorem wf64 {a : Int} (h : (Lit.int .i64 a).wf = true) : -9223372036854775808 ≤ a ∧ a ≤ 9223372036854775807 := by
  simp only [Lit.wf, Bool.and_eq_true, decide_eq_true_eq] at h
  exact h
theorem any64 [Val] (a : Int) (μ : Mu) : VR μ .any (.int .i64 a) := by simp only [VR]; exact trivial
theorem rng64 [Val] {a lo hi : Int} (h : lo ≤ a ∧ a ≤ hi) (μ : Mu) : VR μ (.rng .i64 lo hi) (.int .i64 a) := by simp only [VR]; exact ⟨a, rfl, h.1, h.2⟩
theorem int64 [Val] (a : Int) (μ : Mu) : VR μ (.int .i64 a) (.int .i64 a) := by simp only [VR]
def evL0 : List AV := [.rng .i64 (-9223372036854775808) 9223372036854775807, .rng .i64 (-9223372036854775808) 9223372036854775807, .rng .i64 (-9223372036854775808) 9223372036854775807]
theorem evAbs0 : absT E1 8 24 = some evL0 := by kernel_rfl
theorem evAgg0 : (match E1.und 24 with | some td => isAggT td | none => false) = true := by kernel_rfl


theorem intI [Val] (k : Nat) (μ : Mu) : VR μ (I k) (.int .i64 (k : Int)) := by
  unfold I
  simp only [VR]
  rfl
/-- the names of the order's numbers -/
@[reducible] def val (a b c : Int) : Val := ⟨fun k => bif Key.beq k kN then b else bif Key.beq k kO then c else a⟩
theorem sx64 [V : Val] {f : Key} {lo hi n : Int} (hn : Val.n f = n) (w : -9223372036854775808 ≤ n ∧ n ≤ 9223372036854775807) (h : lo ≤ n ∧ n ≤ hi) (μ : Mu) : VR μ (.sx .i64 f 0 lo hi) (.int .i64 n) := by
  simp only [VR]
  rw [hn, Int.add_zero, wrap_i64 w.1 w.2]
  exact ⟨rfl, h.1, h.2⟩

theorem walk (v0 : Value) (hv0 : ∀ μ, VR μ (.agg evL0) v0) (W : World) (hL : laidMetH Tryz.prog rowLaid W) :
    Calls Tryz.prog 3 #[v0] W (fun e w' => e = .returned (.bool true) ∧ Ext W.heap.size W w') := by
  have h0 := hv0 (fun _ _ => none)
  simp only [VR] at h0
  obtain ⟨cs, rfl, hc⟩ := h0
  obtain ⟨x, r, e1, hx, hc⟩ := hc.cons_inv
  obtain ⟨y, r1, e2, hy, hc⟩ := hc.cons_inv
  obtain ⟨z, r2, e3, hz, hc⟩ := hc.cons_inv
  have e4 := hc.nil_inv
  subst e4 e3 e2
  simp only [VR] at hx hy hz
  obtain ⟨a, rfl, a1, a2⟩ := hx
  obtain ⟨b, rfl, b1, b2⟩ := hy
  obtain ⟨c, rfl, c1, c2⟩ := hz
  letI V : Val := val a b c
  have hi : IniR gs W := ini_met env0 hL gsEq
  have nN : Val.n kN = b := rfl
  have nO : Val.n kO = c := rfl
  have nK : Val.n kK = a := rfl
  have agg : ∀ k : AV, (∀ μ, VR μ k (.int .i64 a)) → ∀ μ, VRs μ [.agg [k, .sx .i64 kN 0 (-9223372036854775808) 9223372036854775807, .sx .i64 kO 0 (-9223372036854775808) 9223372036854775807]] (#[Value.agg cs] : Array Value).toList := by
    intro k hk μ
    refine .cons ?_ .nil
    simp only [VR]
    refine ⟨cs, rfl, ?_⟩
    rw [e1]
    exact .cons (hk μ) (.cons (sx64 nN ⟨b1, b2⟩ ⟨b1, b2⟩ μ) (.cons (sx64 nO ⟨c1, c2⟩ ⟨c1, c2⟩ μ) .nil))
  have two : ∀ x ∈ iv2, x.2.1 ≤ Val.n x.1 ∧ Val.n x.1 ≤ x.2.2 := by
    intro x hx
    simp only [iv2, List.mem_cons, List.not_mem_nil, or_false] at hx
    rcases hx with rfl | rfl
    · exact ⟨by rw [nN]; exact b1, by rw [nN]; exact b2⟩
    · exact ⟨by rw [nO]; exact c1, by rw [nO]; exact c2⟩
  have three : ∀ lo hi : Int, lo ≤ a → a ≤ hi → ∀ x ∈ (kK, lo, hi) :: iv2, x.2.1 ≤ Val.n x.1 ∧ Val.n x.1 ≤ x.2.2 := by
    intro lo hi h1 h2 x hx
    rcases List.mem_cons.1 hx with rfl | hx
    · exact ⟨by rw [nK]; exact h1, by rw [nK]; exact h2⟩
    · exact two x hx
  have cases0 : a ≤ 0 ∨ 6 ≤ a ∨ a = (1 : Nat) ∨ a = (2 : Nat) ∨ a = (3 : Nat) ∨ a = (4 : Nat) ∨ a = (5 : Nat) := by omega
  rcases cases0 with h | h | h | h | h | h | h
  · exact lawRunV hi okLo (three _ _ a1 h) (agg _ (sx64 nK ⟨a1, a2⟩ ⟨a1, h⟩)) runLo
  · exact lawRunV hi okHi (three _ _ h a2) (agg _ (sx64 nK ⟨a1, a2⟩ ⟨h, a2⟩)) runHi
  · exact lawRunV hi ok2 two (agg _ (by rw [h]; exact intI 1)) run1
  · exact lawRunV hi ok2 two (agg _ (by rw [h]; exact intI 2)) run2
  · exact lawRunV hi ok2 two (agg _ (by rw [h]; exact intI 3)) run3
  · exact lawRunV hi ok2 two (agg _ (by rw [h]; exact intI 4)) run4
  · exact lawRunV hi ok2 two (agg _ (by rw [h]; exact intI 5)) run5

set_option maxRecDepth 100000 in
theorem lifted (os : Os) (started : os.Started) (H : Type) (enc : TypeId × Value → H) :
    ReturnsInHanded {} Tryz.checked os 3 .any (fun w args => (Rows.scriptTellsSpec.pre enc Tryz.prog Tryz.f3 Rows.scriptTellsRow.domain false w args ∧ laidMetH Tryz.prog rowLaid w) ∧ sizedMet enc Tryz.prog Tryz.f3 (OpenSpec.ofChange Rows.scriptTellsSpec) false w args)
      (Rows.scriptTellsSpec.post enc Tryz.prog Tryz.f3 false true false false) := by
  refine returnsInHanded_of_change_and (C := Tryz.checked) (X := fun w _ => laidMetH Tryz.prog rowLaid w) (fun _ _ _ hh h => h.of_heap hh) own started noInit Tryz.func3
    (ChangeSpec.witness_shaped (enc := enc) (C := Tryz.checked) (os := os) (X := fun w _ => laidMetH Tryz.prog rowLaid w) false (World.laidAll Tryz.prog os rowLaid) wArgs 8 (World.laidAll_os _ _ _)
      (World.shaped_of_ZipB (zipW os) (restW os)) (okW os) (preW os H enc) (sizW os H enc) (metW os)) ?_
  intro W base args ds gs' before hval0 hW hcnd _ hL _
  have hval : ∀ (j : Nat) t v, Tryz.f3.params[j]? = some t → args[j]? = some v → Value.okWide Tryz.prog W .any base t v := hval0
  have hW' := hW
  obtain ⟨p, q, hA0, hV, rfl, hfz, hnd⟩ := hW
  have hA : DataW.TrodAll enc Tryz.prog W 0 (fun _ => true) true Tryz.f3.params.toList args.toList ds p := hA0
  rw [Tryz.params3] at hA hval
  obtain ⟨v0, vs0, d0, ds0, p0, q0, hargs, rfl, rfl, h0, r0⟩ := trodAll_cons hA
  obtain ⟨rfl, rfl, rfl⟩ := trodAll_nil r0
  obtain rfl : args = #[v0] := by cases args; simp_all
  obtain ⟨rfl, rfl⟩ := trodVars_none hV
  have hv0 : ∀ μ, VR μ (.agg evL0) v0 := fun μ => absV_sound env1 (n := 8) (t := 24) evAgg0 (hval 0 24 v0 rfl rfl) h0 evAbs0
  clear hA0 hval0
  simp only [List.append_nil] at hW'
  have hlt0 : ∀ x ∈ p0, x.block < W.heap.size := fun x hx => hW'.lt x (by simp [hx])
  refine (walk v0 hv0 W hL).mono fun e W' ⟨he, hg⟩ => ?_
  subst he
  exact ⟨_, rfl, post_of_ext' (pa := p0) (pv := []) hW' (fun _ _ _ => (trodAll_cons_mk (shut_bool Tryz.underlying4 _) trodAll_mk0))
    (by
      have hh := (trodAll_cons_mk (Go.RowKit.Below.trod (P := Tryz.prog) laidOut read24 lt24 h0 (below_of_ext hg) hlt0) trodAll_mk0)
      simp only [List.append_nil] at hh
      exact hh) rfl hg⟩

theorem holds : Rows.ScriptTellsSaid :=
  OpenClaim.holds_of_wide 3 Tryz.f3 rfl rfl rfl rfl rfl rfl rfl ⟨rfl, rfl, rfl, rfl, rfl⟩ rfl rfl rfl rfl rfl named3 Tryz.func3 closedF inst3 wrap3
    (fun os started H enc _ => lifted os started H enc)
end Go.Proofs.YtmaokndfmohdpaaGreatDoor.STells
