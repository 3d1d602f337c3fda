/-
  ScriptBack: whatever orders and bytes come in, the law answers true and leaves them as they were; the listed package-level variables hold what the program's text lays in them.
-/
import Derived.Test.YtadnhmpkfelofaaGreatDoorTie
import Derived.Test.YtadnhmpkfelofaaGreatDoorCards
import Derived.Test.YtadnhmpkfelofaaGreatDoorWk
import Derived.Test.YtadnhmpkfelofaaGreatDoorFa1
import Derived.Test.YtadnhmpkfelofaaGreatDoorFa2
import Derived.ProofKit
import Derived.Carry
import Derived.OpenShut
import Derived.LaidMore
import Derived.Lay
import Derived.SevenTiedAt
import Derived.Stop.Joined
set_option linter.unusedVariables false
namespace Go.Proofs.YtadnhmpkfelofaaGreatDoor.Back
open Go.ChangeShapes Go.WideShapes Go.ChangeAt Go.RowKit Go.Ev

theorem own : ownKnob Tryz.prog.godebug = none := by kernel_rfl

theorem wf64 {a : Int} (h : (Lit.int .i64 a).wf = true) : -9223372036854775808 ≤ a ∧ a ≤ 9223372036854775807 := by
  simp only [Lit.wf, Bool.and_eq_true, decide_eq_true_eq] at h
  exact h
theorem lsUnd0 : E1.und 22 = some (.slice 54) := by kernel_rfl
theorem lsSz0 : E1.size 54 = some (2 + 1) := by kernel_rfl
theorem lsUnd1 : E1.und 23 = some (.slice 5) := by kernel_rfl
theorem lsSz1 : E1.size 5 = some (0 + 1) := by kernel_rfl

theorem ordE : absT E1 8 54 = some [.rng .i64 (-9223372036854775808) 9223372036854775807, .rng .i64 (-9223372036854775808) 9223372036854775807, .rng .i64 (-9223372036854775808) 9223372036854775807] := by kernel_rfl
theorem order_row {H : Type} {enc : TypeId × Value → H} {w : World} {fuel : Nat} {row : List Value} {x : DataW H × List MemPlace} (h : DataW.trod enc Tryz.prog w 0 (fun _ => true) true fuel 54 row = some x) :
    ∃ o : Od, row = orow o ∧ In o := by
  have h1 := absT_sound (μ := fun _ _ => none) env1 fuel 8 54 row x _ h ordE
  simp only [VRs, VR] at h1
  obtain ⟨x, _, rfl, ⟨a, rfl, a1, a2⟩, y, _, rfl, ⟨b, rfl, b1, b2⟩, z, _, rfl, ⟨c, rfl, c1, c2⟩, rfl⟩ := h1
  exact ⟨(a, b, c), rfl, ⟨a1, a2⟩, ⟨b1, b2⟩, ⟨c1, c2⟩⟩
theorem u8E : E1.und 5 = some (.int .u8) := by kernel_rfl
theorem byte_row {H : Type} {enc : TypeId × Value → H} {w : World} {fuel : Nat} {row : List Value} {x : DataW H × List MemPlace} (h : DataW.trod enc Tryz.prog w 0 (fun _ => true) true fuel 5 row = some x) :
    ∃ b : Nat, row = Rd.brow b ∧ b < 256 := by
  cases fuel with
  | zero => unfold DataW.trod at h; cases h
  | succ n =>
    obtain ⟨m, rfl, _, hw⟩ := DataW.trod_int (env1.und u8E) h
    simp only [Lit.wf, Bool.and_eq_true, decide_eq_true_eq] at hw
    refine ⟨m.toNat, ?_, ?_⟩
    · have h0 : (0 : Int) ≤ m := hw.1
      simp only [Rd.brow, List.cons.injEq, Value.int.injEq, and_true, true_and]; omega
    · have h1 : m ≤ 255 := hw.2
      have h0 : (0 : Int) ≤ m := hw.1
      omega

set_option maxRecDepth 100000 in
theorem lifted (os : Os) (started : os.Started) (H : Type) (enc : TypeId × Value → H) :
    ReturnsInHanded {} Tryz.checked os 3 .any (fun w args => (Rows.scriptBackSpec.pre enc Tryz.prog Tryz.f3 Rows.scriptBackRow.domain false w args ∧ laidMetH Tryz.prog rowLaid w) ∧ sizedMet enc Tryz.prog Tryz.f3 (OpenSpec.ofChange Rows.scriptBackSpec) false w args)
      (Rows.scriptBackSpec.post enc Tryz.prog Tryz.f3 false true false false) := by
  refine returnsInHanded_of_change_and (C := Tryz.checked) (X := fun w _ => laidMetH Tryz.prog rowLaid w) (fun _ _ _ hh h => h.of_heap hh) own started noInit Tryz.func3
    (ChangeSpec.witness_shaped (enc := enc) (C := Tryz.checked) (os := os) (X := fun w _ => laidMetH Tryz.prog rowLaid w) false (World.laidAll Tryz.prog os rowLaid) wArgs 8 (World.laidAll_os _ _ _)
      (World.shaped_of_ZipB (zipW os) (restW os)) (okW os) (preW os H enc) (sizW os H enc) (metW os)) ?_
  intro W base args ds gs' before hval0 hW hcnd _ hL _
  have hval : ∀ (j : Nat) t v, Tryz.f3.params[j]? = some t → args[j]? = some v → Value.okWide Tryz.prog W .any base t v := hval0
  have hW' := hW
  obtain ⟨p, q, hA0, hV, rfl, hfz, hnd⟩ := hW
  have hA : DataW.TrodAll enc Tryz.prog W 0 (fun _ => true) true Tryz.f3.params.toList args.toList ds p := hA0
  rw [Tryz.params3] at hA hval
  obtain ⟨v0, vs0, d0, ds0, p0, q0, hargs, rfl, rfl, h0, r0⟩ := trodAll_cons hA
  obtain ⟨v1, vs1, d1, ds1, p1, q1, rfl, rfl, rfl, h1, r1⟩ := trodAll_cons r0
  obtain ⟨rfl, rfl, rfl⟩ := trodAll_nil r1
  obtain rfl : args = #[v0, v1] := by cases args; simp_all
  obtain ⟨rfl, rfl⟩ := trodVars_none hV
  obtain ⟨rows0, hla0, hln0, hrw0⟩ := slice_rows env1 lsUnd0 lsSz0 (hval 0 22 v0 rfl rfl) h0
  obtain ⟨rows1, hla1, hln1, hrw1⟩ := slice_rows env1 lsUnd1 lsSz1 (hval 1 23 v1 rfl rfl) h1
  clear hA0 hval0
  simp only [List.append_nil] at hW'
  have hlt0 : ∀ x ∈ p0, x.block < W.heap.size := fun x hx => hW'.lt x (by simp [hx])
  have hlt1 : ∀ x ∈ p1, x.block < W.heap.size := fun x hx => hW'.lt x (by simp [hx])
  refine (walk hL hla0 hln0 (fun row hr => by obtain ⟨fuel, x, hx⟩ := hrw0 row hr; exact order_row hx) hla1 hln1 (fun row hr => by obtain ⟨fuel, x, hx⟩ := hrw1 row hr; exact byte_row hx)).mono fun e W' ⟨he, hg⟩ => ?_
  subst he
  exact ⟨_, rfl, post_of_ext' (pa := p0 ++ p1) (pv := []) hW' (fun _ _ _ => (trodAll_cons_mk (shut_bool Tryz.underlying4 _) trodAll_mk0))
    (by
      have hh := (trodAll_cons_mk (Go.RowKit.Below.trod (P := Tryz.prog) laidOut read22 lt22 h0 (below_of_ext hg) hlt0) (trodAll_cons_mk (Go.RowKit.Below.trod (P := Tryz.prog) laidOut read23 lt23 h1 (below_of_ext hg) hlt1) trodAll_mk0))
      simp only [List.append_nil] at hh
      exact hh) rfl hg⟩

theorem holds : Rows.ScriptBackSaid :=
  OpenClaim.holds_of_wide 3 Tryz.f3 rfl rfl rfl rfl rfl rfl rfl ⟨rfl, rfl, rfl, rfl, rfl⟩ rfl rfl rfl rfl rfl named3 Tryz.func3 closedF inst3 wrap3
    (fun os started H enc _ => lifted os started H enc)

end Go.Proofs.YtadnhmpkfelofaaGreatDoor.Back
