/- ScriptChecks: the law, called with any orders, comes to true. -/
import Derived.Test.YtlhkmfgoebgljaaGreatDoorLw
import Derived.Test.YtlhkmfgoebgljaaGreatDoorKa1
import Derived.KernelRfl
set_option warn.classDefReducibility false
set_option linter.unusedVariables false
set_option linter.unusedSectionVars false
set_option linter.unusedSimpArgs false
open Go Go.Ev Go.Proofs
namespace Go.Proofs.YtlhkmfgoebgljaaGreatDoor
namespace Checks
noncomputable section
theorem fkD (v : Val) : @FkOk v fkI := @FkOk.mk v fkI (fun x hx => (by cases hx)) (fun x hx => (by cases hx)) (fun x hx => (by cases hx))
/-- works() answers true -/
theorem known {W : World} (hi : @IniR valI gs W) : Calls Tryz.prog E1.sum #[] W (fun e w' => e = .returned (.bool true) ∧ Ext W.heap.size W w') :=
  @ini_calls valI fkI E0 Tryz.prog (fkD valI) env0 gs W hi bits (fun h => by rw [show E0.sum = 100000 from rfl, noSum] at h; cases h) _ [] #[] _ (fun μ => @VRs.nil valI μ) runKnown
theorem iniR (v : Val) {W : World} (hL : laidMetH Tryz.prog rowLaid W) : @IniR v gs W := letI := v; ini_met env0 hL gsEq
theorem sumOk {W : World} (hL : laidMetH Tryz.prog rowLaid W) (cs : List Frame) : SumOk E1 Tryz.prog ⟨cs, W⟩ := fun w he _ => known (IniR.ext (iniR valI hL) he)
theorem hr0 {v : Val} {F : Fk} (hF : @FkOk v F) {W : World} (hL : laidMetH Tryz.prog rowLaid W) : @HR v F W.heap.size (initMu gs) G0 W := by
  have := @ini_HR v F gs W hF (iniR v hL) W.heap.size
  rw [g0] at this
  exact this
theorem initNo {W : World} (hL : laidMetH Tryz.prog rowLaid W) {f : Key} (h : hget f G0 = .none) : ∀ g, initMu gs f g = none := by
  have := @HR.obj valI fkI _ _ _ _ (hr0 (fkD valI) hL) f
  rw [h] at this
  exact this
theorem grI : GR E1 (initMu gs) := ini_GR bits
/-- no orders -/
theorem walkB {W : World} (hL : laidMetH Tryz.prog rowLaid W) {v0 : Value} (hla : LaR W v0 3 []) : Calls Tryz.prog 3 #[v0] W (fun e w' => e = .returned (.bool true) ∧ Ext W.heap.size W w') := by
  obtain ⟨ν, hle, _, hr, hv⟩ := @HR.argL (V [] 0 [] []) fkI _ _ W kF kZ 3 v0 (hr0 (fkD (V [] 0 [] [])) hL) (initNo hL rfl) (nzZ) hla
  refine @callsD (V [] 0 [] []) fkI E1 Tryz.prog env1 W [.nsl kF lstGen 3 kZ 0 kZ 0 0] #[v0] _ nx0 ν (@VRs.cons (V [] 0 [] []) ν _ _ _ _ hv (@VRs.nil (V [] 0 [] []) ν)) hr (GR.le hle grI) ?_
  obtain ⟨c, h1, h2⟩ := enterT_some runB
  exact ⟨c, h1, fun cs m hs => turn_done env1 (sumOk hL cs) h2 hs⟩
theorem fa_ok {l : List Od} (h1 : 300 < l.length) (h2 : l.length ≤ 9223372036854775807) : @FkOk (V l 0 [] []) FAr := by
  refine @FkOk.mk (V l 0 [] []) FAr (fun x hx => ?_) (fun x hx => by cases hx) (fun x hx => by cases hx)
  obtain rfl := List.mem_singleton.1 hx
  simp only [RlOk, nzO, nzZ]; omega
/-- more orders than are looked at -/
theorem walkA {W : World} (hL : laidMetH Tryz.prog rowLaid W) {v0 : Value} {l : List Od} (h1 : 300 < l.length) (h2 : l.length ≤ 9223372036854775807) (hla : LaR W v0 3 (l.map orow)) :
    Calls Tryz.prog 3 #[v0] W (fun e w' => e = .returned (.bool true) ∧ Ext W.heap.size W w') := by
  obtain ⟨ν, hle, hot, hr, hv⟩ := @HR.argL (V l 0 [] []) FAr _ _ W kF kO 3 v0 (hr0 (fa_ok h1 h2) hL) (initNo hL rfl) (by rw [nzO, lO, List.length_map]) hla
  have hr := @HR.argIv (V l 0 [] []) FAr ν _ _ W kO 301 9223372036854775807 hr (fun g => by rw [hot kO (Key.beq_ne rfl) g]; exact initNo hL rfl g) (by show (301 : Int) ≤ (l.length : Int); omega) (by show (l.length : Int) ≤ 9223372036854775807; omega)
  refine @callsD (V l 0 [] []) FAr E1 Tryz.prog env1 W [.nsl kF lstGen 3 kZ 0 kO 0 0] #[v0] _ nx0 ν (@VRs.cons (V l 0 [] []) ν _ _ _ _ hv (@VRs.nil (V l 0 [] []) ν)) hr (GR.le hle grI) ?_
  obtain ⟨c, e1, e2⟩ := enterT_some runA
  exact ⟨c, e1, fun cs m hs => turn_done env1 (sumOk hL cs) e2 hs⟩
theorem fs_ok {l : List Od} (hl : Okl l) : @FkOk (V l 0 [] []) FSr := by
  have hl2 := hl.2
  refine @FkOk.mk (V l 0 [] []) FSr (fun x hx => ?_) (fun x hx => by cases hx) (fun x hx => by cases hx)
  obtain rfl := List.mem_singleton.1 hx
  simp only [RlOk, nzO, nzZ]; omega
theorem walkC {W : World} (hL : laidMetH Tryz.prog rowLaid W) {v0 : Value} {l : List Od} (hl : Okl l) (hla : LaR W v0 3 (l.map orow)) :
    Calls Tryz.prog 3 #[v0] W (fun e w' => e = .returned (.bool true) ∧ Ext W.heap.size W w') := by
  have hl2 := hl.2
  obtain ⟨i1, i2, i3⟩ := in_at (p := 0) hl
  obtain ⟨ν, hle, hot, hr, hv⟩ := @HR.argL (V l 0 [] []) FSr _ _ W kF kO 3 v0 (hr0 (fs_ok hl) hL) (initNo hL rfl) (by rw [nzO, lO, List.length_map]) hla
  have hr := @HR.argIv (V l 0 [] []) FSr ν _ _ W kK mn mx hr (fun g => by rw [hot kK (Key.beq_ne rfl) g]; exact initNo hL rfl g) i1.1 i1.2
  have hr := @HR.argIv (V l 0 [] []) FSr ν _ _ W kX mn mx hr (fun g => by rw [hot kX (Key.beq_ne rfl) g]; exact initNo hL rfl g) i3.1 i3.2
  have hr := @HR.argIv (V l 0 [] []) FSr ν _ _ W kN mn mx hr (fun g => by rw [hot kN (Key.beq_ne rfl) g]; exact initNo hL rfl g) i2.1 i2.2
  have hr := @HR.argIv (V l 0 [] []) FSr ν _ _ W kO 1 300 hr (fun g => by rw [hot kO (Key.beq_ne rfl) g]; exact initNo hL rfl g) (by show (1 : Int) ≤ (l.length : Int); omega) (by show (l.length : Int) ≤ 300; omega)
  refine @callsD (V l 0 [] []) FSr E1 Tryz.prog env1 W [.nsl kF lstGen 3 kZ 0 kO 0 0] #[v0] _ nx0 ν (@VRs.cons (V l 0 [] []) ν _ _ _ _ hv (@VRs.nil (V l 0 [] []) ν)) hr (GR.le hle grI) ?_
  obtain ⟨c, e1, e2⟩ := enterT_some runS
  refine ⟨c, e1, fun cs m hs => ?_⟩
  obtain ⟨F1, hG1, hF1⟩ := g1_ex hl (p := 0) (by omega)
  rcases turn_sim (sg0_ok hl) hF1 env1 (sumOk hL cs) (j := 1) (keeps_ok _ _) supp1 cl1 e2 hs with h | ⟨m', h3, h4⟩
  · exact h
  · exact done_any (dn_steps h3 (at1 (sumOk hL cs) hl l.length 0 F1 m' (by omega) (by omega) hG1 h4))
/-- THE LAW's RUN: whatever orders come in -/
theorem walk {W : World} (hL : laidMetH Tryz.prog rowLaid W) {v0 : Value} {rows : List (List Value)} (hla : LaR W v0 3 rows) (hlen : rows.length ≤ maxLen) (hrows : ∀ row ∈ rows, ∃ o : Od, row = orow o ∧ In o) :
    Calls Tryz.prog 3 #[v0] W (fun e w' => e = .returned (.bool true) ∧ Ext W.heap.size W w') := by
  obtain ⟨l, rfl, h0⟩ : ∃ l : List Od, rows = l.map orow ∧ ∀ o ∈ l, In o := by
    clear hla hlen
    induction rows with
    | nil => exact ⟨[], rfl, fun b hb => by cases hb⟩
    | cons r rows ih =>
      obtain ⟨l, e, h⟩ := ih fun row hr => hrows row (List.mem_cons_of_mem _ hr)
      obtain ⟨o, rfl, ho⟩ := hrows r (List.mem_cons_self ..)
      refine ⟨o :: l, by rw [e]; rfl, fun x hx => ?_⟩
      rcases List.mem_cons.1 hx with rfl | hx
      · exact ho
      · exact h x hx
  rw [List.length_map] at hlen
  have hm : maxLen = 9223372036854775807 := by decide
  rcases Nat.eq_zero_or_pos l.length with hz | hz
  · obtain rfl := List.length_eq_zero_iff.1 hz
    exact walkB hL hla
  · by_cases hk : 300 < l.length
    · exact walkA hL hk (by omega) hla
    · exact walkC hL ⟨h0, hz, by omega⟩ hla
end
end Checks
end Go.Proofs.YtlhkmfgoebgljaaGreatDoor
