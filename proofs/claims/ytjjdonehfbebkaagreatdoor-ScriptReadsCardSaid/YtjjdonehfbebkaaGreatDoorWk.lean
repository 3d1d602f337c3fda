/- ScriptReads: the law, called with any bytes, comes to true. -/
import Derived.Test.YtjjdonehfbebkaaGreatDoorLw
import Derived.Test.YtjjdonehfbebkaaGreatDoorKa1
import Derived.KernelRfl
set_option warn.classDefReducibility false
set_option linter.unusedVariables false
set_option linter.unusedSectionVars false
set_option linter.unusedSimpArgs false
open Go Go.Ev Go.Proofs
namespace Go.Proofs.YtjjdonehfbebkaaGreatDoor
namespace Reads
noncomputable section
theorem fkD (v : Val) : @FkOk v fkI := @FkOk.mk v fkI (fun x hx => (by cases hx)) (fun x hx => (by cases hx)) (fun x hx => (by cases hx))
/-- works() answers true -/
theorem known {W : World} (hi : @IniR valI gs W) : Calls Tryz.prog E1.sum #[] W (fun e w' => e = .returned (.bool true) ∧ Ext W.heap.size W w') :=
  @ini_calls valI fkI E0 Tryz.prog (fkD valI) env0 gs W hi bits (fun h => by rw [show E0.sum = 100000 from rfl, noSum] at h; cases h) _ [] #[] _ (fun μ => @VRs.nil valI μ) runKnown
theorem iniR (v : Val) {W : World} (hL : laidMetH Tryz.prog rowLaid W) : @IniR v gs W := letI := v; ini_met env0 hL gsEq
theorem sumOk {W : World} (hL : laidMetH Tryz.prog rowLaid W) (cs : List Frame) : SumOk E1 Tryz.prog ⟨cs, W⟩ := fun w he _ => known (IniR.ext (iniR valI hL) he)
theorem hr0 {v : Val} {F : Fk} (hF : @FkOk v F) {W : World} (hL : laidMetH Tryz.prog rowLaid W) : @HR v F W.heap.size (initMu gs) G0 W := by
  have := @ini_HR v F gs W hF (iniR v hL) W.heap.size
  rw [g0] at this
  exact this
theorem initNo {W : World} (hL : laidMetH Tryz.prog rowLaid W) {f : Key} (h : hget f G0 = .none) : ∀ g, initMu gs f g = none := by
  have := @HR.obj valI fkI _ _ _ _ (hr0 (fkD valI) hL) f
  rw [h] at this
  exact this
theorem grI : GR E1 (initMu gs) := ini_GR bits
/-- no bytes -/
theorem walkB {W : World} (hL : laidMetH Tryz.prog rowLaid W) {v0 : Value} (hla : LaR W v0 1 []) : Calls Tryz.prog 3 #[v0] W (fun e w' => e = .returned (.bool true) ∧ Ext W.heap.size W w') := by
  obtain ⟨ν, hle, _, hr, hv⟩ := @HR.argL (V [] 0 [] []) fkI _ _ W kF kZ 1 v0 (hr0 (fkD (V [] 0 [] [])) hL) (initNo hL rfl) (nzZ) hla
  refine @callsD (V [] 0 [] []) fkI E1 Tryz.prog env1 W [.nsl kF lstGen 1 kZ 0 kZ 0 0] #[v0] _ nx0 ν (@VRs.cons (V [] 0 [] []) ν _ _ _ _ hv (@VRs.nil (V [] 0 [] []) ν)) hr (GR.le hle grI) ?_
  obtain ⟨c, h1, h2⟩ := enterT_some runB
  exact ⟨c, h1, fun cs m hs => turn_done env1 (sumOk hL cs) h2 hs⟩
def FA : Fk := FAr
theorem fa_ok {bs : List Nat} (h0 : ∀ b ∈ bs, b < 256) (h1 : 1000 < bs.length) (h2 : bs.length ≤ 9223372036854775807) : @FkOk (V bs 0 [] []) FA := by
  refine @FkOk.mk (V bs 0 [] []) FA (fun x hx => ?_) (fun x hx => by cases hx) (fun x hx => ?_)
  · obtain rfl := List.mem_singleton.1 hx
    simp only [RlOk, nzQ, nzZ]; omega
  · obtain rfl := List.mem_singleton.1 hx
    intro row hrow
    obtain ⟨b, hb', rfl⟩ := List.mem_map.1 hrow
    exact ⟨b, rfl, h0 b hb'⟩
/-- more bytes than are looked at -/
theorem walkA {W : World} (hL : laidMetH Tryz.prog rowLaid W) {v0 : Value} {bs : List Nat} (h0 : ∀ b ∈ bs, b < 256) (h1 : 1000 < bs.length) (h2 : bs.length ≤ 9223372036854775807) (hla : LaR W v0 1 (bs.map brow)) :
    Calls Tryz.prog 3 #[v0] W (fun e w' => e = .returned (.bool true) ∧ Ext W.heap.size W w') := by
  obtain ⟨ν, hle, hot, hr, hv⟩ := @HR.argL (V bs 0 [] []) FA _ _ W kF kQ 1 v0 (hr0 (fa_ok h0 h1 h2) hL) (initNo hL rfl) (by rw [nzQ, lQ, List.length_map]) hla
  have hr := @HR.argIv (V bs 0 [] []) FA ν _ _ W kQ 1001 9223372036854775807 hr (fun g => by rw [hot kQ (Key.beq_ne rfl) g]; exact initNo hL rfl g) (by show (1001 : Int) ≤ (bs.length : Int); omega) (by show (bs.length : Int) ≤ 9223372036854775807; omega)
  refine @callsD (V bs 0 [] []) FA E1 Tryz.prog env1 W [.nsl kF lstGen 1 kZ 0 kQ 0 0] #[v0] _ nx0 ν (@VRs.cons (V bs 0 [] []) ν _ _ _ _ hv (@VRs.nil (V bs 0 [] []) ν)) hr (GR.le hle grI) ?_
  obtain ⟨c, e1, e2⟩ := enterT_some runA
  exact ⟨c, e1, fun cs m hs => turn_done env1 (sumOk hL cs) e2 hs⟩
def FS : Fk := FSr
theorem fs_ok {bs : List Nat} (hb : Okb bs) : @FkOk (V bs 0 [] []) FS := by
  have hb2 := hb.2
  refine @FkOk.mk (V bs 0 [] []) FS (fun x hx => ?_) (fun x hx => by cases hx) (u_ok hb)
  obtain rfl := List.mem_singleton.1 hx
  simp only [RlOk, nzQ, nzZ]; omega
theorem walkC {W : World} (hL : laidMetH Tryz.prog rowLaid W) {v0 : Value} {bs : List Nat} (hb : Okb bs) (hla : LaR W v0 1 (bs.map brow)) :
    Calls Tryz.prog 3 #[v0] W (fun e w' => e = .returned (.bool true) ∧ Ext W.heap.size W w') := by
  have hb2 := hb.2
  have g1 := getD_lt hb (0 + 1)
  have g2 := getD_lt hb (0 + 2)
  obtain ⟨ν, hle, hot, hr, hv⟩ := @HR.argL (V bs 0 [] []) FS _ _ W kF kQ 1 v0 (hr0 (fs_ok hb) hL) (initNo hL rfl) (by rw [nzQ, lQ, List.length_map]) hla
  have hr := @HR.argIv (V bs 0 [] []) FS ν _ _ W kB2 0 255 hr (fun g => by rw [hot kB2 (Key.beq_ne rfl) g]; exact initNo hL rfl g) (by show (0 : Int) ≤ ((bs.getD (0 + 2) 0 : Nat) : Int); omega) (by show ((bs.getD (0 + 2) 0 : Nat) : Int) ≤ 255; omega)
  have hr := @HR.argIv (V bs 0 [] []) FS ν _ _ W kB1 0 255 hr (fun g => by rw [hot kB1 (Key.beq_ne rfl) g]; exact initNo hL rfl g) (by show (0 : Int) ≤ ((bs.getD (0 + 1) 0 : Nat) : Int); omega) (by show ((bs.getD (0 + 1) 0 : Nat) : Int) ≤ 255; omega)
  have hr := @HR.argIv (V bs 0 [] []) FS ν _ _ W kQ 1 1000 hr (fun g => by rw [hot kQ (Key.beq_ne rfl) g]; exact initNo hL rfl g) (by show (1 : Int) ≤ (bs.length : Int); omega) (by show (bs.length : Int) ≤ 1000; omega)
  refine @callsD (V bs 0 [] []) FS E1 Tryz.prog env1 W [.nsl kF lstGen 1 kZ 0 kQ 0 0] #[v0] _ nx0 ν (@VRs.cons (V bs 0 [] []) ν _ _ _ _ hv (@VRs.nil (V bs 0 [] []) ν)) hr (GR.le hle grI) ?_
  obtain ⟨c, e1, e2⟩ := enterT_some runS
  refine ⟨c, e1, fun cs m hs => ?_⟩
  rcases turn_sim (sg0_ok hb) (F1 := Fi (csOf bs)) (fi_ok hb) env1 (sumOk hL cs) (j := 1) (cons_ok (loop_ok _ _ k36) (keeps_ok _ _)) supp0 cl0 e2 hs with h | ⟨m', h3, h4⟩
  · exact h
  · exact done_any (dn_steps h3 (at0 (sumOk hL cs) hb h4))
/-- THE LAW's RUN: whatever bytes come in -/
theorem walk {W : World} (hL : laidMetH Tryz.prog rowLaid W) {v0 : Value} {rows : List (List Value)} (hla : LaR W v0 1 rows) (hlen : rows.length ≤ maxLen) (hrows : ∀ row ∈ rows, ∃ b : Nat, row = brow b ∧ b < 256) :
    Calls Tryz.prog 3 #[v0] W (fun e w' => e = .returned (.bool true) ∧ Ext W.heap.size W w') := by
  obtain ⟨bs, rfl, h0⟩ : ∃ bs : List Nat, rows = bs.map brow ∧ ∀ b ∈ bs, b < 256 := by
    clear hla hlen
    induction rows with
    | nil => exact ⟨[], rfl, fun b hb => by cases hb⟩
    | cons r rows ih =>
      obtain ⟨bs, e, h⟩ := ih fun row hr => hrows row (List.mem_cons_of_mem _ hr)
      obtain ⟨b, rfl, hb⟩ := hrows r (List.mem_cons_self ..)
      refine ⟨b :: bs, by rw [e]; rfl, fun x hx => ?_⟩
      rcases List.mem_cons.1 hx with rfl | hx
      · exact hb
      · exact h x hx
  rw [List.length_map] at hlen
  have hm : maxLen = 9223372036854775807 := by decide
  rcases Nat.eq_zero_or_pos bs.length with hz | hz
  · obtain rfl := List.length_eq_zero_iff.1 hz
    exact walkB hL hla
  · by_cases hk : 1000 < bs.length
    · exact walkA hL h0 hk (by omega) hla
    · exact walkC hL ⟨h0, hz, by omega⟩ hla
end
end Reads
end Go.Proofs.YtjjdonehfbebkaaGreatDoor
