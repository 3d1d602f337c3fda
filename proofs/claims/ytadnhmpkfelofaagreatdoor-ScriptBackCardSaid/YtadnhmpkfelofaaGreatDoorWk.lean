/- ScriptBack: the law, called with any orders and any bytes, comes to true. -/
import Derived.Test.YtadnhmpkfelofaaGreatDoorLw
import Derived.Test.YtadnhmpkfelofaaGreatDoorKa1
import Derived.KernelRfl
set_option warn.classDefReducibility false
set_option linter.unusedVariables false
set_option linter.unusedSectionVars false
set_option linter.unusedSimpArgs false
open Go Go.Ev Go.Proofs
namespace Go.Proofs.YtadnhmpkfelofaaGreatDoor
namespace Back
noncomputable section
theorem fkD (v : Val) : @FkOk v fkI := @FkOk.mk v fkI (fun x hx => (by cases hx)) (fun x hx => (by cases hx)) (fun x hx => (by cases hx))
/-- works() answers true -/
theorem known {W : World} (hi : @IniR valI gs W) : Calls Tryz.prog E1.sum #[] W (fun e w' => e = .returned (.bool true) ∧ Ext W.heap.size W w') :=
  @ini_calls valI fkI E0 Tryz.prog (fkD valI) env0 gs W hi bits (fun h => by rw [show E0.sum = 100000 from rfl, noSum] at h; cases h) _ [] #[] _ (fun μ => @VRs.nil valI μ) runKnown
theorem iniR (v : Val) {W : World} (hL : laidMetH Tryz.prog rowLaid W) : @IniR v gs W := letI := v; ini_met env0 hL gsEq
theorem sumOk {W : World} (hL : laidMetH Tryz.prog rowLaid W) (cs : List Frame) : SumOk E1 Tryz.prog ⟨cs, W⟩ := fun w he _ => known (IniR.ext (iniR valI hL) he)
theorem hr0 {v : Val} {F : Fk} (hF : @FkOk v F) {W : World} (hL : laidMetH Tryz.prog rowLaid W) : @HR v F W.heap.size (initMu gs) G0 W := by
  have := @ini_HR v F gs W hF (iniR v hL) W.heap.size
  rw [g0] at this
  exact this
theorem initNo {W : World} (hL : laidMetH Tryz.prog rowLaid W) {f : Key} (h : hget f G0 = .none) : ∀ g, initMu gs f g = none := by
  have := @HR.obj valI fkI _ _ _ _ (hr0 (fkD valI) hL) f
  rw [h] at this
  exact this
theorem grI : GR E1 (initMu gs) := ini_GR bits
section
variable {W : World} (hL : laidMetH Tryz.prog rowLaid W) {v0 v1 : Value} {l : List Od} {bs : List Nat}
include hL in
/-- the two slices laid into what is known of memory -/
theorem two {F : Fk} (hF : @FkOk (V bs l 0 0 [] []) F) (h0 : LaR W v0 3 (l.map orow)) (h1 : LaR W v1 1 (bs.map Rd.brow)) : ∃ ν, (initMu gs).le ν ∧ (∀ f, kF ≠ f → kG ≠ f → ∀ g, ν f g = initMu gs f g) ∧
    @HR (V bs l 0 0 [] []) F W.heap.size ν (hset kG (.lst true lstGen 1 kQ []) (hset kF (.lst true lstGen 3 kO []) G0)) W ∧
    @VRs (V bs l 0 0 [] []) ν [.nsl kF lstGen 3 kZ 0 kO 0 0, .nsl kG lstGen 1 kZ 0 kQ 0 0] [v0, v1] := by
  obtain ⟨ν, hle, hot, hr, hv⟩ := @HR.argL (V bs l 0 0 [] []) F _ _ W kF kO 3 v0 (hr0 hF hL) (initNo hL rfl) (by rw [nzO, lO, List.length_map]) h0
  obtain ⟨ν2, hle2, hot2, hr2, hv2⟩ := @HR.argL (V bs l 0 0 [] []) F _ _ W kG kQ 1 v1 hr (fun g => by rw [hot kG (Key.beq_ne rfl) g]; exact initNo hL rfl g) (by rw [nzQ, lQ, List.length_map]) h1
  exact ⟨ν2, Mu.le_trans hle hle2, fun f a b g => by rw [hot2 f b g, hot f a g], hr2, @VRs.cons (V bs l 0 0 [] []) ν2 _ _ _ _ (@VR.mono (V bs l 0 0 [] []) _ _ hle2 _ _ hv) (@VRs.cons (V bs l 0 0 [] []) ν2 _ _ _ _ hv2 (@VRs.nil (V bs l 0 0 [] []) ν2))⟩
theorem fi1_ok {a b c d : Int} (h1 : a ≤ (l.length : Int)) (h2 : (l.length : Int) ≤ b) (h3 : c ≤ (bs.length : Int)) (h4 : (bs.length : Int) ≤ d) : @FkOk (V bs l 0 0 [] []) (FiA1 a b c d) := by
  refine @FkOk.mk (V bs l 0 0 [] []) (FiA1 a b c d) (fun x hx => ?_) (fun x hx => by cases hx) (fun x hx => by cases hx)
  replace hx : x ∈ [Rl.mk kZ kO a b, .mk kZ kQ c d] := hx
  simp only [List.mem_cons, List.not_mem_nil, or_false] at hx
  rcases hx with rfl | rfl <;> simp only [RlOk, nzZ, nzO, nzQ] <;> omega
include hL in
/-- with intervals for the two lengths -/
theorem two2 {F : Fk} (hF : @FkOk (V bs l 0 0 [] []) F) (h0 : LaR W v0 3 (l.map orow)) (h1 : LaR W v1 1 (bs.map Rd.brow)) (a b c d : Int) (k1 : a ≤ (l.length : Int)) (k2 : (l.length : Int) ≤ b) (k3 : c ≤ (bs.length : Int)) (k4 : (bs.length : Int) ≤ d) :
    ∃ ν, (initMu gs).le ν ∧ @HR (V bs l 0 0 [] []) F W.heap.size ν (hset kO (.iv a b) (hset kQ (.iv c d) (hset kG (.lst true lstGen 1 kQ []) (hset kF (.lst true lstGen 3 kO []) G0)))) W ∧
    @VRs (V bs l 0 0 [] []) ν [.nsl kF lstGen 3 kZ 0 kO 0 0, .nsl kG lstGen 1 kZ 0 kQ 0 0] [v0, v1] := by
  obtain ⟨ν, hle, hot, hr, hv⟩ := two hL hF h0 h1
  have hr := @HR.argIv (V bs l 0 0 [] []) F ν _ _ W kQ c d hr (fun g => by rw [hot kQ (Key.beq_ne rfl) (Key.beq_ne rfl) g]; exact initNo hL rfl g) k3 k4
  have hr := @HR.argIv (V bs l 0 0 [] []) F ν _ _ W kO a b hr (fun g => by rw [hot kO (Key.beq_ne rfl) (Key.beq_ne rfl) g]; exact initNo hL rfl g) k1 k2
  exact ⟨ν, hle, hr, hv⟩
include hL in
/-- more than is looked at -/
theorem walkM {a b c d : Int} (h0 : LaR W v0 3 (l.map orow)) (h1 : LaR W v1 1 (bs.map Rd.brow)) (k1 : a ≤ (l.length : Int)) (k2 : (l.length : Int) ≤ b) (k3 : c ≤ (bs.length : Int)) (k4 : (bs.length : Int) ≤ d)
    (hrun : @enterT (FiA1 a b c d) E1 (fun _ => false) 300 sgM HMk keeps HM [.nsl kF lstGen 3 kZ 0 kO 0 0, .nsl kG lstGen 1 kZ 0 kQ 0 0] (hset kO (.iv a b) (hset kQ (.iv c d) (hset kG (.lst true lstGen 1 kQ []) (hset kF (.lst true lstGen 3 kO []) G0)))) nx0 = some []) :
    Calls Tryz.prog 3 #[v0, v1] W (fun e w' => e = .returned (.bool true) ∧ Ext W.heap.size W w') := by
  obtain ⟨ν, hle, hr, hv⟩ := two2 hL (fi1_ok k1 k2 k3 k4) h0 h1 a b c d k1 k2 k3 k4
  refine @callsD (V bs l 0 0 [] []) (FiA1 a b c d) E1 Tryz.prog env1 W _ #[v0, v1] _ nx0 ν hv hr (GR.le hle grI) ?_
  obtain ⟨c, e1, e2⟩ := enterT_some hrun
  exact ⟨c, e1, fun cs m hs => turn_done env1 (sumOk hL cs) e2 hs⟩
include hL in
/-- no orders -/
theorem walkZ (h0 : LaR W v0 3 (([] : List Od).map orow)) (h1 : LaR W v1 1 (bs.map Rd.brow)) (hb : ∀ b ∈ bs, b < 256) (k4 : (bs.length : Int) ≤ 1000) :
    Calls Tryz.prog 3 #[v0, v1] W (fun e w' => e = .returned (.bool true) ∧ Ext W.heap.size W w') := by
  have hF : @FkOk (V bs [] 0 0 [] []) (FiA0 0 0) := fi1_ok (l := []) (a := 0) (b := 0) (c := 0) (d := 1000) (by simp) (by simp) (by omega) k4
  obtain ⟨ν, hle, hr, hv⟩ := two2 (l := []) hL hF h0 h1 0 0 0 1000 (by simp) (by simp) (by omega) k4
  refine @callsD (V bs [] 0 0 [] []) (FiA0 0 0) E1 Tryz.prog env1 W _ #[v0, v1] _ nx0 ν hv hr (GR.le hle grI) ?_
  obtain ⟨c, e1, e2⟩ := enterT_some runZ
  refine ⟨c, e1, fun cs m hs => ?_⟩
  rcases turn_sim (sgM_ok k4) (fM_ok hb k4) env1 (sumOk hL cs) (j := 1) (keeps_ok _ _) sHM cHM e2 hs with h | ⟨m', h3, h4⟩
  · exact h
  · exact done_any (dn_steps h3 (atM (sumOk hL cs) hb k4 h4))
include hL in
theorem walkC (hl : Okl 300 l bs) (h0 : LaR W v0 3 (l.map orow)) (h1 : LaR W v1 1 (bs.map Rd.brow)) (hb : ∀ b ∈ bs, b < 256) :
    Calls Tryz.prog 3 #[v0, v1] W (fun e w' => e = .returned (.bool true) ∧ Ext W.heap.size W w') := by
  obtain ⟨i1, i2, i3⟩ := in_at (i := 0) hl
  have hl0 := hl
  obtain ⟨_, hl1, hl2, hl3⟩ := hl0
  have hF : @FkOk (V bs l 0 0 [] []) (FiA0 1 300) := fi1_ok (a := 1) (b := 300) (c := 0) (d := 1000) (by omega) hl2 (by omega) hl3
  obtain ⟨ν, hle, hot, hr, hv⟩ := two hL hF h0 h1
  have hr := @HR.argIv (V bs l 0 0 [] []) (FiA0 1 300) ν _ _ W kK mn mx hr (fun g => by rw [hot kK (Key.beq_ne rfl) (Key.beq_ne rfl) g]; exact initNo hL rfl g) i1.1 i1.2
  have hr := @HR.argIv (V bs l 0 0 [] []) (FiA0 1 300) ν _ _ W kX mn mx hr (fun g => by rw [hot kX (Key.beq_ne rfl) (Key.beq_ne rfl) g]; exact initNo hL rfl g) i3.1 i3.2
  have hr := @HR.argIv (V bs l 0 0 [] []) (FiA0 1 300) ν _ _ W kN mn mx hr (fun g => by rw [hot kN (Key.beq_ne rfl) (Key.beq_ne rfl) g]; exact initNo hL rfl g) i2.1 i2.2
  have hr := @HR.argIv (V bs l 0 0 [] []) (FiA0 1 300) ν _ _ W kQ 0 1000 hr (fun g => by rw [hot kQ (Key.beq_ne rfl) (Key.beq_ne rfl) g]; exact initNo hL rfl g) (by show (0 : Int) ≤ (bs.length : Int); omega) hl3
  have hr := @HR.argIv (V bs l 0 0 [] []) (FiA0 1 300) ν _ _ W kO 1 300 hr (fun g => by rw [hot kO (Key.beq_ne rfl) (Key.beq_ne rfl) g]; exact initNo hL rfl g) (by show (1 : Int) ≤ (l.length : Int); omega) hl2
  refine @callsD (V bs l 0 0 [] []) (FiA0 1 300) E1 Tryz.prog env1 W _ #[v0, v1] _ nx0 ν hv hr (GR.le hle grI) ?_
  obtain ⟨c, e1, e2⟩ := enterT_some runS
  refine ⟨c, e1, fun cs m hs => ?_⟩
  by_cases hk : okO (l.getD 0 (0, 0, 0))
  · obtain ⟨f, hc, hf⟩ := fine_of hk
    rcases turn_sim (sg0_ok (m := 900) hl) (F1 := FiA 300 f.o) (FiA_ok hl (fun μ => hf.ov _ μ rfl rfl)) env1 (sumOk hL cs) (j := 1) (keeps_ok _ _) sHA0 cHA0 e2 hs with h | ⟨m', h3, h4⟩
    · exact h
    · exact done_any (dn_steps h3 (atS (sumOk hL cs) hb hl (.inl ⟨f, hc, hk, hf, rfl⟩) h4))
  · obtain ⟨f, hc, hf⟩ := fall_of (in_at (i := 0) hl) hk
    rcases turn_sim (sg0_ok (m := 900) hl) (F1 := FiA 300 (row f)) (FiA_ok hl (row_vr hl hf)) env1 (sumOk hL cs) (j := 1) (keeps_ok _ _) sHA0 cHA0 e2 hs with h | ⟨m', h3, h4⟩
    · exact h
    · exact done_any (dn_steps h3 (atS (sumOk hL cs) hb hl (.inr ⟨f, hc, hf, rfl⟩) h4))
/-- THE LAW's RUN: whatever orders and bytes come in -/
theorem walk (hL : laidMetH Tryz.prog rowLaid W) {rows0 rows1 : List (List Value)} (hla0 : LaR W v0 3 rows0) (hlen0 : rows0.length ≤ maxLen) (hrows0 : ∀ row ∈ rows0, ∃ o : Od, row = orow o ∧ In o)
    (hla1 : LaR W v1 1 rows1) (hlen1 : rows1.length ≤ maxLen) (hrows1 : ∀ row ∈ rows1, ∃ b : Nat, row = Rd.brow b ∧ b < 256) :
    Calls Tryz.prog 3 #[v0, v1] W (fun e w' => e = .returned (.bool true) ∧ Ext W.heap.size W w') := by
  have mk : ∀ {α : Type} {f : α → List Value} {p : α → Prop} (rows : List (List Value)), (∀ row ∈ rows, ∃ a : α, row = f a ∧ p a) → ∃ l : List α, rows = l.map f ∧ ∀ a ∈ l, p a := by
    intro α f p rows
    induction rows with
    | nil => exact fun _ => ⟨[], rfl, fun b hb => by cases hb⟩
    | cons r rows ih =>
      intro hr
      obtain ⟨l, e, h⟩ := ih fun row hr' => hr row (List.mem_cons_of_mem _ hr')
      obtain ⟨a, rfl, ha⟩ := hr r (List.mem_cons_self ..)
      refine ⟨a :: l, by rw [e]; rfl, fun x hx => ?_⟩
      rcases List.mem_cons.1 hx with rfl | hx
      · exact ha
      · exact h x hx
  obtain ⟨l, rfl, hl⟩ := mk rows0 hrows0
  obtain ⟨bs, rfl, hb⟩ := mk rows1 hrows1
  rw [List.length_map] at hlen0 hlen1
  have hm : maxLen = 9223372036854775807 := by decide
  by_cases c1 : 300 < l.length
  · exact walkM hL hla0 hla1 (a := 301) (b := 9223372036854775807) (c := 0) (d := 9223372036854775807) (by omega) (by omega) (by omega) (by omega) runL
  · by_cases c2 : 1000 < bs.length
    · exact walkM hL hla0 hla1 (a := 0) (b := 300) (c := 1001) (d := 9223372036854775807) (by omega) (by omega) (by omega) (by omega) runQ
    · rcases Nat.eq_zero_or_pos l.length with hz | hz
      · obtain rfl := List.length_eq_zero_iff.1 hz
        exact walkZ hL hla0 hla1 hb (by omega)
      · exact walkC hL ⟨hl, hz, by omega, by omega⟩ hla0 hla1 hb
end
end
end Back
end Go.Proofs.YtadnhmpkfelofaaGreatDoor
