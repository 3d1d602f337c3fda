/- ShrinkRefuses: the law, called with any number and any ending, comes to true. -/
import Derived.Test.YtdhfgfdpncmopaaGreatDoorKp0
import Derived.Test.YtdhfgfdpncmopaaGreatDoorKp1
import Derived.Test.YtdhfgfdpncmopaaGreatDoorKp2
import Derived.Test.YtdhfgfdpncmopaaGreatDoorKp3
import Derived.Test.YtdhfgfdpncmopaaGreatDoorKp4
import Derived.Test.YtdhfgfdpncmopaaGreatDoorKp5
import Derived.Test.YtdhfgfdpncmopaaGreatDoorKp6
import Derived.Test.YtdhfgfdpncmopaaGreatDoorRc0
import Derived.Test.YtdhfgfdpncmopaaGreatDoorRc1
import Derived.Test.YtdhfgfdpncmopaaGreatDoorRc2
import Derived.Test.YtdhfgfdpncmopaaGreatDoorRc3
import Derived.Test.YtdhfgfdpncmopaaGreatDoorRc4
import Derived.Test.YtdhfgfdpncmopaaGreatDoorRc5
import Derived.Test.YtdhfgfdpncmopaaGreatDoorRc6
import Derived.KernelRfl
set_option warn.classDefReducibility false
set_option linter.unusedVariables false
set_option linter.unusedSectionVars false
set_option linter.unusedSimpArgs false
open Go Go.Ev Go.Proofs
namespace Go.Proofs.YtdhfgfdpncmopaaGreatDoor
namespace Shrink
noncomputable section
/-- what the names stand for -/
@[reducible] def V (m k t : Int) : Val :=
  ⟨fun x => bif Key.beq x kM then m else bif Key.beq x kT then t else bif Key.beq x kK then k else 0, fun x => bif Key.beq x kM then List.replicate m.toNat [.int .i64 0] else []⟩
section
variable {m k t : Int}
theorem nzZ : @nz (V m k t) kZ = 0 := @nz_kZ (V m k t)
theorem nzM : @nz (V m k t) kM = m := @nz_ne (V m k t) kM rfl
theorem nzT : @nz (V m k t) kT = t := @nz_ne (V m k t) kT rfl
theorem nzK : @nz (V m k t) kK = k := @nz_ne (V m k t) kK rfl
theorem sx64 {v : Val} {f : Key} {n : Int} (hn : v.n f = n) (w : mn ≤ n ∧ n ≤ mx) (μ : Mu) : @VR v μ (.sx .i64 f 0 mn mx) (.int .i64 n) := by
  simp only [VR]
  rw [hn, Int.add_zero, fitW (k := .i64) (lo := mn) (hi := mx) rfl w.1 w.2]
  exact ⟨rfl, w.1, w.2⟩
theorem fkD (v : Val) : @FkOk v fkI := @FkOk.mk v fkI (fun x hx => (by cases hx)) (fun x hx => (by cases hx)) (fun x hx => (by cases hx))
theorem rz_ok {j : Nat} (h : (j : Int) < m) : @RfOk (V m k t) (rz (j : Int)) := by
  refine ⟨j, [.int .i64 0], by rw [nzZ, Int.zero_add], ?_, fun μ => @VRs.cons (V m k t) μ _ _ _ _ (by simp only [VR]) (@VRs.nil (V m k t) μ)⟩
  show (List.replicate m.toNat [Value.int .i64 0])[j]? = some [.int .i64 0]
  rw [List.getElem?_replicate, if_pos (by omega)]
theorem fm_ok {a b : Int} {rows : List Rf} (h0 : 0 ≤ a) (ha : a ≤ m) (hb : m ≤ b) (hr : ∀ x ∈ rows, @RfOk (V m k t) x) : @FkOk (V m k t) (Fm a b rows) := by
  refine @FkOk.mk (V m k t) (Fm a b rows) (fun x hx => ?_) hr (fun x hx => by cases hx)
  replace hx : x ∈ [Rl.zero kM, .mk kZ kM a b] := hx
  simp only [List.mem_cons, List.not_mem_nil, or_false] at hx
  rcases hx with rfl | rfl
  · exact ⟨by show (0 : Int) ≤ m; omega, rfl⟩
  · simp only [RlOk, nzZ, nzM]; omega
theorem sgN_ok {a b kl kh : Int} (h1 : a ≤ m ∧ m ≤ b) (h2 : mn ≤ t ∧ t ≤ mx) (h3 : kl ≤ k ∧ k ≤ kh) : SgOk (V m k t) (V m k t) (sgN a b kl kh) := by
  refine ⟨fun x hx => ?_, (fun x hx => by cases hx), rfl, fun x hx => ?_⟩
  · replace hx : x ∈ [Nn.mk kM kM 0 a b, .mk kT kT 0 mn mx, .mk kK kK 0 kl kh] := hx
    simp only [List.mem_cons, List.not_mem_nil, or_false] at hx
    rcases hx with rfl | rfl | rfl <;> simp only [NnOk, nzM, nzT, nzK] <;> omega
  · replace hx : x ∈ [(kM, a, b), (kT, mn, mx), (kK, kl, kh)] := hx
    simp only [List.mem_cons, List.not_mem_nil, or_false] at hx
    rcases hx with rfl | rfl | rfl <;> simp only [nzM, nzT, nzK] <;> omega
theorem sgC_ok {a b c : Int} (h1 : a ≤ m ∧ m ≤ b) (h2 : mn ≤ t ∧ t ≤ mx) (h3 : k = c) : SgOk (V m k t) (V m k t) (sgC a b c) := by
  refine ⟨fun x hx => ?_, (fun x hx => by cases hx), rfl, fun x hx => ?_⟩
  · replace hx : x ∈ [Nn.mk kM kM 0 a b, .mk kT kT 0 mn mx, .mk kZ kK (-c) 0 0] := hx
    simp only [List.mem_cons, List.not_mem_nil, or_false] at hx
    rcases hx with rfl | rfl | rfl <;> simp only [NnOk, nzM, nzT, nzK, nzZ] <;> omega
  · replace hx : x ∈ [(kM, a, b), (kT, mn, mx), (kK, c, c)] := hx
    simp only [List.mem_cons, List.not_mem_nil, or_false] at hx
    rcases hx with rfl | rfl | rfl <;> simp only [nzM, nzT, nzK] <;> omega
end
/-- known() answers true -/
theorem start : Start2 E0 [] (initHv gs []) (Key.ofNat 30) := start2 kh0 kp0 (.piece kh1 kp1 (.piece kh2 kp2 (.piece kh3 kp3 (.piece kh4 kp4 (.piece kh5 kp5 (.piece kh6 kp6 (.piece kh7 kp7 (.piece kh8 kp8 (.piece kh9 kp9 (.piece kh10 kp10 (.piece kh11 kp11 (.piece kh12 kp12 (Ok2.run kl)))))))))))))
theorem sum0 {W : World} : ∀ cs, @SumOk valI fkI E0 Tryz.prog ⟨cs, W⟩ := fun cs => @SumOk.mk valI fkI E0 Tryz.prog ⟨cs, W⟩ (fun w he h => by rw [show E0.sum = 100000 from rfl, noSum] at h; cases h) (fun s hs => by cases hs)
theorem known {W : World} (hi : @IniR valI gs W) : Calls Tryz.prog E1.sum #[] W (fun e w' => e = .returned (.bool true) ∧ Ext W.heap.size W w') :=
  @ini_calls2 valI fkI E0 Tryz.prog (fkD valI) env0 gs W hi bits sum0 [] #[] _ [] rfl (fun x hx => by cases hx) (fun μ => @VRs.nil valI μ) start
theorem ivk (a b : Int) : ivsOk gs (ivs a b) = true := by kernel_rfl
section
variable {W : World} (hL : laidMetH Tryz.prog rowLaid W) {m k t : Int}
include hL
theorem sumOk {F : Fk} (hF : F.sm = []) (cs : List Frame) : @SumOk (V m k t) F E1 Tryz.prog ⟨cs, W⟩ :=
  @SumOk.mk (V m k t) F E1 Tryz.prog ⟨cs, W⟩ (fun w he _ => known ((ini_met env0 hL gsEq).ext he)) (fun s hs => by rw [hF] at hs; cases hs)
/-- a class of what comes in -/
theorem cls {F : Fk} {sg : Sg} {H : Cfg} {cs : List Frame} {mm : Machine} (hF : @FkOk (V m k t) F) (h0 : F.sm = []) (hrv : F.rv = .bool true) (hsg : SgOk (V m k t) (V m k t) sg) (hh : gcH ksP H.hp = H.hp) (he : endE E1 sg ksP [] H lac0 = headE [] H)
    (hr : @turnsC F E1 noHd 100000 H = some []) (hs : @Sim (V m k t) fkI E1 Tryz.prog ⟨cs, W⟩ lac0 mm) : @Done (V m k t) E1 Tryz.prog ⟨cs, W⟩ (.bool true) mm := by
  simp only [endE, headE, Prod.mk.injEq] at he
  obtain ⟨a1, a2, a3, a4⟩ := he
  have h1 := end_sim hsg hF (fun g hg => by cases hg) hh a4 a1 a2 a3 rfl hs
  have hS : @SumOk (V m k t) F E1 Tryz.prog ⟨cs, W⟩ := sumOk hL h0 cs
  rcases @turns_sound (V m k t) F E1 Tryz.prog env1 ⟨cs, W⟩ hS (@drawn_ok (V m k t) F E1 Tryz.prog env1 ⟨cs, W⟩ hS) noHd 100000 H [] mm hr h1 with h | ⟨c', hc, _⟩
  · rw [hrv] at h; exact h
  · cases hc
theorem at0 {cs : List Frame} {mm : Machine} (h1 : 0 ≤ m ∧ m ≤ 70) (h2 : mn ≤ t ∧ t ≤ mx) (h3 : mn ≤ k ∧ k ≤ mx) (hs : @Sim (V m k t) fkI E1 Tryz.prog ⟨cs, W⟩ lac0 mm) : @Done (V m k t) E1 Tryz.prog ⟨cs, W⟩ (.bool true) mm := by
  have hk : (mn ≤ k ∧ k ≤ 0) ∨ k = 1 ∨ k = 2 ∨ k = 3 ∨ (4 ≤ k ∧ k ≤ mx) := by omega
  have hm : m = 0 ∨ m = 1 ∨ (2 ≤ m ∧ m ≤ 60) ∨ (61 ≤ m ∧ m ≤ 70) := by omega
  have r0 : 1 ≤ m → @RfOk (V m k t) (rz 0) := fun h => rz_ok (j := 0) (by omega)
  have r1 : 2 ≤ m → @RfOk (V m k t) (rz 1) := fun h => rz_ok (j := 1) (by omega)
  rcases hm with hm | hm | hm | hm
  · rcases hk with hk | hk | hk | hk | hk
    · exact cls hL (fm_ok (a := 0) (b := 0) (by decide) (by omega) (by omega) (fun x hx => by cases hx)) rfl rfl (sgN_ok ⟨by omega, by omega⟩ h2 ⟨by omega, by omega⟩) ch00 ce00 cr00 hs
    · exact cls hL (fm_ok (a := 0) (b := 0) (by decide) (by omega) (by omega) (fun x hx => by cases hx)) rfl rfl (sgC_ok ⟨by omega, by omega⟩ h2 hk) ch01 ce01 cr01 hs
    · exact cls hL (fm_ok (a := 0) (b := 0) (by decide) (by omega) (by omega) (fun x hx => by cases hx)) rfl rfl (sgC_ok ⟨by omega, by omega⟩ h2 hk) ch02 ce02 cr02 hs
    · exact cls hL (fm_ok (a := 0) (b := 0) (by decide) (by omega) (by omega) (fun x hx => by cases hx)) rfl rfl (sgC_ok ⟨by omega, by omega⟩ h2 hk) ch03 ce03 cr03 hs
    · exact cls hL (fm_ok (a := 0) (b := 0) (by decide) (by omega) (by omega) (fun x hx => by cases hx)) rfl rfl (sgN_ok ⟨by omega, by omega⟩ h2 ⟨by omega, by omega⟩) ch04 ce04 cr04 hs
  · rcases hk with hk | hk | hk | hk | hk
    · exact cls hL (fm_ok (a := 1) (b := 1) (by decide) (by omega) (by omega) (fun x hx => by obtain rfl := List.mem_singleton.1 hx; exact r0 (by omega))) rfl rfl (sgN_ok ⟨by omega, by omega⟩ h2 ⟨by omega, by omega⟩) ch10 ce10 cr10 hs
    · exact cls hL (fm_ok (a := 1) (b := 1) (by decide) (by omega) (by omega) (fun x hx => by obtain rfl := List.mem_singleton.1 hx; exact r0 (by omega))) rfl rfl (sgC_ok ⟨by omega, by omega⟩ h2 hk) ch11 ce11 cr11 hs
    · exact cls hL (fm_ok (a := 1) (b := 1) (by decide) (by omega) (by omega) (fun x hx => by obtain rfl := List.mem_singleton.1 hx; exact r0 (by omega))) rfl rfl (sgC_ok ⟨by omega, by omega⟩ h2 hk) ch12 ce12 cr12 hs
    · exact cls hL (fm_ok (a := 1) (b := 1) (by decide) (by omega) (by omega) (fun x hx => by obtain rfl := List.mem_singleton.1 hx; exact r0 (by omega))) rfl rfl (sgC_ok ⟨by omega, by omega⟩ h2 hk) ch13 ce13 cr13 hs
    · exact cls hL (fm_ok (a := 1) (b := 1) (by decide) (by omega) (by omega) (fun x hx => by obtain rfl := List.mem_singleton.1 hx; exact r0 (by omega))) rfl rfl (sgN_ok ⟨by omega, by omega⟩ h2 ⟨by omega, by omega⟩) ch14 ce14 cr14 hs
  · rcases hk with hk | hk | hk | hk | hk
    · exact cls hL (fm_ok (a := 2) (b := 60) (by decide) (by omega) (by omega) (fun x hx => by simp only [List.mem_cons, List.not_mem_nil, or_false] at hx; rcases hx with rfl | rfl <;> first | exact r0 (by omega) | exact r1 (by omega))) rfl rfl (sgN_ok ⟨by omega, by omega⟩ h2 ⟨by omega, by omega⟩) ch20 ce20 cr20 hs
    · exact cls hL (fm_ok (a := 2) (b := 60) (by decide) (by omega) (by omega) (fun x hx => by simp only [List.mem_cons, List.not_mem_nil, or_false] at hx; rcases hx with rfl | rfl <;> first | exact r0 (by omega) | exact r1 (by omega))) rfl rfl (sgC_ok ⟨by omega, by omega⟩ h2 hk) ch21 ce21 cr21 hs
    · exact cls hL (fm_ok (a := 2) (b := 60) (by decide) (by omega) (by omega) (fun x hx => by simp only [List.mem_cons, List.not_mem_nil, or_false] at hx; rcases hx with rfl | rfl <;> first | exact r0 (by omega) | exact r1 (by omega))) rfl rfl (sgC_ok ⟨by omega, by omega⟩ h2 hk) ch22 ce22 cr22 hs
    · exact cls hL (fm_ok (a := 2) (b := 60) (by decide) (by omega) (by omega) (fun x hx => by simp only [List.mem_cons, List.not_mem_nil, or_false] at hx; rcases hx with rfl | rfl <;> first | exact r0 (by omega) | exact r1 (by omega))) rfl rfl (sgC_ok ⟨by omega, by omega⟩ h2 hk) ch23 ce23 cr23 hs
    · exact cls hL (fm_ok (a := 2) (b := 60) (by decide) (by omega) (by omega) (fun x hx => by simp only [List.mem_cons, List.not_mem_nil, or_false] at hx; rcases hx with rfl | rfl <;> first | exact r0 (by omega) | exact r1 (by omega))) rfl rfl (sgN_ok ⟨by omega, by omega⟩ h2 ⟨by omega, by omega⟩) ch24 ce24 cr24 hs
  · rcases hk with hk | hk | hk | hk | hk
    · exact cls hL (fm_ok (a := 61) (b := 70) (by decide) (by omega) (by omega) (fun x hx => by simp only [List.mem_cons, List.not_mem_nil, or_false] at hx; rcases hx with rfl | rfl <;> first | exact r0 (by omega) | exact r1 (by omega))) rfl rfl (sgN_ok ⟨by omega, by omega⟩ h2 ⟨by omega, by omega⟩) ch30 ce30 cr30 hs
    · exact cls hL (fm_ok (a := 61) (b := 70) (by decide) (by omega) (by omega) (fun x hx => by simp only [List.mem_cons, List.not_mem_nil, or_false] at hx; rcases hx with rfl | rfl <;> first | exact r0 (by omega) | exact r1 (by omega))) rfl rfl (sgC_ok ⟨by omega, by omega⟩ h2 hk) ch31 ce31 cr31 hs
    · exact cls hL (fm_ok (a := 61) (b := 70) (by decide) (by omega) (by omega) (fun x hx => by simp only [List.mem_cons, List.not_mem_nil, or_false] at hx; rcases hx with rfl | rfl <;> first | exact r0 (by omega) | exact r1 (by omega))) rfl rfl (sgC_ok ⟨by omega, by omega⟩ h2 hk) ch32 ce32 cr32 hs
    · exact cls hL (fm_ok (a := 61) (b := 70) (by decide) (by omega) (by omega) (fun x hx => by simp only [List.mem_cons, List.not_mem_nil, or_false] at hx; rcases hx with rfl | rfl <;> first | exact r0 (by omega) | exact r1 (by omega))) rfl rfl (sgC_ok ⟨by omega, by omega⟩ h2 hk) ch33 ce33 cr33 hs
    · exact cls hL (fm_ok (a := 61) (b := 70) (by decide) (by omega) (by omega) (fun x hx => by simp only [List.mem_cons, List.not_mem_nil, or_false] at hx; rcases hx with rfl | rfl <;> first | exact r0 (by omega) | exact r1 (by omega))) rfl rfl (sgN_ok ⟨by omega, by omega⟩ h2 ⟨by omega, by omega⟩) ch34 ce34 cr34 hs
/-- the law, called with these numbers -/
theorem walk {m k t : Int} (w : mn ≤ m ∧ m ≤ mx) (h2 : mn ≤ t ∧ t ≤ mx) (h3 : mn ≤ k ∧ k ≤ mx) (cs : Array Value) (hcs : cs.toList = [.int .i64 k, .int .i64 t]) :
    Calls Tryz.prog 3 #[.int .i64 m, .agg cs] W (fun e w' => e = .returned (.bool true) ∧ Ext W.heap.size W w') := by
  have hi : @IniR (V m k t) gs W := by
    letI : Val := V m k t
    exact ini_met env0 hL gsEq
  have go : ∀ a b : Int, a ≤ m ∧ m ≤ b → (∃ c, enter E1 E1.root args false [] (initHv gs (ivs a b)) (Key.ofNat 110) = .go c ∧ ∀ cs' mm, @Sim (V m k t) fkI E1 Tryz.prog ⟨cs', W⟩ c mm → @Done (V m k t) E1 Tryz.prog ⟨cs', W⟩ (.bool true) mm) →
      Calls Tryz.prog 3 #[.int .i64 m, .agg cs] W (fun e w' => e = .returned (.bool true) ∧ Ext W.heap.size W w') := by
    intro a b hab hrun
    have hr := @ini_HRv (V m k t) fkI gs W hi W.heap.size (ivs a b) _ (@ini_HR (V m k t) fkI gs W (fkD _) hi _) (ivk a b) (fun x hx => by
      replace hx : x ∈ [(kT, mn, mx), (kK, mn, mx), (kM, a, b)] := hx
      simp only [List.mem_cons, List.not_mem_nil, or_false] at hx
      rcases hx with rfl | rfl | rfl
      · exact h2
      · exact h3
      · exact hab)
    refine (@callsD (V m k t) fkI (.bool true) E1 Tryz.prog env1 W args #[.int .i64 m, .agg cs] _ (Key.ofNat 110) (initMu gs) ?_ hr (ini_GR bits) hrun).mono fun e w' ⟨v, e1, ⟨ν, e2⟩, e3⟩ => by
      simp only [VR] at e2
      subst e2
      exact ⟨e1, e3⟩
    refine @VRs.cons (V m k t) _ _ _ _ _ (sx64 (f := kM) (n := m) rfl w _) (@VRs.cons (V m k t) _ _ _ _ _ ?_ (@VRs.nil (V m k t) _))
    simp only [VR]
    refine ⟨cs, rfl, ?_⟩
    rw [hcs]
    exact @VRs.cons (V m k t) _ _ _ _ _ (sx64 (f := kK) (n := k) rfl h3 _) (@VRs.cons (V m k t) _ _ _ _ _ (sx64 (f := kT) (n := t) rfl h2 _) (@VRs.nil (V m k t) _))
  have sg : SgOk (V m k t) (V m k t) (sgN mn mx mn mx) := sgN_ok w h2 h3
  by_cases n1 : m < 0
  · obtain ⟨c, e1, e2⟩ := enterT_some lN
    exact go mn (-1) ⟨w.1, by omega⟩ ⟨c, e1, fun cs' mm hs => turn_done env1 (sumOk hL rfl cs') e2 hs⟩
  · by_cases n2 : 70 < m
    · obtain ⟨c, e1, e2⟩ := enterT_some lX
      exact go 71 mx ⟨by omega, w.2⟩ ⟨c, e1, fun cs' mm hs => turn_done env1 (sumOk hL rfl cs') e2 hs⟩
    · obtain ⟨c, e1, e2⟩ := enterT_some lP
      refine go 0 70 ⟨by omega, by omega⟩ ⟨c, e1, fun cs' mm hs => ?_⟩
      rcases turn_sim (sgN_ok (a := 0) (b := 70) ⟨by omega, by omega⟩ h2 h3) (fkD _) env1 (sumOk hL rfl cs') (j := 1) (fun g hg => by cases hg) lH rfl rfl e2 hs with h | ⟨m', q1, q2⟩
      · exact h
      · obtain ⟨fr, w', v', μ, z1, z2⟩ := at0 hL ⟨by omega, by omega⟩ h2 h3 q2
        exact ⟨fr, w', v', μ, q1.trans z1, z2⟩
end
end
end Shrink
end Go.Proofs.YtdhfgfdpncmopaaGreatDoor
