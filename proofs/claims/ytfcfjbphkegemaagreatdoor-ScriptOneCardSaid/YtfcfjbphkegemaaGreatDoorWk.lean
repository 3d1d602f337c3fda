/- ScriptOne: the law, called with any three bytes, comes to true. -/
import Derived.Test.YtfcfjbphkegemaaGreatDoorRa0
import Derived.Test.YtfcfjbphkegemaaGreatDoorKa1
import Derived.KernelRfl
set_option warn.classDefReducibility false
set_option linter.unusedVariables false
set_option linter.unusedSectionVars false
set_option linter.unusedSimpArgs false
open Go Go.Ev Go.Proofs
namespace Go.Proofs.YtfcfjbphkegemaaGreatDoor
namespace One
noncomputable section
theorem r5 {r : Nat} (h : r < 5) : r = 0 ∨ r = 1 ∨ r = 2 ∨ r = 3 ∨ r = 4 := by omega
def canon (r s t : Nat) : List AV :=
  match r with
  | 1 => c3 1 s 0
  | 2 => c3 2 0 t
  | 3 => c3 3 0 t
  | r => c3 r 0 0
theorem in3 {r s t : Nat} (hr : r < 5) (hs : s < 6) (ht : t < 9) : canon r s t ∈ classes := by
  unfold classes
  simp only [List.mem_append, List.mem_map, List.mem_range, List.mem_cons, List.not_mem_nil, or_false]
  rcases r5 hr with rfl | rfl | rfl | rfl | rfl
  · exact .inl (.inl (.inl (.inl rfl)))
  · exact .inl (.inl (.inr ⟨s, hs, rfl⟩))
  · exact .inl (.inr ⟨t, ht, rfl⟩)
  · exact .inr ⟨t, ht, rfl⟩
  · exact .inl (.inl (.inl (.inr rfl)))
theorem fkD (v : Val) : @FkOk v fkI := @FkOk.mk v fkI (fun x hx => (by cases hx)) (fun x hx => (by cases hx)) (fun x hx => (by cases hx))
/-- works() answers true -/
theorem known (v : Val) {W : World} (hi : @IniR v gs W) : Calls Tryz.prog E1.sum #[] W (fun e w' => e = .returned (.bool true) ∧ Ext W.heap.size W w') :=
  @ini_calls v fkI E0 Tryz.prog (fkD v) env0 gs W hi bits (fun h => by rw [show E0.sum = 100000 from rfl, noSum] at h; cases h) _ [] #[] _ (fun μ => @VRs.nil v μ) runKnown
@[reducible] def val (b c : Nat) : Val := ⟨fun k => bif Key.beq k kB1 then b else c, fun _ => []⟩
theorem md_vr {V : Val} {μ : Mu} {m x : Nat} (hx : x < 256) : @VR V μ (.md .u8 m (x % m)) (.int .u8 (x : Int)) := by
  simp only [VR]
  exact ⟨x, rfl, rfl, by simp only [kmax]; omega⟩
theorem sx8 {V : Val} {μ : Mu} {f : Key} {n : Nat} (hn : V.n f = n) (h : n < 256) : @VR V μ (.sx .u8 f 0 0 255) (.int .u8 (n : Int)) := by
  simp only [VR]
  rw [hn, Int.add_zero, fitW (k := .u8) (lo := 0) (hi := 255) rfl (by omega) (by omega)]
  exact ⟨rfl, by omega, by omega⟩
theorem row_vr {x y z : Nat} (hx : x < 256) (hy : y < 256) (hz : z < 256) (μ : Mu) : @VRs (val y z) μ (canon (x % 5) (y % 6) (z % 9)) [.int .u8 (x : Int), .int .u8 (y : Int), .int .u8 (z : Int)] := by
  have hm := @md_vr (val y z) μ 5 x hx
  have hm2 := @md_vr (val y z) μ 6 y hy
  have hm3 := @md_vr (val y z) μ 9 z hz
  have h1 : @VR (val y z) μ b1 (.int .u8 (y : Int)) := sx8 rfl hy
  have h2 : @VR (val y z) μ b2 (.int .u8 (z : Int)) := sx8 rfl hz
  have mk : ∀ {a b c : AV}, @VR (val y z) μ a (.int .u8 (x : Int)) → @VR (val y z) μ b (.int .u8 (y : Int)) → @VR (val y z) μ c (.int .u8 (z : Int)) → @VRs (val y z) μ [a, b, c] [.int .u8 (x : Int), .int .u8 (y : Int), .int .u8 (z : Int)] :=
    fun p q r => @VRs.cons (val y z) μ _ _ _ _ p (@VRs.cons (val y z) μ _ _ _ _ q (@VRs.cons (val y z) μ _ _ _ _ r (@VRs.nil (val y z) μ)))
  rcases r5 (Nat.mod_lt x (show 0 < 5 by decide)) with h | h | h | h | h <;> rw [h] at hm ⊢
  · exact mk hm h1 h2
  · exact mk hm hm2 h2
  · exact mk hm h1 hm3
  · exact mk hm h1 hm3
  · exact mk hm h1 h2
theorem walk {W : World} (hL : laidMetH Tryz.prog rowLaid W) {x y z : Int} (hx : 0 ≤ x ∧ x ≤ 255) (hy : 0 ≤ y ∧ y ≤ 255) (hz : 0 ≤ z ∧ z ≤ 255) {v0 : Value} (cs : Array Value) (hv : v0 = .agg cs) (hcs : cs.toList = [.int .u8 x, .int .u8 y, .int .u8 z]) :
    Calls Tryz.prog 3 #[v0] W (fun e w' => e = .returned (.bool true) ∧ Ext W.heap.size W w') := by
  obtain ⟨x, rfl⟩ : ∃ n : Nat, x = n := ⟨x.toNat, by omega⟩
  obtain ⟨y, rfl⟩ : ∃ n : Nat, y = n := ⟨y.toNat, by omega⟩
  obtain ⟨z, rfl⟩ : ∃ n : Nat, z = n := ⟨z.toNat, by omega⟩
  have hr := map_one runs (in3 (Nat.mod_lt x (show 0 < 5 by decide)) (Nat.mod_lt y (show 0 < 6 by decide)) (Nat.mod_lt z (show 0 < 9 by decide)))
  have hi : @IniR (val y z) gs W := letI := val y z; ini_met env0 hL gsEq
  refine @ini_callsV (val y z) fkI E1 Tryz.prog (fkD _) env1 gs W hi bits (fun _ w hw => known _ hw) _ _ #[v0] _ ivs2 ok2 (fun k hk => ?_) (fun μ => ?_) hr
  · simp only [ivs2, List.mem_cons, List.not_mem_nil, or_false] at hk
    rcases hk with rfl | rfl
    · show (0 : Int) ≤ (y : Int) ∧ (y : Int) ≤ 255; omega
    · show (0 : Int) ≤ (z : Int) ∧ (z : Int) ≤ 255; omega
  · subst hv
    refine @VRs.cons (val y z) μ _ _ _ _ ?_ (@VRs.nil (val y z) μ)
    simp only [VR]
    refine ⟨cs, rfl, ?_⟩
    rw [hcs]
    exact row_vr (by omega) (by omega) (by omega) μ
end
end One
end Go.Proofs.YtfcfjbphkegemaaGreatDoor
