/- ScriptReads: the loops, by induction: whatever bytes are left, the run comes to true. -/
import Derived.Test.YtjjdonehfbebkaaGreatDoorRn
import Derived.KernelRfl
set_option warn.classDefReducibility false
set_option linter.unusedVariables false
set_option linter.unusedSectionVars false
set_option linter.unusedSimpArgs false
open Go Go.Ev Go.Proofs
namespace Go.Proofs.YtjjdonehfbebkaaGreatDoor
namespace Reads
noncomputable section
def Dn (C : Call0) (m : Machine) : Prop := @Done dV E1 Tryz.prog C (.bool true) m
theorem dn_of {C : Call0} {v : Val} {m : Machine} (h : @Done v E1 Tryz.prog C (.bool true) m) : Dn C m := done_any h
theorem dn_steps {C : Call0} {m m' : Machine} (h : Steps Tryz.prog m m') (k : Dn C m') : Dn C m := @Done.of_steps dV dF E1 Tryz.prog C _ m m' h k
theorem keeps_ok (v0 v1 : Val) : ∀ g ∈ keeps, GrOk v0 v1 g := by
  intro g hg
  simp only [keeps, List.mem_cons, List.not_mem_nil, or_false] at hg
  rcases hg with rfl | rfl | rfl | rfl | rfl | rfl | rfl | rfl <;> trivial
theorem loop_ok (v0 v1 : Val) (k : Key) : GrOk v0 v1 (.loop k) := trivial
theorem cons_ok {v0 v1 : Val} {g : Gr} {l : List Gr} (h : GrOk v0 v1 g) (k : ∀ g ∈ l, GrOk v0 v1 g) : ∀ x ∈ g :: l, GrOk v0 v1 x := by
  intro x hx
  rcases List.mem_cons.1 hx with rfl | hx
  · exact h
  · exact k x hx
section
variable {C : Call0} (hS : SumOk E1 Tryz.prog C) {bs : List Nat} (hb : Okb bs)
def F3 (L : List Od) (p : Nat) : Fk := if p < L.length then Ft3 else Fx3
include hb in
theorem f3_ok {L : List Od} {p : Nat} (h1 : 1 ≤ L.length) (h2 : L.length ≤ 334) (hL : Okl L) (hp : p ≤ L.length) : @FkOk (V bs p L []) (F3 L p) := by
  by_cases h : p < L.length
  · rw [show F3 L p = Ft3 from if_pos h]; exact ft3_ok hb hL h h2
  · rw [show F3 L p = Fx3 from if_neg h]; exact fx3_ok hb (by omega) h1 h2
include hS hb in
/-- the third loop: the orders are compared -/
theorem at3 {L : List Od} (h1 : 1 ≤ L.length) (h2 : L.length ≤ 334) (hL : Okl L) : ∀ (n p : Nat) (m : Machine), L.length - p ≤ n → p ≤ L.length → @Sim (V bs p L []) (F3 L p) E1 Tryz.prog C H3 m → Dn C m := by
  intro n
  induction n with
  | zero =>
    intro p m hn hp hs
    have hF : F3 L p = Fx3 := if_neg (by omega)
    rw [hF] at hs
    exact dn_of (turn_done env1 hS exit3 hs)
  | succ n ih =>
    intro p m hn hp hs
    by_cases hlt : p < L.length
    · have hF : F3 L p = Ft3 := if_pos hlt
      rw [hF] at hs
      rcases turn_sim (sgT3_ok hb hlt h2) (F1 := F3 L (p + 1)) (f3_ok hb h1 h2 hL (by omega)) env1 hS (j := 1) (keeps_ok _ _) supp3 cl3 turn3 hs with h | ⟨m', h3, h4⟩
      · exact dn_of h
      · exact dn_steps h3 (ih (p + 1) m' (by omega) (by omega) h4)
    · exact ih p m (by omega) hp hs
/-- the second loop: the reference's orders -/
def F2 (bs : List Nat) (p : Nat) : Fk := if bs.drop p = [] then Fx2 else Ft2 (csOf (bs.drop p))
include hS hb in
theorem at2 {L : List Od} (hL : L = ords bs) : ∀ (n p : Nat) (R : List Od) (m : Machine), bs.length - p ≤ n → p ≤ bs.length + 2 → 1 ≤ R.length → R ++ ords (bs.drop p) = ords bs →
    @Sim (V bs p L R) (F2 bs p) E1 Tryz.prog C H2 m → Dn C m := by
  have hlen := ords_length bs
  have hb2 := hb.2
  have hl2 : L.length ≤ 334 := by rw [hL]; omega
  intro n
  induction n with
  | zero =>
    intro p R m hn hp hR he hs
    have hd : bs.drop p = [] := List.drop_eq_nil_of_le (by omega)
    have hF : F2 bs p = Fx2 := if_pos hd
    rw [hF] at hs
    rw [hd] at he
    have hRL : R = L := by rw [hL, ← he]; simp [ords]
    subst hRL
    rcases turn_sim (sgX2_ok hb hR hl2) (F1 := F3 R 0) (f3_ok hb hR hl2 (by rw [hL]; exact ords_ok hb.1) (by omega)) env1 hS (j := 1) (keeps_ok _ _) supp3 cl3 exit2 hs with h | ⟨m', h3, h4⟩
    · exact dn_of h
    · exact dn_steps h3 (at3 hS hb hR hl2 (by rw [hL]; exact ords_ok hb.1) R.length 0 m' (by omega) (by omega) h4)
  | succ n ih =>
    intro p R m hn hp hR he hs
    by_cases hd : bs.drop p = []
    · exact ih p R m (by have : bs.length ≤ p := List.drop_eq_nil_iff.1 hd; omega) hp hR he hs
    · have hlt : p < bs.length := Nat.lt_of_not_le fun h => hd (List.drop_eq_nil_of_le h)
      have hF : F2 bs p = Ft2 (csOf (bs.drop p)) := if_neg hd
      rw [hF] at hs
      have hdd : (bs.drop p).drop 3 = bs.drop (p + 3) := by rw [List.drop_drop]
      have he' : (R ++ [odOf (bs.drop p)]) ++ ords (bs.drop (p + 3)) = ords bs := by rw [← he, ords_step hd, hdd]; simp
      have hlen' : (R ++ [odOf (bs.drop p)]).length ≤ (ords bs).length := by rw [← he']; simp
      simp only [List.length_append, List.length_cons, List.length_nil] at hlen'
      have h1L : 1 ≤ L.length := by rw [hL]; omega
      have hF1 : @FkOk (V bs (p + 3) L (R ++ [odOf (bs.drop p)])) (F2 bs (p + 3)) := by
        by_cases hd3 : bs.drop (p + 3) = []
        · rw [show F2 bs (p + 3) = Fx2 from if_pos hd3]
          rw [hd3] at he'
          refine fx2_ok hb hd3 (by omega) h1L hl2 ?_
          rw [hL, ← he']; simp [ords]
        · rw [show F2 bs (p + 3) = Ft2 (csOf (bs.drop (p + 3))) from if_neg hd3]
          exact ft2_ok hb (by omega) h1L hl2 (by simp) (by simp; omega)
      rcases turn_sim (sgT2_ok hb k48 (odOf (bs.drop p)) hlt h1L hl2 (by omega)) hF1 env1 hS (j := 1) (cons_ok (growR hb k48 hd) (keeps_ok _ _)) supp2 cl2 (map_one turns2 (csOf_in hd)) hs with h | ⟨m', h3, h4⟩
      · exact dn_of h
      · exact dn_steps h3 (ih (p + 3) _ m' (by omega) (by omega) (by simp) he' h4)
include hS hb in
theorem at20 {L : List Od} (hL : L = ords bs) {m : Machine} (hs : @Sim (V bs 0 L []) (Fi2 (csOf bs)) E1 Tryz.prog C H20 m) : Dn C m := by
  have hlen := ords_length bs
  have hb2 := hb.2
  have hl2 : L.length ≤ 334 := by rw [hL]; omega
  have hne : bs ≠ [] := fun e => by rw [e] at hb2; exact absurd hb2.1 (by decide)
  have hst := ords_step hne
  have h1L : 1 ≤ L.length := by rw [hL, hst]; simp
  have he : [odOf bs] ++ ords (bs.drop 3) = ords bs := by rw [hst]; rfl
  have hF1 : @FkOk (V bs 3 L [odOf bs]) (F2 bs 3) := by
    by_cases hd3 : bs.drop 3 = []
    · rw [show F2 bs 3 = Fx2 from if_pos hd3]
      rw [hd3] at he
      refine fx2_ok hb hd3 (by omega) h1L hl2 ?_
      rw [hL, ← he]; simp [ords]
    · rw [show F2 bs 3 = Ft2 (csOf (bs.drop 3)) from if_neg hd3]
      exact ft2_ok hb (by omega) h1L hl2 (by simp) (by simp)
  rcases turn_sim (sgF2_ok hb k48 (odOf bs) h1L hl2) hF1 env1 hS (j := 1) (cons_ok (newR hb k48) (keeps_ok _ _)) supp2 cl2n (map_one firsts2 (csOf_in hne)) hs with h | ⟨m', h3, h4⟩
  · exact dn_of h
  · exact dn_steps h3 (at2 hS hb hL bs.length 3 _ m' (by omega) (by omega) (by simp) he h4)
include hS hb in
/-- the first loop: the program's orders -/
theorem at1 : ∀ (n p : Nat) (L : List Od) (m : Machine), bs.length - p ≤ n → p ≤ bs.length + 2 → 1 ≤ L.length → L ++ ords (bs.drop p) = ords bs →
    @Sim (V bs p L []) (Ft (csOf (bs.drop p))) E1 Tryz.prog C H1 m → Dn C m := by
  have hlen := ords_length bs
  have hb2 := hb.2
  intro n
  induction n with
  | zero =>
    intro p L m hn hp h1 he hs
    have hd : bs.drop p = [] := List.drop_eq_nil_of_le (by omega)
    rw [hd] at hs he
    have hL : L = ords bs := by rw [← he]; simp [ords]
    have hl2 : L.length ≤ 334 := by rw [hL]; omega
    rcases turn_sim (sgX1_ok hb h1 hl2) (F1 := Fi2 (csOf bs)) (fi2_ok hb h1 hl2) env1 hS (j := 1) (keeps_ok _ _) supp20 cl20 exit1 hs with h | ⟨m', h3, h4⟩
    · exact dn_of h
    · exact dn_steps h3 (at20 hS hb hL h4)
  | succ n ih =>
    intro p L m hn hp h1 he hs
    by_cases hd : bs.drop p = []
    · exact ih p L m (by have : bs.length ≤ p := List.drop_eq_nil_iff.1 hd; omega) hp h1 he hs
    · have hlt : p < bs.length := Nat.lt_of_not_le fun h => hd (List.drop_eq_nil_of_le h)
      have hdd : (bs.drop p).drop 3 = bs.drop (p + 3) := by rw [List.drop_drop]
      have he' : (L ++ [odOf (bs.drop p)]) ++ ords (bs.drop (p + 3)) = ords bs := by rw [← he, ords_step hd, hdd]; simp
      have hlen' : (L ++ [odOf (bs.drop p)]).length ≤ (ords bs).length := by rw [← he']; simp
      simp only [List.length_append, List.length_cons, List.length_nil] at hlen'
      rcases turn_sim (sgT1_ok hb k42 (odOf (bs.drop p)) hlt (by omega)) (F1 := Ft (csOf (bs.drop (p + 3)))) (ft_ok hb (by omega) (by simp) (by simp; omega)) env1 hS (j := 1)
        (cons_ok (growL hb k42 hd) (cons_ok (loop_ok _ _ k36) (keeps_ok _ _))) supp1 cl1 (map_one turns1 (csOf_in hd)) hs with h | ⟨m', h3, h4⟩
      · exact dn_of h
      · exact dn_steps h3 (ih (p + 3) _ m' (by omega) (by omega) (by simp) he' h4)
include hS hb in
theorem at0 {m : Machine} (hs : @Sim (V bs 0 [] []) (Fi (csOf bs)) E1 Tryz.prog C H0 m) : Dn C m := by
  have hb2 := hb.2
  have hne : bs ≠ [] := fun e => by rw [e] at hb2; exact absurd hb2.1 (by decide)
  have he : [odOf bs] ++ ords (bs.drop 3) = ords bs := by rw [ords_step hne]; rfl
  rcases turn_sim (sgF1_ok hb k42 (odOf bs)) (F1 := Ft (csOf (bs.drop 3))) (ft_ok hb (by omega) (by simp) (by simp)) env1 hS (j := 1)
    (cons_ok (newL hb k42) (cons_ok (loop_ok _ _ k36) (keeps_ok _ _))) supp1 cl1n (map_one firsts1 (csOf_in hne)) hs with h | ⟨m', h3, h4⟩
  · exact dn_of h
  · exact dn_steps h3 (at1 hS hb bs.length 3 _ m' (by omega) (by omega) (by simp) he h4)
end
end
end Reads
end Go.Proofs.YtjjdonehfbebkaaGreatDoor
