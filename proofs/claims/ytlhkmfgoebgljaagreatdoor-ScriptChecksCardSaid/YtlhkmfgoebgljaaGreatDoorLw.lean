/- ScriptChecks: the loops, by induction: whatever orders are left, the run comes to true. -/
import Derived.Test.YtlhkmfgoebgljaaGreatDoorRn
import Derived.KernelRfl
set_option warn.classDefReducibility false
set_option linter.unusedVariables false
set_option linter.unusedSectionVars false
set_option linter.unusedSimpArgs false
open Go Go.Ev Go.Proofs
namespace Go.Proofs.YtlhkmfgoebgljaaGreatDoor
namespace Checks
noncomputable section
def Dn (C : Call0) (m : Machine) : Prop := @Done dV E1 Tryz.prog C (.bool true) m
theorem dn_of {C : Call0} {v : Val} {m : Machine} (h : @Done v E1 Tryz.prog C (.bool true) m) : Dn C m := done_any h
theorem dn_steps {C : Call0} {m m' : Machine} (h : Steps Tryz.prog m m') (k : Dn C m') : Dn C m := @Done.of_steps dV dF E1 Tryz.prog C _ m m' h k
theorem keeps_ok (v0 v1 : Val) : ∀ g ∈ keeps, GrOk v0 v1 g := by
  intro g hg
  simp only [keeps, List.mem_cons, List.not_mem_nil, or_false] at hg
  rcases hg with rfl | rfl | rfl | rfl | rfl | rfl | rfl | rfl <;> trivial
theorem cons_ok {v0 v1 : Val} {g : Gr} {l : List Gr} (h : GrOk v0 v1 g) (k : ∀ g ∈ l, GrOk v0 v1 g) : ∀ x ∈ g :: l, GrOk v0 v1 x := by
  intro x hx
  rcases List.mem_cons.1 hx with rfl | hx
  · exact h
  · exact k x hx
theorem ivs_ok {l : List Od} {p : Nat} {B W : List Int} {c : Cs} (hc : Cov c (l.getD p (0, 0, 0))) : ∀ x ∈ ivs c, x.2.1 ≤ (V l p B W).n x.1 ∧ (V l p B W).n x.1 ≤ x.2.2 := by
  intro x hx
  simp only [ivs, List.mem_cons, List.not_mem_nil, or_false] at hx
  rcases hx with rfl | rfl | rfl
  · exact hc.1
  · exact hc.2.1
  · exact hc.2.2.1
/-- a head holds intervals for the numbers of an order -/
def HasIv (h : Hp) : Prop := hget kK h = .iv mn mx ∧ hget kN h = .iv mn mx ∧ hget kX h = .iv mn mx
theorem in_class {C : Call0} {l : List Od} {p : Nat} {B W : List Int} {c : Cs} (hc : Cov c (l.getD p (0, 0, 0))) {F : Fk} {H : Cfg} {m : Machine} (h : HasIv H.hp) (k : @Sim (V l p B W) F E1 Tryz.prog C H m) :
    @Sim (V l p B W) F E1 Tryz.prog C (withIv (ivs c) H) m := by
  refine (@sim_ivs (V l p B W) F E1 Tryz.prog C (ivs c) H m (fun x hx => ?_) (ivs_ok hc) k).1
  simp only [ivs, List.mem_cons, List.not_mem_nil, or_false] at hx
  rcases hx with rfl | rfl | rfl
  · exact ⟨_, _, h.1⟩
  · exact ⟨_, _, h.2.1⟩
  · exact ⟨_, _, h.2.2⟩
theorem iv1 : HasIv H1.hp := ⟨by kernel_rfl, by kernel_rfl, by kernel_rfl⟩
theorem iv20 : HasIv H20.hp := ⟨by kernel_rfl, by kernel_rfl, by kernel_rfl⟩
theorem iv2 : HasIv H2.hp := ⟨by kernel_rfl, by kernel_rfl, by kernel_rfl⟩
theorem iv3e0 : HasIv H3e0.hp := ⟨by kernel_rfl, by kernel_rfl, by kernel_rfl⟩
theorem iv30 : HasIv H30.hp := ⟨by kernel_rfl, by kernel_rfl, by kernel_rfl⟩
theorem iv3 : HasIv H3.hp := ⟨by kernel_rfl, by kernel_rfl, by kernel_rfl⟩
theorem iv3e : HasIv H3e.hp := ⟨by kernel_rfl, by kernel_rfl, by kernel_rfl⟩
/-- the class that an order is of -/
def Cls (c : Cs) (o : Od) : Prop := ((okO o ∧ c ∈ goods) ∨ (¬ okO o ∧ c ∈ falls)) ∧ Cov c o
theorem cls_of {o : Od} (h : In o) : ∃ c, Cls c o := by
  by_cases hk : okO o
  · obtain ⟨c, h1, h2⟩ := good_of h hk; exact ⟨c, .inl ⟨hk, h1⟩, h2⟩
  · obtain ⟨c, h1, h2⟩ := fall_of h hk; exact ⟨c, .inr ⟨hk, h1⟩, h2⟩
theorem cls_good {c : Cs} {o : Od} (h : Cls c o) (k : okO o) : c ∈ goods := by
  rcases h.1 with h | h
  · exact h.2
  · exact absurd k h.1
theorem cls_any {c : Cs} {o : Od} (h : Cls c o) : c ∈ goods ++ falls := by
  rcases h.1 with h | h
  · exact List.mem_append_left _ h.2
  · exact List.mem_append_right _ h.2
section
variable {C : Call0} (hS : SumOk E1 Tryz.prog C) {l : List Od} (hl : Okl l)
/-- the last loop, after a fall: every order is the same order -/
def F4 (l : List Od) (p : Nat) : Fk := if p < l.length then Ft all else Fx
include hl in
theorem f4_ok {p : Nat} {B W : List Int} (hp : p ≤ l.length) : @FkOk (V l p B W) (F4 l p) := by
  by_cases h : p < l.length
  · rw [show F4 l p = Ft all from if_pos h]; exact ft_ok hl h (all_cov (in_at hl))
  · rw [show F4 l p = Fx from if_neg h]; exact fx_ok hl (by omega)
include hS hl in
theorem at4e : ∀ (n p : Nat) (B W : List Int) (m : Machine), l.length - p ≤ n → p ≤ l.length → @Sim (V l p B W) (F4 l p) E1 Tryz.prog C H4e m → Dn C m := by
  intro n
  induction n with
  | zero =>
    intro p B W m hn hp hs
    have hF : F4 l p = Fx := if_neg (by omega)
    rw [hF] at hs
    exact dn_of (turn_done env1 hS exit4e hs)
  | succ n ih =>
    intro p B W m hn hp hs
    by_cases hlt : p < l.length
    · have hF : F4 l p = Ft all := if_pos hlt
      rw [hF] at hs
      rcases turn_sim (sgT1_ok hl hlt) (F1 := F4 l (p + 1)) (f4_ok hl (by omega)) env1 hS (j := 1) (keeps_ok _ _) supp4e cl4e turn4e hs with h | ⟨m', h3, h4⟩
      · exact dn_of h
      · exact dn_steps h3 (ih (p + 1) B W m' (by omega) (by omega) h4)
    · exact ih p B W m (by omega) hp hs
include hS hl in
theorem at4 {B : List Int} (h1 : 3 ≤ B.length) (h2 : B.length ≤ 900) : ∀ (n p : Nat) (W : List Int) (m : Machine), l.length - p ≤ n → p ≤ l.length → @Sim (V l p B W) (F4 l p) E1 Tryz.prog C H4 m → Dn C m := by
  intro n
  induction n with
  | zero =>
    intro p W m hn hp hs
    have hF : F4 l p = Fx := if_neg (by omega)
    rw [hF] at hs
    exact dn_of (turn_done env1 hS exit4 hs)
  | succ n ih =>
    intro p W m hn hp hs
    by_cases hlt : p < l.length
    · have hF : F4 l p = Ft all := if_pos hlt
      rw [hF] at hs
      rcases turn_sim (sgT4_ok hl hlt h1 h2) (F1 := F4 l (p + 1)) (f4_ok hl (by omega)) env1 hS (j := 1) (keeps_ok _ _) supp4 cl4 turn4 hs with h | ⟨m', h3, h4⟩
      · exact dn_of h
      · exact dn_steps h3 (ih (p + 1) W m' (by omega) (by omega) h4)
    · exact ih p W m (by omega) hp hs
/-- the bytes of the orders so far -/
theorem take_bytes {p : Nat} (hp : p < l.length) : bytes (l.take (p + 1)) = bytes (l.take p) ++ bytesO (l.getD p (0, 0, 0)) := by
  rw [List.getD_eq_getElem?_getD, List.take_add_one, List.getElem?_eq_getElem hp]
  show bytes (l.take p ++ [l[p]]) = bytes (l.take p) ++ bytesO l[p]
  unfold bytes
  rw [List.flatMap_append, List.flatMap_cons, List.flatMap_nil, List.append_nil]
theorem take_len {p : Nat} (hp : p ≤ l.length) : (bytes (l.take p)).length = 3 * p := by rw [bytes_length, List.length_take, Nat.min_eq_left hp]
theorem bytes_in (ha : ∀ p, p < l.length → okO (l.getD p (0, 0, 0))) : ∀ b ∈ bytes l, 0 ≤ b ∧ b ≤ 255 := by
  intro b hb
  obtain ⟨o, ho, hb⟩ := List.mem_flatMap.1 hb
  obtain ⟨i, hi, rfl⟩ := List.mem_iff_getElem.1 ho
  have := ha i hi
  rw [List.getD_eq_getElem?_getD, List.getElem?_eq_getElem hi] at this
  exact bytesO_ok this b hb
/-- the third loop: the reference's bytes, where every order may be -/
def G3 (l : List Od) (p : Nat) (F : Fk) : Prop := (p < l.length ∧ ∃ c, Cls c (l.getD p (0, 0, 0)) ∧ F = Ft3 c) ∨ (p = l.length ∧ F = Fx3)
include hl in
theorem g3_ex (ha : ∀ p, p < l.length → okO (l.getD p (0, 0, 0))) {p : Nat} (hp : p ≤ l.length) (hp1 : 1 ≤ p) : ∃ F, G3 l p F ∧ @FkOk (V l p (bytes l) (bytes (l.take p))) F := by
  have hB := bytes_length l
  have hW := take_len (l := l) hp
  have hl2 := hl.2
  by_cases hlt : p < l.length
  · obtain ⟨c, hc⟩ := cls_of (in_at (p := p) hl)
    exact ⟨_, .inl ⟨hlt, c, hc, rfl⟩, ft3_ok hl hlt hc.2 (by omega) (by omega) (by omega) (by omega)⟩
  · exact ⟨_, .inr ⟨by omega, rfl⟩, fx3_ok hl (by omega) (by omega) (by omega) (bytes_in ha)⟩
include hS hl in
theorem at3x (ha : ∀ p, p < l.length → okO (l.getD p (0, 0, 0))) {m : Machine} {F : Fk} (hs : @Sim (V l l.length (bytes l) (bytes l)) F E1 Tryz.prog C H3 m) : Dn C m := by
  have hB := bytes_length l
  have hl2 := hl.2
  have hx := end_sim (sgR_ok hl (Nat.le_refl _) (by omega) (by omega)) (F1 := Fx3) (fx3_ok hl rfl (by omega) (by omega) (bytes_in ha)) (keeps_ok _ _) supp3x same3 tds3 cod3 obs3 cl3x hs
  rcases turn_sim (sgY4_ok hl (by omega) (by omega)) (F1 := F4 l 0) (f4_ok hl (by omega)) env1 hS (j := 1) (keeps_ok _ _) supp4 cl4 exit3 hx with h | ⟨m', h3, h4⟩
  · exact dn_of h
  · exact dn_steps h3 (at4 hS hl (by omega) (by omega) l.length 0 _ m' (by omega) (by omega) h4)
include hS hl in
theorem at3 (ha : ∀ p, p < l.length → okO (l.getD p (0, 0, 0))) : ∀ (n p : Nat) (F : Fk) (m : Machine), l.length - p ≤ n → p ≤ l.length → 1 ≤ p → G3 l p F →
    @Sim (V l p (bytes l) (bytes (l.take p))) F E1 Tryz.prog C H3 m → Dn C m := by
  have hB := bytes_length l
  have hl2 := hl.2
  intro n
  induction n with
  | zero =>
    intro p F m hn hp hp1 hG hs
    obtain rfl : p = l.length := by omega
    rw [List.take_length] at hs
    exact at3x hS hl ha hs
  | succ n ih =>
    intro p F m hn hp hp1 hG hs
    rcases hG with ⟨hlt, c, hc, rfl⟩ | ⟨rfl, rfl⟩
    · obtain ⟨F1, hG1, hF1⟩ := g3_ex hl ha (show p + 1 ≤ l.length by omega) (by omega)
      have hW := take_len (l := l) hp
      rw [take_bytes hlt] at hF1
      rcases turn_sim (sgT3_ok hl fW (l.getD p (0, 0, 0)) hlt (by omega) (by omega) (by omega)) hF1 env1 hS (j := 1) (cons_ok (growW fW (cls_good hc (ha p hlt)) hc.2) (keeps_ok _ _)) supp3 cl3 (map_one turns3 (cls_good hc (ha p hlt))) (in_class hc.2 iv3 hs) with h | ⟨m', h3, h4⟩
      · exact dn_of h
      · rw [← take_bytes hlt] at h4
        exact dn_steps h3 (ih (p + 1) F1 m' (by omega) (by omega) (by omega) hG1 h4)
    · rw [List.take_length] at hs
      exact at3x hS hl ha hs
include hS hl in
theorem at30 (ha : ∀ p, p < l.length → okO (l.getD p (0, 0, 0))) {c : Cs} (hc : Cls c (l.getD 0 (0, 0, 0))) {m : Machine} (hs : @Sim (V l 0 (bytes l) []) (Fi3 c) E1 Tryz.prog C H30 m) : Dn C m := by
  have hB := bytes_length l
  have hl2 := hl.2
  have h0 : 0 < l.length := by omega
  obtain ⟨F1, hG1, hF1⟩ := g3_ex hl ha (show 0 + 1 ≤ l.length by omega) (by omega)
  have e : bytes (l.take (0 + 1)) = bytesO (l.getD 0 (0, 0, 0)) := by rw [take_bytes h0]; rfl
  rw [e] at hF1
  rcases turn_sim (sgF3_ok hl fW (l.getD 0 (0, 0, 0)) (by omega) (by omega)) hF1 env1 hS (j := 1) (cons_ok (newW fW (cls_good hc (ha 0 h0)) hc.2) (keeps_ok _ _)) supp3 cl3n (map_one firsts3 (cls_good hc (ha 0 h0))) (in_class hc.2 iv30 hs) with h | ⟨m', h3, h4⟩
  · exact dn_of h
  · rw [← e] at h4
    exact dn_steps h3 (at3 hS hl ha l.length (0 + 1) F1 m' (by omega) (by omega) (by omega) hG1 h4)
include hS hl in
/-- the third loop, where an order may not be -/
theorem at3e {q : Nat} (hq : q < l.length) (hk : ¬ okO (l.getD q (0, 0, 0))) : ∀ (n p : Nat) (c : Cs) (m : Machine), q - p ≤ n → p ≤ q → 1 ≤ p → Cls c (l.getD p (0, 0, 0)) →
    @Sim (V l p [] (bytes (l.take p))) (Ft3e c) E1 Tryz.prog C H3e m → Dn C m := by
  have hl2 := hl.2
  intro n
  induction n with
  | zero =>
    intro p c m hn hp hp1 hc hs
    obtain rfl : p = q := by omega
    have hcf : c ∈ falls := by
      rcases hc.1 with h | h
      · exact absurd h.1 hk
      · exact h.2
    rcases turn_sim (sgY_ok hl) (F1 := F4 l 0) (f4_ok hl (by omega)) env1 hS (j := jn c) (keeps_ok _ _) supp4e cl4e (map_one fallt3 hcf) (in_class hc.2 iv3e hs) with h | ⟨m', h3, h4⟩
    · exact dn_of h
    · exact dn_steps h3 (at4e hS hl l.length 0 _ _ m' (by omega) (by omega) h4)
  | succ n ih =>
    intro p c m hn hp hp1 hc hs
    have hlt : p < l.length := by omega
    rcases hc.1 with ⟨ho, hcg⟩ | ⟨ho, hcf⟩
    · have hne : p ≠ q := fun e => by rw [e] at ho; exact hk ho
      obtain ⟨c1, hc1⟩ := cls_of (in_at (p := p + 1) hl)
      have hW := take_len (l := l) (show p ≤ l.length by omega)
      have hW1 := take_len (l := l) (show p + 1 ≤ l.length by omega)
      have hF1 := ft3e_ok (B := []) (W := bytes (l.take (p + 1))) hl (show p + 1 < l.length by omega) hc1.2 (by omega) (by omega)
      rw [take_bytes hlt] at hF1
      rcases turn_sim (sgT3e_ok hl fV (l.getD p (0, 0, 0)) hlt (by omega)) hF1 env1 hS (j := 1) (cons_ok (growW fV hcg hc.2) (keeps_ok _ _)) supp3e cl3e (map_one turns3e hcg) (in_class hc.2 iv3e hs) with h | ⟨m', h3, h4⟩
      · exact dn_of h
      · rw [← take_bytes hlt] at h4
        exact dn_steps h3 (ih (p + 1) c1 m' (by omega) (by omega) (by omega) hc1 h4)
    · rcases turn_sim (sgY_ok hl) (F1 := F4 l 0) (f4_ok hl (by omega)) env1 hS (j := jn c) (keeps_ok _ _) supp4e cl4e (map_one fallt3 hcf) (in_class hc.2 iv3e hs) with h | ⟨m', h3, h4⟩
      · exact dn_of h
      · exact dn_steps h3 (at4e hS hl l.length 0 _ _ m' (by omega) (by omega) h4)
include hS hl in
theorem at3e0 {q : Nat} (hq : q < l.length) (hk : ¬ okO (l.getD q (0, 0, 0))) {c : Cs} (hc : Cls c (l.getD 0 (0, 0, 0))) {m : Machine} (hs : @Sim (V l 0 [] []) (Fi c) E1 Tryz.prog C H3e0 m) : Dn C m := by
  have hl2 := hl.2
  have h0 : 0 < l.length := by omega
  rcases hc.1 with ⟨ho, hcg⟩ | ⟨ho, hcf⟩
  · have hne : 0 ≠ q := fun e => by rw [← e] at hk; exact hk ho
    obtain ⟨c1, hc1⟩ := cls_of (in_at (p := 0 + 1) hl)
    have hW1 := take_len (l := l) (show 0 + 1 ≤ l.length by omega)
    have e : bytes (l.take (0 + 1)) = bytesO (l.getD 0 (0, 0, 0)) := by rw [take_bytes h0]; rfl
    have hF1 := ft3e_ok (B := []) (W := bytes (l.take (0 + 1))) hl (show 0 + 1 < l.length by omega) hc1.2 (by omega) (by omega)
    rw [e] at hF1
    rcases turn_sim (sgF3e_ok hl fV (l.getD 0 (0, 0, 0))) hF1 env1 hS (j := 1) (cons_ok (newW fV hcg hc.2) (keeps_ok _ _)) supp3e cl3en (map_one firsts3e hcg) (in_class hc.2 iv3e0 hs) with h | ⟨m', h3, h4⟩
    · exact dn_of h
    · rw [← e] at h4
      exact dn_steps h3 (at3e hS hl hq hk q (0 + 1) c1 m' (by omega) (by omega) (by omega) hc1 h4)
  · rcases turn_sim (sgY_ok hl) (F1 := F4 l 0) (f4_ok hl (by omega)) env1 hS (j := jn c) (keeps_ok _ _) supp4e cl4e (map_one fall3 hcf) (in_class hc.2 iv3e0 hs) with h | ⟨m', h3, h4⟩
    · exact dn_of h
    · exact dn_steps h3 (at4e hS hl l.length 0 _ _ m' (by omega) (by omega) h4)
/-- the second loop: the program's bytes -/
def G2 (l : List Od) (p : Nat) (F : Fk) : Prop := (p < l.length ∧ ∃ c, Cls c (l.getD p (0, 0, 0)) ∧ F = Ft2 c) ∨ (p = l.length ∧ F = Fx2)
include hl in
theorem g2_ex {p : Nat} (hp : p ≤ l.length) (hp1 : 1 ≤ p) : ∃ F, G2 l p F ∧ @FkOk (V l p (bytes (l.take p)) []) F := by
  have hW := take_len (l := l) hp
  have hl2 := hl.2
  by_cases hlt : p < l.length
  · obtain ⟨c, hc⟩ := cls_of (in_at (p := p) hl)
    exact ⟨_, .inl ⟨hlt, c, hc, rfl⟩, ft2_ok hl hlt hc.2 (by omega) (by omega)⟩
  · exact ⟨_, .inr ⟨by omega, rfl⟩, fx2_ok hl (by omega) (by omega) (by omega)⟩
include hS hl in
theorem at2x {m : Machine} (ha : ∀ p, p < l.length → okO (l.getD p (0, 0, 0))) (hs : @Sim (V l l.length (bytes l) []) Fx2 E1 Tryz.prog C H2 m) : Dn C m := by
  have hB := bytes_length l
  have hl2 := hl.2
  obtain ⟨c, hc⟩ := cls_of (in_at (p := 0) hl)
  rcases turn_sim (sgX2_ok hl (by omega) (by omega)) (F1 := Fi3 c) (fi3_ok hl hc.2 (by omega) (by omega)) env1 hS (j := 1) (keeps_ok _ _) supp30 cl30 exit2 hs with h | ⟨m', h3, h4⟩
  · exact dn_of h
  · exact dn_steps h3 (at30 hS hl ha hc h4)
include hS hl in
theorem at2f {p : Nat} {B : List Int} {c : Cs} (hlt : p < l.length) (ho : ¬ okO (l.getD p (0, 0, 0))) (hcf : c ∈ falls) (hcv : Cov c (l.getD p (0, 0, 0))) {m : Machine} (hs : @Sim (V l p B []) (Ft2 c) E1 Tryz.prog C H2 m) : Dn C m := by
  obtain ⟨c0, hc0⟩ := cls_of (in_at (p := 0) hl)
  rcases turn_sim (sgX_ok hl) (F1 := Fi c0) (fi_ok hl hc0.2) env1 hS (j := 1) (keeps_ok _ _) supp3e0 cl3e0 (map_one fallt2 hcf) (in_class hcv iv2 hs) with h | ⟨m', h3, h4⟩
  · exact dn_of h
  · exact dn_steps h3 (at3e0 hS hl hlt ho hc0 h4)
include hS hl in
theorem at2 : ∀ (n p : Nat) (F : Fk) (m : Machine), l.length - p ≤ n → p ≤ l.length → 1 ≤ p → (∀ q, q < p → okO (l.getD q (0, 0, 0))) → G2 l p F →
    @Sim (V l p (bytes (l.take p)) []) F E1 Tryz.prog C H2 m → Dn C m := by
  have hl2 := hl.2
  intro n
  induction n with
  | zero =>
    intro p F m hn hp hp1 ha hG hs
    rcases hG with ⟨hlt, _⟩ | ⟨rfl, rfl⟩
    · omega
    · rw [List.take_length] at hs
      exact at2x hS hl ha hs
  | succ n ih =>
    intro p F m hn hp hp1 ha hG hs
    rcases hG with ⟨hlt, c, hc, rfl⟩ | ⟨rfl, rfl⟩
    · rcases hc.1 with ⟨ho, hcg⟩ | ⟨ho, hcf⟩
      · obtain ⟨F1, hG1, hF1⟩ := g2_ex hl (show p + 1 ≤ l.length by omega) (by omega)
        have hW := take_len (l := l) hp
        rw [take_bytes hlt] at hF1
        rcases turn_sim (sgT2_ok hl fB (l.getD p (0, 0, 0)) hlt (by omega)) hF1 env1 hS (j := 1) (cons_ok (growB fB hcg hc.2) (keeps_ok _ _)) supp2 cl2 (map_one turns2 hcg) (in_class hc.2 iv2 hs) with h | ⟨m', h3, h4⟩
        · exact dn_of h
        · rw [← take_bytes hlt] at h4
          refine dn_steps h3 (ih (p + 1) F1 m' (by omega) (by omega) (by omega) (fun q hq => ?_) hG1 h4)
          by_cases e : q = p
          · rw [e]; exact ho
          · exact ha q (by omega)
      · exact at2f hS hl hlt ho hcf hc.2 hs
    · rw [List.take_length] at hs
      exact at2x hS hl ha hs
include hS hl in
theorem at20 {c : Cs} (hc : Cls c (l.getD 0 (0, 0, 0))) {m : Machine} (hs : @Sim (V l 0 [] []) (Fi c) E1 Tryz.prog C H20 m) : Dn C m := by
  have hl2 := hl.2
  have h0 : 0 < l.length := by omega
  rcases hc.1 with ⟨ho, hcg⟩ | ⟨ho, hcf⟩
  · obtain ⟨F1, hG1, hF1⟩ := g2_ex hl (show 0 + 1 ≤ l.length by omega) (by omega)
    have e : bytes (l.take (0 + 1)) = bytesO (l.getD 0 (0, 0, 0)) := by rw [take_bytes h0]; rfl
    rw [e] at hF1
    rcases turn_sim (sgF2_ok hl fB (l.getD 0 (0, 0, 0))) hF1 env1 hS (j := 1) (cons_ok (newB fB hcg hc.2) (keeps_ok _ _)) supp2 cl2n (map_one firsts2 hcg) (in_class hc.2 iv20 hs) with h | ⟨m', h3, h4⟩
    · exact dn_of h
    · rw [← e] at h4
      refine dn_steps h3 (at2 hS hl l.length (0 + 1) F1 m' (by omega) (by omega) (by omega) (fun q hq => ?_) hG1 h4)
      obtain rfl : q = 0 := by omega
      exact ho
  · obtain ⟨c0, hc0⟩ := cls_of (in_at (p := 0) hl)
    rcases turn_sim (sgX_ok hl) (F1 := Fi c0) (fi_ok hl hc0.2) env1 hS (j := 1) (keeps_ok _ _) supp3e0 cl3e0 (map_one fall2 hcf) (in_class hc.2 iv20 hs) with h | ⟨m', h3, h4⟩
    · exact dn_of h
    · exact dn_steps h3 (at3e0 hS hl h0 ho hc0 h4)
/-- the first loop: the law's own -/
def G1 (l : List Od) (p : Nat) (F : Fk) : Prop := (p < l.length ∧ ∃ c, Cls c (l.getD p (0, 0, 0)) ∧ F = Ft c) ∨ (p = l.length ∧ F = Fx)
include hl in
theorem g1_ex {p : Nat} (hp : p ≤ l.length) : ∃ F, G1 l p F ∧ @FkOk (V l p [] []) F := by
  by_cases hlt : p < l.length
  · obtain ⟨c, hc⟩ := cls_of (in_at (p := p) hl)
    exact ⟨_, .inl ⟨hlt, c, hc, rfl⟩, ft_ok hl hlt hc.2⟩
  · exact ⟨_, .inr ⟨by omega, rfl⟩, fx_ok hl (by omega)⟩
include hS hl in
theorem at1 : ∀ (n p : Nat) (F : Fk) (m : Machine), l.length - p ≤ n → p ≤ l.length → G1 l p F → @Sim (V l p [] []) F E1 Tryz.prog C H1 m → Dn C m := by
  intro n
  have hexit : ∀ {m : Machine}, @Sim (V l l.length [] []) Fx E1 Tryz.prog C H1 m → Dn C m := by
    intro m hs
    obtain ⟨c0, hc0⟩ := cls_of (in_at (p := 0) hl)
    rcases turn_sim (sgX_ok hl) (F1 := Fi c0) (fi_ok hl hc0.2) env1 hS (j := 1) (keeps_ok _ _) supp20 cl20 exit1 hs with h | ⟨m', h3, h4⟩
    · exact dn_of h
    · exact dn_steps h3 (at20 hS hl hc0 h4)
  induction n with
  | zero =>
    intro p F m hn hp hG hs
    rcases hG with ⟨hlt, _⟩ | ⟨rfl, rfl⟩
    · omega
    · exact hexit hs
  | succ n ih =>
    intro p F m hn hp hG hs
    rcases hG with ⟨hlt, c, hc, rfl⟩ | ⟨rfl, rfl⟩
    · obtain ⟨F1, hG1, hF1⟩ := g1_ex hl (show p + 1 ≤ l.length by omega)
      rcases turn_sim (sgT1_ok hl hlt) hF1 env1 hS (j := jn c) (keeps_ok _ _) supp1 cl1 (map_one turns1 (cls_any hc)) (in_class hc.2 iv1 hs) with h | ⟨m', h3, h4⟩
      · exact dn_of h
      · exact dn_steps h3 (ih (p + 1) F1 m' (by omega) (by omega) hG1 h4)
    · exact hexit hs
end
end
end Checks
end Go.Proofs.YtlhkmfgoebgljaaGreatDoor
