/- ScriptBack: the loops, by induction: whatever orders and bytes are left, the run comes to true. -/
import Derived.Test.YtadnhmpkfelofaaGreatDoorRn
import Derived.KernelRfl
set_option warn.classDefReducibility false
set_option linter.unusedVariables false
set_option linter.unusedSectionVars false
set_option linter.unusedSimpArgs false
open Go Go.Ev Go.Proofs
namespace Go.Proofs.YtadnhmpkfelofaaGreatDoor
namespace Back
noncomputable section
def Dn (C : Call0) (m : Machine) : Prop := @Done dV E1 Tryz.prog C (.bool true) m
theorem dn_of {C : Call0} {v : Val} {m : Machine} (h : @Done v E1 Tryz.prog C (.bool true) m) : Dn C m := done_any h
theorem dn_steps {C : Call0} {m m' : Machine} (h : Steps Tryz.prog m m') (k : Dn C m') : Dn C m := @Done.of_steps dV dF E1 Tryz.prog C _ m m' h k
theorem keeps_ok (v0 v1 : Val) : ∀ g ∈ keeps, GrOk v0 v1 g := by
  intro g hg
  simp only [keeps, List.mem_cons, List.not_mem_nil, or_false] at hg
  rcases hg with rfl | rfl | rfl | rfl | rfl | rfl | rfl | rfl <;> trivial
theorem loop_ok (v0 v1 : Val) (k : Key) : GrOk v0 v1 (.loop k) := trivial
theorem cons_ok {v0 v1 : Val} {g : Gr} {l : List Gr} (h : GrOk v0 v1 g) (k : ∀ g ∈ l, GrOk v0 v1 g) : ∀ x ∈ g :: l, GrOk v0 v1 x := by
  intro x hx
  rcases List.mem_cons.1 hx with rfl | hx
  · exact h
  · exact k x hx
/-- a head holds intervals for the numbers of an order -/
def HasIv (h : Hp) : Prop := hget kK h = .iv mn mx ∧ hget kN h = .iv mn mx ∧ hget kX h = .iv mn mx
theorem in_c {C : Call0} {bs : List Nat} {l : List Od} {p i : Nat} {B : List Int} {R : List Od} {c : Cs} (hc : Cov c (l.getD i (0, 0, 0))) {F : Fk} {H : Cfg} {m : Machine} (h : HasIv H.hp) (k : @Sim (V bs l p i B R) F E1 Tryz.prog C H m) :
    @Sim (V bs l p i B R) F E1 Tryz.prog C (withIv (ivs c) H) m := by
  refine (@sim_ivs (V bs l p i B R) F E1 Tryz.prog C (ivs c) H m (fun x hx => ?_) (fun x hx => ?_) k).1
  · simp only [ivs, List.mem_cons, List.not_mem_nil, or_false] at hx
    rcases hx with rfl | rfl | rfl
    · exact ⟨_, _, h.1⟩
    · exact ⟨_, _, h.2.1⟩
    · exact ⟨_, _, h.2.2⟩
  · simp only [ivs, List.mem_cons, List.not_mem_nil, or_false] at hx
    rcases hx with rfl | rfl | rfl
    · exact hc.1
    · exact hc.2.1
    · exact hc.2.2.1
theorem in_f {C : Call0} {bs : List Nat} {l : List Od} {p i : Nat} {B : List Int} {R : List Od} {c : Fc} (hc : FC c (l.getD i (0, 0, 0))) {F : Fk} {H : Cfg} {m : Machine} (h : HasIv H.hp) (k : @Sim (V bs l p i B R) F E1 Tryz.prog C H m) :
    @Sim (V bs l p i B R) F E1 Tryz.prog C (withIv (ivf c) H) m := by
  refine (@sim_ivs (V bs l p i B R) F E1 Tryz.prog C (ivf c) H m (fun x hx => ?_) (fun x hx => ?_) k).1
  · simp only [ivf, List.mem_cons, List.not_mem_nil, or_false] at hx
    rcases hx with rfl | rfl
    · exact ⟨_, _, h.2.1⟩
    · exact ⟨_, _, h.2.2⟩
  · simp only [ivf, List.mem_cons, List.not_mem_nil, or_false] at hx
    rcases hx with rfl | rfl
    · exact hc.iN
    · exact hc.iX
theorem ivHA0 : HasIv HA0.hp := ⟨by kernel_rfl, by kernel_rfl, by kernel_rfl⟩
theorem ivHA : HasIv HA.hp := ⟨by kernel_rfl, by kernel_rfl, by kernel_rfl⟩
theorem ivHB0 : HasIv HB0.hp := ⟨by kernel_rfl, by kernel_rfl, by kernel_rfl⟩
theorem ivHB : HasIv HB.hp := ⟨by kernel_rfl, by kernel_rfl, by kernel_rfl⟩
theorem ivHE0 : HasIv HE0.hp := ⟨by kernel_rfl, by kernel_rfl, by kernel_rfl⟩
theorem ivHE : HasIv HE.hp := ⟨by kernel_rfl, by kernel_rfl, by kernel_rfl⟩
theorem ivHF0 : HasIv HF0.hp := ⟨by kernel_rfl, by kernel_rfl, by kernel_rfl⟩
theorem ivHF : HasIv HF.hp := ⟨by kernel_rfl, by kernel_rfl, by kernel_rfl⟩
theorem ivQ : hget kQ HM.hp = .iv 0 1000 := by kernel_rfl
section
variable {bs : List Nat} {l : List Od} {n m : Int}
theorem take_od {p : Nat} (hp : p < l.length) : l.take (p + 1) = l.take p ++ [l.getD p (0, 0, 0)] := by
  rw [List.getD_eq_getElem?_getD, List.take_add_one, List.getElem?_eq_getElem hp]; rfl
theorem take_bytes {p : Nat} (hp : p < l.length) : bytes (l.take (p + 1)) = bytes (l.take p) ++ bytesO (l.getD p (0, 0, 0)) := by
  rw [take_od hp]
  unfold bytes
  rw [List.flatMap_append, List.flatMap_cons, List.flatMap_nil, List.append_nil]
theorem take_len {p : Nat} (hp : p ≤ l.length) : (bytes (l.take p)).length = 3 * p := by rw [bytes_length, List.length_take, Nat.min_eq_left hp]
theorem take_len' {p : Nat} (hp : p ≤ l.length) : (l.take p).length = p := by rw [List.length_take, Nat.min_eq_left hp]
theorem bytes_in (ha : ∀ p, p < l.length → okO (l.getD p (0, 0, 0))) : ∀ b ∈ bytes l, 0 ≤ b ∧ b ≤ 255 := by
  intro b hb
  obtain ⟨o, ho, hb⟩ := List.mem_flatMap.1 hb
  obtain ⟨i, hi, rfl⟩ := List.mem_iff_getElem.1 ho
  have := ha i hi
  rw [List.getD_eq_getElem?_getD, List.getElem?_eq_getElem hi] at this
  exact bytesO_ok this b hb
/-- what is known at the heads -/
def GA (n m : Int) (l : List Od) (p : Nat) (F : Fk) : Prop := (p < l.length ∧ ((∃ c ∈ fine, okO (l.getD p (0, 0, 0)) ∧ FC c (l.getD p (0, 0, 0)) ∧ F = FtA n m c.o) ∨ (∃ c ∈ falls, ¬ okO (l.getD p (0, 0, 0)) ∧ Cov c (l.getD p (0, 0, 0)) ∧ F = FtA n m (row c)))) ∨ (p = l.length ∧ F = FxA n m)
def GB (n m : Int) (l : List Od) (i : Nat) (F : Fk) : Prop := (i < l.length ∧ ∃ c ∈ fine, FC c (l.getD i (0, 0, 0)) ∧ F = FtB n m c.r) ∨ (i = l.length ∧ F = FxB n m)
theorem gA_ex (hl : Okl n l bs) (hm : m = 3 * n) {p : Nat} (hp : p ≤ l.length) (hp1 : 1 ≤ p) : ∃ F, GA n m l p F ∧ @FkOk (V bs l p p (bytes (l.take p)) []) F := by
  have hW := take_len (l := l) hp
  have hl2 := hl.2
  by_cases hlt : p < l.length
  · by_cases hk : okO (l.getD p (0, 0, 0))
    · obtain ⟨c, hc, hf⟩ := fine_of hk
      exact ⟨_, .inl ⟨hlt, .inl ⟨c, hc, hk, hf, rfl⟩⟩, FtA_ok hl hlt (by omega) (by omega) (fun μ => hf.ov _ μ rfl rfl)⟩
    · obtain ⟨c, hc, hv⟩ := fall_of (in_at (i := p) hl) hk
      exact ⟨_, .inl ⟨hlt, .inr ⟨c, hc, hk, hv, rfl⟩⟩, FtA_ok hl hlt (by omega) (by omega) (row_vr hl hv)⟩
  · exact ⟨_, .inr ⟨by omega, rfl⟩, FxA_ok hl (by omega) (by omega) (by omega)⟩
theorem gB_ex (hl : Okl n l bs) (hm : m = 3 * n) (ha : ∀ p, p < l.length → okO (l.getD p (0, 0, 0))) {i : Nat} (hi : i ≤ l.length) (h1 : 1 ≤ i) : ∃ F, GB n m l i F ∧ @FkOk (V bs l (3 * i) i (bytes l) (l.take i)) F := by
  have hB := bytes_length l
  have hT := take_len' (l := l) hi
  have hl2 := hl.2
  by_cases hlt : i < l.length
  · obtain ⟨c, hc, hf⟩ := fine_of (ha i hlt)
    exact ⟨_, .inl ⟨hlt, c, hc, hf, rfl⟩, FtB_ok hl (by omega) (by omega) (by omega) (by omega) (by omega) (rowsB_ok hlt rfl rfl hf) (bytes_in ha)⟩
  · exact ⟨_, .inr ⟨by omega, rfl⟩, FxB_ok hl (by omega) (by omega) (by omega) (by omega) (bytes_in ha)⟩
end
section
variable {C : Call0} (hS : SumOk E1 Tryz.prog C) {bs : List Nat} {l : List Od}
/-- what is known in the loop that compares orders -/
def Fc2 (l : List Od) (p : Nat) : Fk := if p < l.length then FtA 334 1002 (row all) else FxA 334 1002
theorem fc2_ok (hl : Okl 334 l bs) {p : Nat} (hp : p ≤ l.length) : @FkOk (V bs l p p (bytes l) []) (Fc2 l p) := by
  have hB := bytes_length l
  have hl2 := hl.2
  by_cases h : p < l.length
  · rw [show Fc2 l p = FtA 334 1002 (row all) from if_pos h]; exact FtA_ok hl h (by omega) (by omega) (row_vr hl (all_cov (in_at hl)))
  · rw [show Fc2 l p = FxA 334 1002 from if_neg h]; exact FxA_ok hl (by omega) (by omega) (by omega) 
include hS in
theorem atC2 (hl : Okl 334 l bs) : ∀ (k p : Nat) (m : Machine), l.length - p ≤ k → p ≤ l.length → @Sim (V bs l p p (bytes l) []) (Fc2 l p) E1 Tryz.prog C HG m → Dn C m := by
  have hB := bytes_length l
  have hl2 := hl.2
  intro k
  induction k with
  | zero =>
    intro p m hn hp hs
    obtain rfl : p = l.length := by omega
    have hF : Fc2 l l.length = FxA 334 1002 := if_neg (by omega)
    rw [hF] at hs
    exact dn_of (turn_done env1 hS exitC2 hs)
  | succ k ih =>
    intro p m hn hp hs
    by_cases hlt : p < l.length
    · have hF : Fc2 l p = FtA 334 1002 (row all) := if_pos hlt
      rw [hF] at hs
      rcases turn_sim (sgTC_ok (m := 1002) hl hlt (by omega) (by omega)) (F1 := Fc2 l (p + 1)) (fc2_ok hl (by omega)) env1 hS (j := 1) (keeps_ok _ _) sHG cHG turnC2 hs with h | ⟨m', h3, h4⟩
      · exact dn_of h
      · exact dn_steps h3 (ih (p + 1) m' (by omega) (by omega) h4)
    · exact ih p m (by omega) hp hs
include hS in
theorem atB2 (hl : Okl 334 l bs) (ha : ∀ p, p < l.length → okO (l.getD p (0, 0, 0))) : ∀ (k i : Nat) (F : Fk) (m : Machine), l.length - i ≤ k → i ≤ l.length → 1 ≤ i → GB 334 1002 l i F → @Sim (V bs l (3 * i) i (bytes l) (l.take i)) F E1 Tryz.prog C HF m → Dn C m := by
  have hB := bytes_length l
  have hl2 := hl.2
  have hexit : ∀ {m : Machine}, @Sim (V bs l (3 * l.length) l.length (bytes l) (l.take l.length)) (FxB 334 1002) E1 Tryz.prog C HF m → Dn C m := by
    intro m hs
    rw [List.take_length] at hs
    rcases turn_sim (sgC0_ok (m := 1002) hl (by omega) (by omega)) (F1 := Fc2 l 0) (fc2_ok hl (by omega)) env1 hS (j := 1) (keeps_ok _ _) sHG cHG exitB2 hs with h | ⟨m', h3, h4⟩
    · exact dn_of h
    · exact dn_steps h3 (atC2 hS hl l.length 0 m' (by omega) (by omega) h4)
  intro k
  induction k with
  | zero =>
    intro i F m hn hi h1 hG hs
    rcases hG with ⟨hlt, _⟩ | ⟨rfl, rfl⟩
    · omega
    · exact hexit hs
  | succ k ih =>
    intro i F m hn hi h1 hG hs
    rcases hG with ⟨hlt, c, hc, hf, rfl⟩ | ⟨rfl, rfl⟩
    · obtain ⟨F1, hG1, hF1⟩ := gB_ex (bs := bs) hl (m := 1002) (by decide) ha (show i + 1 ≤ l.length by omega) (by omega)
      have hT := take_len' (l := l) hi
      rw [take_od hlt, show 3 * (i + 1) = 3 * i + 3 from rfl] at hF1
      rcases turn_sim (sgTB_ok (m := 1002) hl fR2 (l.getD i (0, 0, 0)) (by omega) (by omega) (by omega) (by omega)) hF1 env1 hS (j := 1) (cons_ok (growB fR2 hf) (cons_ok (loop_ok _ _ kl2) (keeps_ok _ _))) sHF cgB2 (map_one turnsB2 hc) (in_f hf ivHF hs) with h | ⟨m', h3, h4⟩
      · exact dn_of h
      · rw [← take_od hlt, show 3 * i + 3 = 3 * (i + 1) from rfl] at h4
        exact dn_steps h3 (ih (i + 1) F1 m' (by omega) (by omega) (by omega) hG1 h4)
    · exact hexit hs
include hS in
theorem atB02 (hl : Okl 334 l bs) (ha : ∀ p, p < l.length → okO (l.getD p (0, 0, 0))) {c : Fc} (hc : c ∈ fine) (hf : FC c (l.getD 0 (0, 0, 0))) {m : Machine} (hs : @Sim (V bs l 0 0 (bytes l) []) (FiB 334 1002 c.r) E1 Tryz.prog C HF0 m) : Dn C m := by
  have hB := bytes_length l
  have hl2 := hl.2
  have h0 : 0 < l.length := by omega
  obtain ⟨F1, hG1, hF1⟩ := gB_ex (bs := bs) hl (m := 1002) (by decide) ha (show 0 + 1 ≤ l.length by omega) (by omega)
  have e : l.take (0 + 1) = [l.getD 0 (0, 0, 0)] := by rw [take_od h0]; rfl
  rw [e] at hF1
  rcases turn_sim (sgFB_ok (m := 1002) hl fR2 (l.getD 0 (0, 0, 0)) (by omega) (by omega)) hF1 env1 hS (j := 1) (cons_ok (newB fR2 hf) (cons_ok (loop_ok _ _ kl2) (keeps_ok _ _))) sHF cnB2 (map_one firstsB2 hc) (in_f hf ivHF0 hs) with h | ⟨m', h3, h4⟩
  · exact dn_of h
  · refine dn_steps h3 (atB2 hS hl ha l.length (0 + 1) F1 m' (by omega) (by omega) (by omega) hG1 ?_)
    rw [e]; exact h4
include hS in
theorem atAx2 (hl : Okl 334 l bs) (ha : ∀ p, p < l.length → okO (l.getD p (0, 0, 0))) {m : Machine} (hs : @Sim (V bs l l.length l.length (bytes l) []) (FxA 334 1002) E1 Tryz.prog C HE m) : Dn C m := by
  have hB := bytes_length l
  have hl2 := hl.2
  have h0 : 0 < l.length := by omega
  obtain ⟨c, hc, hf⟩ := fine_of (ha 0 h0)
  rcases turn_sim (sgB0_ok (m := 1002) hl (by omega) (by omega)) (F1 := FiB 334 1002 c.r) (FiB_ok hl (by omega) (by omega) (rowsB_ok (q := 0) h0 rfl rfl hf) (bytes_in ha)) env1 hS (j := 1) (cons_ok (loop_ok _ _ kl2) (keeps_ok _ _)) sHF0 cHF0 exitA2 hs with h | ⟨m', h3, h4⟩
  · exact dn_of h
  · exact dn_steps h3 (atB02 hS hl ha hc hf h4)
include hS in
theorem atA2 (hl : Okl 334 l bs) (ha : ∀ p, p < l.length → okO (l.getD p (0, 0, 0))) : ∀ (k p : Nat) (F : Fk) (m : Machine), l.length - p ≤ k → p ≤ l.length → 1 ≤ p → (∀ q, q < p → okO (l.getD q (0, 0, 0))) → GA 334 1002 l p F → @Sim (V bs l p p (bytes (l.take p)) []) F E1 Tryz.prog C HE m → Dn C m := by
  have hl2 := hl.2
  intro k
  induction k with
  | zero =>
    intro p F m hn hp hp1 hq hG hs
    rcases hG with ⟨hlt, _⟩ | ⟨rfl, rfl⟩
    · omega
    · rw [List.take_length] at hs
      exact atAx2 hS hl hq hs
  | succ k ih =>
    intro p F m hn hp hp1 hq hG hs
    rcases hG with ⟨hlt, ⟨c, hc, ho, hf, rfl⟩ | ⟨c, hc, ho, hv, rfl⟩⟩ | ⟨rfl, rfl⟩
    · obtain ⟨F1, hG1, hF1⟩ := gA_ex (bs := bs) hl (m := 1002) (by decide) (show p + 1 ≤ l.length by omega) (by omega)
      have hW := take_len (l := l) hp
      rw [take_bytes hlt] at hF1
      rcases turn_sim (sgTA_ok (m := 1002) hl fB2 (l.getD p (0, 0, 0)) hlt (by omega)) hF1 env1 hS (j := 1) (cons_ok (growA fB2 hf) (keeps_ok _ _)) sHE cgA2 (map_one turnsA2 hc) (in_f hf ivHE hs) with h | ⟨m', h3, h4⟩
      · exact dn_of h
      · rw [← take_bytes hlt] at h4
        refine dn_steps h3 (ih (p + 1) F1 m' (by omega) (by omega) (by omega) (fun q hq1 => ?_) hG1 h4)
        by_cases e : q = p
        · rw [e]; exact ho
        · exact hq q (by omega)
    · exact absurd (ha p hlt) ho
    · rw [List.take_length] at hs
      exact atAx2 hS hl hq hs
include hS in
theorem atA02 (hl : Okl 334 l bs) (ha : ∀ p, p < l.length → okO (l.getD p (0, 0, 0))) {c : Fc} (hc : c ∈ fine) (ho : okO (l.getD 0 (0, 0, 0))) (hf : FC c (l.getD 0 (0, 0, 0))) {m : Machine} (hs : @Sim (V bs l 0 0 [] []) (FiA 334 c.o) E1 Tryz.prog C HE0 m) : Dn C m := by
  have hl2 := hl.2
  have h0 : 0 < l.length := by omega
  obtain ⟨F1, hG1, hF1⟩ := gA_ex (bs := bs) hl (m := 1002) (by decide) (show 0 + 1 ≤ l.length by omega) (by omega)
  have e : bytes (l.take (0 + 1)) = bytesO (l.getD 0 (0, 0, 0)) := by rw [take_bytes h0]; rfl
  rw [e] at hF1
  rcases turn_sim (sgFA_ok (m := 1002) hl fB2 (l.getD 0 (0, 0, 0)) (by decide)) hF1 env1 hS (j := 1) (cons_ok (newA fB2 hf) (keeps_ok _ _)) sHE cnA2 (map_one firstsA2 hc) (in_f hf ivHE0 hs) with h | ⟨m', h3, h4⟩
  · exact dn_of h
  · rw [← e] at h4
    refine dn_steps h3 (atA2 hS hl ha l.length (0 + 1) F1 m' (by omega) (by omega) (by omega) (fun q hq => ?_) hG1 h4)
    obtain rfl : q = 0 := by omega
    exact ho
/-- the bytes beside: their orders -/
theorem okO_mk {k n x : Int} (h : (k = 1 ∧ 0 ≤ n ∧ n ≤ 255 ∧ x = 0) ∨ (k = 2 ∧ 1 ≤ n ∧ n ≤ 6 ∧ 0 ≤ x ∧ x ≤ 255 ∧ (n = 3 ∨ n = 6 ∨ x = 0)) ∨ ((k = 3 ∨ k = 4) ∧ 0 ≤ n ∧ n ≤ 255 ∧ -1 ≤ x ∧ x ≤ 7) ∨ (k = 5 ∧ n = 0 ∧ x = 0)) : okO (k, n, x) := h
theorem In_mk {k n x : Int} (h : ((-9223372036854775808 : Int) ≤ k ∧ k ≤ 9223372036854775807) ∧ ((-9223372036854775808 : Int) ≤ n ∧ n ≤ 9223372036854775807) ∧ ((-9223372036854775808 : Int) ≤ x ∧ x ≤ 9223372036854775807)) : In (k, n, x) := h
theorem od_eq (x y z : Nat) (hx : x < 256) (hy : y < 256) (hz : z < 256) : okO (Rd.od x y z) ∧ In (Rd.od x y z) := by
  unfold Rd.od
  have h5 : x % 5 < 5 := Nat.mod_lt _ (by decide)
  have h6 : y % 6 < 6 := Nat.mod_lt _ (by decide)
  have h9 : z % 9 < 9 := Nat.mod_lt _ (by decide)
  rcases Rd.r5 h5 with h | h | h | h | h <;> rw [h]
  · show okO ((1 : Int), (y : Int), (0 : Int)) ∧ In ((1 : Int), (y : Int), (0 : Int))
    exact ⟨okO_mk (by omega), In_mk (by omega)⟩
  · show okO ((2 : Int), ((y % 6 + 1 : Nat) : Int), (if y % 6 = 2 then (z : Int) else if y % 6 = 5 then (z : Int) else 0)) ∧ In ((2 : Int), ((y % 6 + 1 : Nat) : Int), (if y % 6 = 2 then (z : Int) else if y % 6 = 5 then (z : Int) else 0))
    split
    · exact ⟨okO_mk (by omega), In_mk (by omega)⟩
    · split <;> exact ⟨okO_mk (by omega), In_mk (by omega)⟩
  · show okO ((3 : Int), (y : Int), ((z % 9 : Nat) : Int) - 1) ∧ In ((3 : Int), (y : Int), ((z % 9 : Nat) : Int) - 1)
    exact ⟨okO_mk (by omega), In_mk (by omega)⟩
  · show okO ((4 : Int), (y : Int), ((z % 9 : Nat) : Int) - 1) ∧ In ((4 : Int), (y : Int), ((z % 9 : Nat) : Int) - 1)
    exact ⟨okO_mk (by omega), In_mk (by omega)⟩
  · show okO ((5 : Int), (0 : Int), (0 : Int)) ∧ In ((5 : Int), (0 : Int), (0 : Int))
    exact ⟨okO_mk (by omega), In_mk (by omega)⟩
theorem ords_ok' : ∀ {b : List Nat}, (∀ x ∈ b, x < 256) → ∀ o ∈ Rd.ords b, okO o ∧ In o
  | [], _, o, ho => by cases ho
  | [x], h, o, ho => by obtain rfl := List.mem_singleton.1 ho; exact od_eq x 0 0 (h x (by simp)) (by decide) (by decide)
  | [x, y], h, o, ho => by obtain rfl := List.mem_singleton.1 ho; exact od_eq x y 0 (h x (by simp)) (h y (by simp)) (by decide)
  | x :: y :: z :: b, h, o, ho => by
    rcases List.mem_cons.1 ho with rfl | ho
    · exact od_eq x y z (h x (by simp)) (h y (by simp)) (h z (by simp))
    · exact ords_ok' (fun a ha => h a (by simp [ha])) o ho
theorem okl_ords (hb : Rd.Okb bs) : Okl 334 (Rd.ords bs) bs ∧ ∀ p, p < (Rd.ords bs).length → okO ((Rd.ords bs).getD p (0, 0, 0)) := by
  have hlen := Rd.ords_length bs
  obtain ⟨h1, h2, h3⟩ := hb
  have hne : bs ≠ [] := fun e => by rw [e] at h2; exact absurd h2 (by decide)
  have hst := Rd.ords_step hne
  refine ⟨⟨fun o ho => (ords_ok' h1 o ho).2, by rw [hst]; simp, by omega, by omega⟩, fun p hp => ?_⟩
  rw [List.getD_eq_getElem?_getD, List.getElem?_eq_getElem hp]
  exact (ords_ok' h1 _ (List.getElem_mem hp)).1
include hS in
theorem atD (hb : Rd.Okb bs) : ∀ (k p : Nat) (L : List Od) (m : Machine), bs.length - p ≤ k → p ≤ bs.length + 2 → 1 ≤ L.length → L ++ Rd.ords (bs.drop p) = Rd.ords bs →
    @Sim (Rd.V bs p L []) (Rd.Ft (Rd.csOf (bs.drop p))) E1 Tryz.prog C HD m → Dn C m := by
  have hlen := Rd.ords_length bs
  have hb2 := hb.2
  intro k
  induction k with
  | zero =>
    intro p L m hn hp h1 he hs
    have hd : bs.drop p = [] := List.drop_eq_nil_of_le (by omega)
    rw [hd] at hs he
    have hL : L = Rd.ords bs := by rw [← he]; simp [Rd.ords]
    subst hL
    obtain ⟨hl, ha⟩ := okl_ords hb
    obtain ⟨c, hc, hf⟩ := fine_of (ha 0 (by omega))
    rcases turn_sim (sgE0_ok (p := p) hl) (F1 := FiA 334 c.o) (FiA_ok hl (fun μ => hf.ov _ μ rfl rfl)) env1 hS (j := 1) (keeps_ok _ _) sHE0 cHE0 exitD hs with h | ⟨m', h3, h4⟩
    · exact dn_of h
    · exact dn_steps h3 (atA02 hS hl ha hc (ha 0 (by omega)) hf h4)
  | succ k ih =>
    intro p L m hn hp h1 he hs
    by_cases hd : bs.drop p = []
    · exact ih p L m (by have : bs.length ≤ p := List.drop_eq_nil_iff.1 hd; omega) hp h1 he hs
    · have hlt : p < bs.length := Nat.lt_of_not_le fun h => hd (List.drop_eq_nil_of_le h)
      have hdd : (bs.drop p).drop 3 = bs.drop (p + 3) := by rw [List.drop_drop]
      have he' : (L ++ [Rd.odOf (bs.drop p)]) ++ Rd.ords (bs.drop (p + 3)) = Rd.ords bs := by rw [← he, Rd.ords_step hd, hdd]; simp
      have hlen' : (L ++ [Rd.odOf (bs.drop p)]).length ≤ (Rd.ords bs).length := by rw [← he']; simp
      simp only [List.length_append, List.length_cons, List.length_nil] at hlen'
      rcases turn_sim (Rd.sgT1_ok hb fL (Rd.odOf (bs.drop p)) hlt (by omega)) (F1 := Rd.Ft (Rd.csOf (bs.drop (p + 3)))) (Rd.ft_ok hb (by omega) (by simp) (by simp; omega)) env1 hS (j := 1)
        (cons_ok (Rd.growL hb fL hd) (cons_ok (loop_ok _ _ klD) (keeps_ok _ _))) sHD cgD (map_one turnsD (Rd.csOf_in hd)) hs with h | ⟨m', h3, h4⟩
      · exact dn_of h
      · exact dn_steps h3 (ih (p + 3) _ m' (by omega) (by omega) (by simp) he' h4)
include hS in
theorem atD0 (hb : Rd.Okb bs) {m : Machine} (hs : @Sim (Rd.V bs 0 [] []) (Rd.Fi (Rd.csOf bs)) E1 Tryz.prog C HD0 m) : Dn C m := by
  have hb2 := hb.2
  have hne : bs ≠ [] := fun e => by rw [e] at hb2; exact absurd hb2.1 (by decide)
  have he : [Rd.odOf bs] ++ Rd.ords (bs.drop 3) = Rd.ords bs := by rw [Rd.ords_step hne]; rfl
  rcases turn_sim (Rd.sgF1_ok hb fL (Rd.odOf bs)) (F1 := Rd.Ft (Rd.csOf (bs.drop 3))) (Rd.ft_ok hb (by omega) (by simp) (by simp)) env1 hS (j := 1)
    (cons_ok (Rd.newL hb fL) (cons_ok (loop_ok _ _ klD) (keeps_ok _ _))) sHD cnD (map_one firstsD (Rd.csOf_in hne)) hs with h | ⟨m', h3, h4⟩
  · exact dn_of h
  · exact dn_steps h3 (atD hS hb bs.length 3 _ m' (by omega) (by omega) (by simp) he h4)
/-- what is known between the halves -/
def FM (bs : List Nat) : Fk := if bs = [] then FM0 else FD0
theorem uQ (h : ∀ b ∈ bs, b < 256) : ∀ x ∈ [kQ], @UOk (V bs [] 0 0 [] []) x := by
  intro x hx
  obtain rfl := List.mem_singleton.1 hx
  intro row hrow
  obtain ⟨b, hb', rfl⟩ := List.mem_map.1 hrow
  exact ⟨b, rfl, h b hb'⟩
theorem fM_ok (h0 : ∀ b ∈ bs, b < 256) (h1 : (bs.length : Int) ≤ 1000) : @FkOk (V bs [] 0 0 [] []) (FM bs) := by
  by_cases h : bs = []
  · rw [show FM bs = FM0 from if_pos h]
    refine @FkOk.mk (V bs [] 0 0 [] []) FM0 (fun x hx => ?_) (fun x hx => by cases hx) (uQ h0)
    obtain rfl := List.mem_singleton.1 hx
    subst h
    simp only [RlOk, nzQ, nzZ, List.length_nil]; omega
  · rw [show FM bs = FD0 from if_neg h]
    have : 1 ≤ bs.length := Nat.pos_of_ne_zero fun e => h (List.length_eq_zero_iff.1 e)
    refine @FkOk.mk (V bs [] 0 0 [] []) FD0 (fun x hx => ?_) (fun x hx => by cases hx) (uQ h0)
    obtain rfl := List.mem_singleton.1 hx
    simp only [RlOk, nzQ, nzZ]; omega
include hS in
theorem atM (h0 : ∀ b ∈ bs, b < 256) (h1 : (bs.length : Int) ≤ 1000) {m : Machine} (hs : @Sim (V bs [] 0 0 [] []) (FM bs) E1 Tryz.prog C HM m) : Dn C m := by
  have hiv : ∀ (x : Key × Int × Int), x.1 = kQ → x.2.1 ≤ (bs.length : Int) → (bs.length : Int) ≤ x.2.2 → @Sim (V bs [] 0 0 [] []) (FM bs) E1 Tryz.prog C (withIv [x] HM) m := by
    intro x e a b
    refine (@sim_ivs (V bs [] 0 0 [] []) (FM bs) E1 Tryz.prog C [x] HM m (fun y hy => ?_) (fun y hy => ?_) hs).1
    · obtain rfl := List.mem_singleton.1 hy
      rw [e]; exact ⟨_, _, ivQ⟩
    · obtain rfl := List.mem_singleton.1 hy
      rw [e]; exact ⟨a, b⟩
  by_cases h : bs = []
  · have hF : FM bs = FM0 := if_pos h
    have hs := hiv (kQ, 0, 0) rfl (by show (0 : Int) ≤ _; omega) (by rw [h]; decide)
    rw [hF] at hs
    exact dn_of (turn_done env1 hS noBytes hs)
  · have hF : FM bs = FD0 := if_neg h
    have hp : 1 ≤ bs.length := Nat.pos_of_ne_zero fun e => h (List.length_eq_zero_iff.1 e)
    have hb : Rd.Okb bs := ⟨h0, hp, by omega⟩
    have hs := hiv (kQ, 1, 1000) rfl (by show (1 : Int) ≤ _; omega) h1
    rw [hF] at hs
    rcases turn_sim (sgD0_ok hb) (F1 := Rd.Fi (Rd.csOf bs)) (Rd.fi_ok hb) env1 hS (j := 1) (cons_ok (loop_ok _ _ klD) (keeps_ok _ _)) sHD0 cHD0 toD0 hs with h | ⟨m', h3, h4⟩
    · exact dn_of h
    · exact dn_steps h3 (atD0 hS hb h4)
/-- what is known in the loop that compares orders -/
def Fc1 (l : List Od) (p : Nat) : Fk := if p < l.length then FtA 300 900 (row all) else FxC 300 900
theorem fc1_ok (hl : Okl 300 l bs) {p : Nat} (hp : p ≤ l.length) : @FkOk (V bs l p p (bytes l) []) (Fc1 l p) := by
  have hB := bytes_length l
  have hl2 := hl.2
  by_cases h : p < l.length
  · rw [show Fc1 l p = FtA 300 900 (row all) from if_pos h]; exact FtA_ok hl h (by omega) (by omega) (row_vr hl (all_cov (in_at hl)))
  · rw [show Fc1 l p = FxC 300 900 from if_neg h]; exact FxC_ok hl (by omega) (by omega) (by omega) (by omega)
include hS in
theorem atC1 (hbs : ∀ b ∈ bs, b < 256) (hl : Okl 300 l bs) : ∀ (k p : Nat) (m : Machine), l.length - p ≤ k → p ≤ l.length → @Sim (V bs l p p (bytes l) []) (Fc1 l p) E1 Tryz.prog C HC m → Dn C m := by
  have hB := bytes_length l
  have hl2 := hl.2
  intro k
  induction k with
  | zero =>
    intro p m hn hp hs
    obtain rfl : p = l.length := by omega
    have hF : Fc1 l l.length = FxC 300 900 := if_neg (by omega)
    rw [hF] at hs
    rcases turn_sim (sgM_ok hl.2.2.2) (fM_ok hbs hl.2.2.2) env1 hS (j := 1) (keeps_ok _ _) sHM cHM exitC1 hs with h | ⟨m', h3, h4⟩
    · exact dn_of h
    · exact dn_steps h3 (atM hS hbs hl.2.2.2 h4)
  | succ k ih =>
    intro p m hn hp hs
    by_cases hlt : p < l.length
    · have hF : Fc1 l p = FtA 300 900 (row all) := if_pos hlt
      rw [hF] at hs
      rcases turn_sim (sgTC_ok (m := 900) hl hlt (by omega) (by omega)) (F1 := Fc1 l (p + 1)) (fc1_ok hl (by omega)) env1 hS (j := 1) (keeps_ok _ _) sHC cHC turnC1 hs with h | ⟨m', h3, h4⟩
      · exact dn_of h
      · exact dn_steps h3 (ih (p + 1) m' (by omega) (by omega) h4)
    · exact ih p m (by omega) hp hs
include hS in
theorem atB1 (hbs : ∀ b ∈ bs, b < 256) (hl : Okl 300 l bs) (ha : ∀ p, p < l.length → okO (l.getD p (0, 0, 0))) : ∀ (k i : Nat) (F : Fk) (m : Machine), l.length - i ≤ k → i ≤ l.length → 1 ≤ i → GB 300 900 l i F → @Sim (V bs l (3 * i) i (bytes l) (l.take i)) F E1 Tryz.prog C HB m → Dn C m := by
  have hB := bytes_length l
  have hl2 := hl.2
  have hexit : ∀ {m : Machine}, @Sim (V bs l (3 * l.length) l.length (bytes l) (l.take l.length)) (FxB 300 900) E1 Tryz.prog C HB m → Dn C m := by
    intro m hs
    rw [List.take_length] at hs
    rcases turn_sim (sgC0_ok (m := 900) hl (by omega) (by omega)) (F1 := Fc1 l 0) (fc1_ok hl (by omega)) env1 hS (j := 1) (keeps_ok _ _) sHC cHC exitB1 hs with h | ⟨m', h3, h4⟩
    · exact dn_of h
    · exact dn_steps h3 (atC1 hS hbs hl l.length 0 m' (by omega) (by omega) h4)
  intro k
  induction k with
  | zero =>
    intro i F m hn hi h1 hG hs
    rcases hG with ⟨hlt, _⟩ | ⟨rfl, rfl⟩
    · omega
    · exact hexit hs
  | succ k ih =>
    intro i F m hn hi h1 hG hs
    rcases hG with ⟨hlt, c, hc, hf, rfl⟩ | ⟨rfl, rfl⟩
    · obtain ⟨F1, hG1, hF1⟩ := gB_ex (bs := bs) hl (m := 900) (by decide) ha (show i + 1 ≤ l.length by omega) (by omega)
      have hT := take_len' (l := l) hi
      rw [take_od hlt, show 3 * (i + 1) = 3 * i + 3 from rfl] at hF1
      rcases turn_sim (sgTB_ok (m := 900) hl fR1 (l.getD i (0, 0, 0)) (by omega) (by omega) (by omega) (by omega)) hF1 env1 hS (j := 1) (cons_ok (growB fR1 hf) (cons_ok (loop_ok _ _ kl1) (keeps_ok _ _))) sHB cgB1 (map_one turnsB1 hc) (in_f hf ivHB hs) with h | ⟨m', h3, h4⟩
      · exact dn_of h
      · rw [← take_od hlt, show 3 * i + 3 = 3 * (i + 1) from rfl] at h4
        exact dn_steps h3 (ih (i + 1) F1 m' (by omega) (by omega) (by omega) hG1 h4)
    · exact hexit hs
include hS in
theorem atB01 (hbs : ∀ b ∈ bs, b < 256) (hl : Okl 300 l bs) (ha : ∀ p, p < l.length → okO (l.getD p (0, 0, 0))) {c : Fc} (hc : c ∈ fine) (hf : FC c (l.getD 0 (0, 0, 0))) {m : Machine} (hs : @Sim (V bs l 0 0 (bytes l) []) (FiB 300 900 c.r) E1 Tryz.prog C HB0 m) : Dn C m := by
  have hB := bytes_length l
  have hl2 := hl.2
  have h0 : 0 < l.length := by omega
  obtain ⟨F1, hG1, hF1⟩ := gB_ex (bs := bs) hl (m := 900) (by decide) ha (show 0 + 1 ≤ l.length by omega) (by omega)
  have e : l.take (0 + 1) = [l.getD 0 (0, 0, 0)] := by rw [take_od h0]; rfl
  rw [e] at hF1
  rcases turn_sim (sgFB_ok (m := 900) hl fR1 (l.getD 0 (0, 0, 0)) (by omega) (by omega)) hF1 env1 hS (j := 1) (cons_ok (newB fR1 hf) (cons_ok (loop_ok _ _ kl1) (keeps_ok _ _))) sHB cnB1 (map_one firstsB1 hc) (in_f hf ivHB0 hs) with h | ⟨m', h3, h4⟩
  · exact dn_of h
  · refine dn_steps h3 (atB1 hS hbs hl ha l.length (0 + 1) F1 m' (by omega) (by omega) (by omega) hG1 ?_)
    rw [e]; exact h4
include hS in
theorem atAx1 (hbs : ∀ b ∈ bs, b < 256) (hl : Okl 300 l bs) (ha : ∀ p, p < l.length → okO (l.getD p (0, 0, 0))) {m : Machine} (hs : @Sim (V bs l l.length l.length (bytes l) []) (FxA 300 900) E1 Tryz.prog C HA m) : Dn C m := by
  have hB := bytes_length l
  have hl2 := hl.2
  have h0 : 0 < l.length := by omega
  obtain ⟨c, hc, hf⟩ := fine_of (ha 0 h0)
  rcases turn_sim (sgB0_ok (m := 900) hl (by omega) (by omega)) (F1 := FiB 300 900 c.r) (FiB_ok hl (by omega) (by omega) (rowsB_ok (q := 0) h0 rfl rfl hf) (bytes_in ha)) env1 hS (j := 1) (cons_ok (loop_ok _ _ kl1) (keeps_ok _ _)) sHB0 cHB0 exitA1 hs with h | ⟨m', h3, h4⟩
  · exact dn_of h
  · exact dn_steps h3 (atB01 hS hbs hl ha hc hf h4)
include hS in
theorem atA1 (hl : Okl 300 l bs) (hbs : ∀ b ∈ bs, b < 256) : ∀ (k p : Nat) (F : Fk) (m : Machine), l.length - p ≤ k → p ≤ l.length → 1 ≤ p → (∀ q, q < p → okO (l.getD q (0, 0, 0))) → GA 300 900 l p F → @Sim (V bs l p p (bytes (l.take p)) []) F E1 Tryz.prog C HA m → Dn C m := by
  have hl2 := hl.2
  intro k
  induction k with
  | zero =>
    intro p F m hn hp hp1 hq hG hs
    rcases hG with ⟨hlt, _⟩ | ⟨rfl, rfl⟩
    · omega
    · rw [List.take_length] at hs
      exact atAx1 hS hbs hl hq hs
  | succ k ih =>
    intro p F m hn hp hp1 hq hG hs
    rcases hG with ⟨hlt, ⟨c, hc, ho, hf, rfl⟩ | ⟨c, hc, ho, hv, rfl⟩⟩ | ⟨rfl, rfl⟩
    · obtain ⟨F1, hG1, hF1⟩ := gA_ex (bs := bs) hl (m := 900) (by decide) (show p + 1 ≤ l.length by omega) (by omega)
      have hW := take_len (l := l) hp
      rw [take_bytes hlt] at hF1
      rcases turn_sim (sgTA_ok (m := 900) hl fB1 (l.getD p (0, 0, 0)) hlt (by omega)) hF1 env1 hS (j := 1) (cons_ok (growA fB1 hf) (keeps_ok _ _)) sHA cgA1 (map_one turnsA1 hc) (in_f hf ivHA hs) with h | ⟨m', h3, h4⟩
      · exact dn_of h
      · rw [← take_bytes hlt] at h4
        refine dn_steps h3 (ih (p + 1) F1 m' (by omega) (by omega) (by omega) (fun q hq1 => ?_) hG1 h4)
        by_cases e : q = p
        · rw [e]; exact ho
        · exact hq q (by omega)
    · rcases turn_sim (sgM_ok hl.2.2.2) (fM_ok hbs hl.2.2.2) env1 hS (j := 1) (keeps_ok _ _) sHM cHM (map_one falltA hc) (in_c hv ivHA hs) with h | ⟨m', h3, h4⟩
      · exact dn_of h
      · exact dn_steps h3 (atM hS hbs hl.2.2.2 h4)
    · rw [List.take_length] at hs
      exact atAx1 hS hbs hl hq hs
include hS in
theorem atA01 (hl : Okl 300 l bs) (hbs : ∀ b ∈ bs, b < 256) {c : Fc} (hc : c ∈ fine) (ho : okO (l.getD 0 (0, 0, 0))) (hf : FC c (l.getD 0 (0, 0, 0))) {m : Machine} (hs : @Sim (V bs l 0 0 [] []) (FiA 300 c.o) E1 Tryz.prog C HA0 m) : Dn C m := by
  have hl2 := hl.2
  have h0 : 0 < l.length := by omega
  obtain ⟨F1, hG1, hF1⟩ := gA_ex (bs := bs) hl (m := 900) (by decide) (show 0 + 1 ≤ l.length by omega) (by omega)
  have e : bytes (l.take (0 + 1)) = bytesO (l.getD 0 (0, 0, 0)) := by rw [take_bytes h0]; rfl
  rw [e] at hF1
  rcases turn_sim (sgFA_ok (m := 900) hl fB1 (l.getD 0 (0, 0, 0)) (by decide)) hF1 env1 hS (j := 1) (cons_ok (newA fB1 hf) (keeps_ok _ _)) sHA cnA1 (map_one firstsA1 hc) (in_f hf ivHA0 hs) with h | ⟨m', h3, h4⟩
  · exact dn_of h
  · rw [← e] at h4
    refine dn_steps h3 (atA1 hS hl hbs l.length (0 + 1) F1 m' (by omega) (by omega) (by omega) (fun q hq => ?_) hG1 h4)
    obtain rfl : q = 0 := by omega
    exact ho
include hS in
theorem atS (h0 : ∀ b ∈ bs, b < 256) (hl : Okl 300 l bs) {rw_ : List AV} {m : Machine} (hG : (∃ c ∈ fine, okO (l.getD 0 (0, 0, 0)) ∧ FC c (l.getD 0 (0, 0, 0)) ∧ rw_ = c.o) ∨ (∃ c ∈ falls, Cov c (l.getD 0 (0, 0, 0)) ∧ rw_ = row c))
    (hs : @Sim (V bs l 0 0 [] []) (FiA 300 rw_) E1 Tryz.prog C HA0 m) : Dn C m := by
  rcases hG with ⟨c, hc, ho, hf, rfl⟩ | ⟨c, hc, hv, rfl⟩
  · exact atA01 hS hl h0 hc ho hf hs
  · rcases turn_sim (sgM_ok hl.2.2.2) (fM_ok h0 hl.2.2.2) env1 hS (j := 1) (keeps_ok _ _) sHM cHM (map_one fallA hc) (in_c hv ivHA0 hs) with h | ⟨m', h3, h4⟩
    · exact dn_of h
    · exact dn_steps h3 (atM hS h0 hl.2.2.2 h4)
end
end
end Back
end Go.Proofs.YtadnhmpkfelofaaGreatDoor
