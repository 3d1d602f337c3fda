/- THE EVALUATOR, part 2 of 9: EvTree EvRel EvOps EvMem EvPure EvBin EvPure2 EvPure3 EvPure4 EvPure5 EvEq -/
import Derived.Test.YtckhjkbfaibnpaaGreatDoorEv1
import Derived.Laws.Sem
import Derived.Laws.World
import Derived.Laws.Cells
import Derived.Laws.Entries
import Derived.Laws.Strings
import Derived.Laws.Slices
import Derived.Laws.StructEq
set_option linter.unusedVariables false
set_option linter.unusedSectionVars false
set_option linter.unusedSimpArgs false
namespace Go.Ev
set_option linter.unusedVariables false

/-! ## the heap's tree -/
theorem hget_hset (k : Key) (o : Ob) (h : Hp) : hget k (hset k o h) = o := by
  cases k with | mk a b c d e => simp only [hget, hset, N.mod_eq, N.sel_upd]
theorem hget_hset_ne {k k' : Key} (hne : k ≠ k') (o : Ob) (h : Hp) : hget k' (hset k o h) = hget k' h := by
  cases k with | mk a b c d e => cases k' with | mk a' b' c' d' e' =>
  simp only [hget, hset, N.mod_eq]
  by_cases ha : a = a'
  · subst ha; rw [N.sel_upd]
    by_cases hb : b = b'
    · subst hb; rw [N.sel_upd]
      by_cases hc : c = c'
      · subst hc; rw [N.sel_upd]
        by_cases hd : d = d'
        · subst hd; rw [N.sel_upd]
          by_cases he : e = e'
          · subst he; exact absurd rfl hne
          · rw [N.sel_upd_ne he]
        · rw [N.sel_upd_ne hd]
      · rw [N.sel_upd_ne hc]
    · rw [N.sel_upd_ne hb]
  · rw [N.sel_upd_ne ha]
theorem hget_hp0 (k : Key) : hget k hp0 = .none := by
  cases k with | mk a b c d e => simp only [hget, hp0, N.sel_all]

/-! ## tries -/
theorem cnd_eq {R : Type} (b : Bool) (t e : R) : cnd b t e = if b = true then t else e := by cases b <;> rfl

theorem Tr.get_e {α : Type} (k : Nat) : (Tr.e : Tr α).get k = none := rfl
theorem Tr.get_lf {α : Type} (v : α) (k : Nat) : (Tr.lf v).get k = if k = 0 then some v else none := by
  show cnd (Nat.beq k 0) (some v) none = _
  rw [cnd_eq]; simp only [Nat.beq_eq]
theorem Tr.get_n {α : Type} (l r : Tr α) (k : Nat) : (Tr.n l r).get k = if k % 2 = 0 then l.get (k / 2) else r.get (k / 2) := by
  show cnd (Nat.beq (Nat.mod k 2) 0) (l.get (Nat.div k 2)) (r.get (Nat.div k 2)) = _
  rw [cnd_eq]; simp only [Nat.beq_eq]; rfl

inductive Tr.Wf {α : Type} : Nat → Tr α → Prop where
  | e (d : Nat) : Wf d .e
  | lf (v : α) : Wf 0 (.lf v)
  | n {d : Nat} {l r : Tr α} (hl : Wf d l) (hr : Wf d r) : Wf (d + 1) (.n l r)

theorem Tr.set_zero {α : Type} (t : Tr α) (k : Nat) (v : α) : Tr.set 0 t k v = .lf v := rfl
theorem Tr.set_succ {α : Type} (d : Nat) (t : Tr α) (k : Nat) (v : α) : Tr.set (d + 1) t k v =
    if k % 2 = 0 then (match t with | .n l r => .n (Tr.set d l (k / 2) v) r | _ => .n (Tr.set d .e (k / 2) v) .e)
    else (match t with | .n l r => .n l (Tr.set d r (k / 2) v) | _ => .n .e (Tr.set d .e (k / 2) v)) := by
  show cnd (Nat.beq (Nat.mod k 2) 0) _ _ = _
  rw [cnd_eq]; simp only [Nat.beq_eq]
  cases t <;> rfl

theorem Tr.set_wf {α : Type} : ∀ (d : Nat) (t : Tr α) (k : Nat) (v : α), Wf d t → Wf d (t.set d k v)
  | 0, t, k, v, _ => .lf v
  | d + 1, t, k, v, h => by
    rw [Tr.set_succ]
    cases h with
    | e => split <;> exact .n (by first | exact Tr.set_wf d _ _ _ (.e d) | exact .e d) (by first | exact Tr.set_wf d _ _ _ (.e d) | exact .e d)
    | n hl hr => split
                 · exact .n (Tr.set_wf d _ _ _ hl) hr
                 · exact .n hl (Tr.set_wf d _ _ _ hr)

theorem Tr.get_set {α : Type} : ∀ (d : Nat) (t : Tr α) (k k' : Nat) (v : α), Wf d t → k < 2 ^ d →
    (t.set d k v).get k' = if k' = k then some v else t.get k'
  | 0, t, k, k', v, h, hk => by
    have hk0 : k = 0 := by simpa using hk
    subst hk0
    rw [Tr.set_zero, Tr.get_lf]
    by_cases h' : k' = 0
    · simp [h']
    · simp only [h', if_false]
      cases h with
      | e => rfl
      | lf w => rw [Tr.get_lf, if_neg h']
  | d + 1, t, k, k', v, h, hk => by
    have hk2 : k / 2 < 2 ^ d := by rw [Nat.pow_succ] at hk; omega
    rw [Tr.set_succ]
    by_cases he : k % 2 = 0
    · simp only [he, if_true]
      cases h with
      | e =>
        show (Tr.n _ _).get k' = _
        rw [Tr.get_n, Tr.get_e, Tr.get_set d .e _ _ v (.e d) hk2]
        by_cases he' : k' % 2 = 0
        · simp only [he', if_true, Tr.get_e]
          by_cases hh : k' / 2 = k / 2
          · have : k' = k := by omega
            simp [this]
          · have : k' ≠ k := by omega
            simp [hh, this]
        · have : k' ≠ k := by omega
          simp [he', this, Tr.get_e]
      | n hl hr =>
        show (Tr.n _ _).get k' = _
        rw [Tr.get_n, Tr.get_n, Tr.get_set d _ _ _ v hl hk2]
        by_cases he' : k' % 2 = 0
        · simp only [he', if_true]
          by_cases hh : k' / 2 = k / 2
          · have : k' = k := by omega
            simp [this]
          · have : k' ≠ k := by omega
            simp [hh, this]
        · have : k' ≠ k := by omega
          simp [he', this]
    · simp only [he, if_false]
      cases h with
      | e =>
        show (Tr.n _ _).get k' = _
        rw [Tr.get_n, Tr.get_e, Tr.get_set d .e _ _ v (.e d) hk2]
        by_cases he' : k' % 2 = 0
        · have : k' ≠ k := by omega
          simp [he', this, Tr.get_e]
        · simp only [he', if_false, Tr.get_e]
          by_cases hh : k' / 2 = k / 2
          · have : k' = k := by omega
            simp [this]
          · have : k' ≠ k := by omega
            simp [hh, this]
      | n hl hr =>
        show (Tr.n _ _).get k' = _
        rw [Tr.get_n, Tr.get_n, Tr.get_set d _ _ _ v hr hk2]
        by_cases he' : k' % 2 = 0
        · have : k' ≠ k := by omega
          simp [he', this]
        · simp only [he', if_false]
          by_cases hh : k' / 2 = k / 2
          · have : k' = k := by omega
            simp [this]
          · have : k' ≠ k := by omega
            simp [hh, this]

theorem Tr.lt_of_get {α : Type} : ∀ (d : Nat) (t : Tr α) (k : Nat) (v : α), Wf d t → t.get k = some v → k < 2 ^ d
  | _, .e, k, v, _, hg => by simp [Tr.get_e] at hg
  | _, .lf w, k, v, h, hg => by
    cases h
    rw [Tr.get_lf] at hg
    by_cases h0 : k = 0
    · subst h0; simp
    · simp [h0] at hg
  | _, .n l r, k, v, h, hg => by
    cases h with | @n d _ _ hl hr =>
    rw [Tr.get_n] at hg
    have : k / 2 < 2 ^ d := by
      split at hg
      · exact Tr.lt_of_get d l _ v hl hg
      · exact Tr.lt_of_get d r _ v hr hg
    rw [Nat.pow_succ]; omega

theorem Tr.grow_wf {α : Type} : ∀ (d : Nat) (t : Tr α), Wf d t → Wf (d + 1) t.grow
  | _, .e, _ => .e _
  | _, .lf w, h => by cases h; exact .n (.lf w) (.e 0)
  | _, .n l r, h => by cases h with | @n d _ _ hl hr => exact .n (Tr.grow_wf d l hl) (Tr.grow_wf d r hr)
theorem Tr.get_grow {α : Type} : ∀ (d : Nat) (t : Tr α), Wf d t → ∀ k, t.grow.get k = t.get k
  | _, .e, _, k => rfl
  | _, .lf w, h, k => by
    show (Tr.n (.lf w) .e).get k = _
    rw [Tr.get_n, Tr.get_lf, Tr.get_lf, Tr.get_e]
    by_cases h0 : k = 0
    · simp [h0]
    · by_cases h2 : k % 2 = 0
      · have : k / 2 ≠ 0 := by omega
        simp [h2, this, h0]
      · simp [h2, h0]
  | _, .n l r, h, k => by
    cases h with | @n d _ _ hl hr =>
    show (Tr.n l.grow r.grow).get k = _
    rw [Tr.get_n, Tr.get_n, Tr.get_grow d l hl, Tr.get_grow d r hr]

theorem evens_get {α : Type} : ∀ (l : List α) (k : Nat), (evens l)[k]? = l[2 * k]?
  | [], k => by simp [evens]
  | [a], 0 => by simp [evens]
  | [a], k + 1 => by simp [evens]
  | a :: b :: r, 0 => by simp [evens]
  | a :: b :: r, k + 1 => by
    simp only [evens, List.getElem?_cons_succ]
    rw [evens_get r k, show 2 * (k + 1) = 2 * k + 1 + 1 from by omega]
    rfl
theorem odds_get {α : Type} : ∀ (l : List α) (k : Nat), (odds l)[k]? = l[2 * k + 1]?
  | [], k => by simp [odds]
  | [a], k => by simp [odds]
  | a :: b :: r, 0 => by simp [odds]
  | a :: b :: r, k + 1 => by
    simp only [odds, List.getElem?_cons_succ]
    rw [odds_get r k, show 2 * (k + 1) = 2 * k + 1 + 1 from by omega]
    rfl
theorem evens_length {α : Type} : ∀ (l : List α), (evens l).length = (l.length + 1) / 2
  | [] => by simp [evens]
  | [a] => by simp [evens]
  | a :: b :: r => by simp only [evens, List.length_cons, evens_length r]; omega
theorem odds_length {α : Type} : ∀ (l : List α), (odds l).length = l.length / 2
  | [] => by simp [odds]
  | [a] => by simp [odds]
  | a :: b :: r => by simp only [odds, List.length_cons, odds_length r]; omega

theorem Tr.ofList_wf {α : Type} : ∀ (d : Nat) (l : List α), Wf d (Tr.ofList d l)
  | 0, [] => .e 0
  | d + 1, [] => .e _
  | 0, a :: l => .lf a
  | d + 1, a :: l => .n (Tr.ofList_wf d _) (Tr.ofList_wf d _)
theorem Tr.get_ofList {α : Type} : ∀ (d : Nat) (l : List α), l.length ≤ 2 ^ d → ∀ k, (Tr.ofList d l).get k = l[k]?
  | 0, [], _, k => rfl
  | d + 1, [], _, k => rfl
  | 0, a :: l, h, k => by
    have : l = [] := by
      cases l with
      | nil => rfl
      | cons b r => simp at h
    subst this
    show (Tr.lf a).get k = _
    rw [Tr.get_lf]
    cases k <;> simp
  | d + 1, a :: l, h, k => by
    have hl : (a :: l).length ≤ 2 * 2 ^ d := by rw [Nat.pow_succ] at h; omega
    show (Tr.n _ _).get k = _
    rw [Tr.get_n, Tr.get_ofList d (evens (a :: l)) (by rw [evens_length]; omega), Tr.get_ofList d (odds (a :: l)) (by rw [odds_length]; omega),
      evens_get, odds_get]
    by_cases h2 : k % 2 = 0
    · simp only [h2, if_true]
      rw [show 2 * (k / 2) = k from by omega]
    · simp only [h2, if_false]
      rw [show 2 * (k / 2) + 1 = k from by omega]

theorem Tr.ofList_some {α : Type} : ∀ (d : Nat) (l : List α) (k : Nat) (v : α), (Tr.ofList d l).get k = some v → l[k]? = some v
  | 0, [], k, v, h => by cases h
  | d + 1, [], k, v, h => by cases h
  | 0, a :: l, k, v, h => by
    replace h : (Tr.lf a).get k = some v := h
    rw [Tr.get_lf] at h
    split at h
    · rename_i h0; subst h0; simpa using h
    · cases h
  | d + 1, a :: l, k, v, h => by
    replace h : (Tr.n (Tr.ofList d (evens (a :: l))) (Tr.ofList d (odds (a :: l)))).get k = some v := h
    rw [Tr.get_n] at h
    split at h
    · have := Tr.ofList_some d _ _ _ h
      rw [evens_get] at this
      rw [← this]; congr 1; omega
    · have := Tr.ofList_some d _ _ _ h
      rw [odds_get] at this
      rw [← this]; congr 1; omega

end Go.Ev


namespace Go.Ev
set_option linter.unusedVariables false

/-- where a family's generation lies: the block, which place of the family is its first, how many cells it has -/
abbrev Mu := Key → Nat → Option (Nat × Nat × Nat)
def Mu.le (μ ν : Mu) : Prop := ∀ f g x, μ f g = some x → ν f g = some x
theorem Mu.le_refl (μ : Mu) : μ.le μ := fun _ _ _ h => h
theorem Mu.le_trans {μ ν ξ : Mu} (h : μ.le ν) (k : ν.le ξ) : μ.le ξ := fun f g x hx => k f g x (h f g x hx)

def isScalar : Value → Prop
  | .agg _ => False
  | .tuple _ => False
  | _ => True

def FnR (μ : Mu) : AFn → Fn → Prop
  | .fn f, F => F = f
  | .yield l, F => ∃ b s n, μ l 0 = some (b, s, n) ∧ F = .yield b

mutual
/-- what a value of the evaluator says of a value -/
def VR (μ : Mu) : AV → Value → Prop
  | .top, _ => True
  | .any, v => isScalar v
  | .ub, v => ∃ b, v = .bool b
  | .bool b, v => v = .bool b
  | .int k n, v => v = .int k n
  | .rng k lo hi, v => ∃ n, v = .int k n ∧ lo ≤ n ∧ n ≤ hi
  | .md m r, v => ∃ n : Nat, v = .int .i64 (n : Int) ∧ n % m = r
  | .sl lo hi, v => ∃ a l c, v = .slice a l c ∧ lo ≤ l ∧ l ≤ hi
  | .str s, v => ∃ b : ByteArray, v = .string b ∧ b.data.toList.map UInt8.toNat = s
  | .ptr0, v => v = .pointer none
  | .ptr f g o, v => ∃ b s n, μ f g = some (b, s, n) ∧ s ≤ o ∧ v = .pointer (some ⟨b, o - s, none⟩)
  | .slice0, v => v = .slice none 0 0
  | .slice f g o len cap sz ex, v => ∃ b s n x c, μ f g = some (b, s, n) ∧ v = .slice (some ⟨b, x, none⟩) len c ∧ len ≤ cap ∧ cap ≤ c ∧ (ex = true → c = cap) ∧
      ((s ≤ o ∧ x = o - s ∧ x + c * sz ≤ n) ∨ (len = 0 ∧ c = 0))
  | .map0, v => v = .map none
  | .map m, v => ∃ b s n, μ m 0 = some (b, s, n) ∧ v = .map (some b)
  | .func fn f c, v => ∃ F fs cs, v = .func F fs cs ∧ FnR μ fn F ∧ VRs μ f fs.toList ∧ VRs μ c cs.toList
  | .nilFunc, v => v = .nilFunc
  | .iface t a, v => ∃ x, v = .iface t x ∧ VR μ a x
  | .nilIface, v => v = .nilIface
  | .agg l, v => ∃ cs, v = .agg cs ∧ VRs μ l cs.toList
  | .tuple l, v => ∃ cs, v = .tuple cs ∧ VRs μ l cs.toList
def VRs (μ : Mu) : List AV → List Value → Prop
  | [], vs => vs = []
  | a :: l, vs => ∃ v r, vs = v :: r ∧ VR μ a v ∧ VRs μ l r
end

theorem FnR.mono {μ ν : Mu} (h : μ.le ν) : ∀ {f : AFn} {F : Fn}, FnR μ f F → FnR ν f F
  | .fn f, F, hf => hf
  | .yield l, F, ⟨b, s, n, hm, hF⟩ => ⟨b, s, n, h _ _ _ hm, hF⟩

mutual
theorem VR.mono {μ ν : Mu} (h : μ.le ν) : ∀ (a : AV) (v : Value), VR μ a v → VR ν a v
  | .top, _, _ => by simp only [VR]
  | .any, v, hv => by simpa only [VR] using hv
  | .ub, v, hv => by simpa only [VR] using hv
  | .bool b, v, hv => by simpa only [VR] using hv
  | .int k n, v, hv => by simpa only [VR] using hv
  | .rng k lo hi, v, hv => by simpa only [VR] using hv
  | .md m r, v, hv => by simpa only [VR] using hv
  | .sl lo hi, v, hv => by simpa only [VR] using hv
  | .str s, v, hv => by simpa only [VR] using hv
  | .ptr0, v, hv => by simpa only [VR] using hv
  | .ptr f g o, v, hv => by
    simp only [VR] at hv ⊢
    obtain ⟨b, s, n, hm, r⟩ := hv
    exact ⟨b, s, n, h _ _ _ hm, r⟩
  | .slice0, v, hv => by simpa only [VR] using hv
  | .slice f g o len cap sz ex, v, hv => by
    simp only [VR] at hv ⊢
    obtain ⟨b, s, n, x, c, hm, r⟩ := hv
    exact ⟨b, s, n, x, c, h _ _ _ hm, r⟩
  | .map0, v, hv => by simpa only [VR] using hv
  | .map m, v, hv => by
    simp only [VR] at hv ⊢
    obtain ⟨b, s, n, hm, r⟩ := hv
    exact ⟨b, s, n, h _ _ _ hm, r⟩
  | .func fn f c, v, hv => by
    simp only [VR] at hv ⊢
    obtain ⟨F, fs, cs, hv, hF, h1, h2⟩ := hv
    exact ⟨F, fs, cs, hv, hF.mono h, VRs.mono h f _ h1, VRs.mono h c _ h2⟩
  | .nilFunc, v, hv => by simpa only [VR] using hv
  | .iface t a, v, hv => by
    simp only [VR] at hv ⊢
    obtain ⟨x, hv, hx⟩ := hv
    exact ⟨x, hv, VR.mono h a x hx⟩
  | .nilIface, v, hv => by simpa only [VR] using hv
  | .agg l, v, hv => by
    simp only [VR] at hv ⊢
    obtain ⟨cs, hv, hx⟩ := hv
    exact ⟨cs, hv, VRs.mono h l _ hx⟩
  | .tuple l, v, hv => by
    simp only [VR] at hv ⊢
    obtain ⟨cs, hv, hx⟩ := hv
    exact ⟨cs, hv, VRs.mono h l _ hx⟩
theorem VRs.mono {μ ν : Mu} (h : μ.le ν) : ∀ (l : List AV) (vs : List Value), VRs μ l vs → VRs ν l vs
  | [], vs, hv => by simpa only [VRs] using hv
  | a :: l, vs, hv => by
    simp only [VRs] at hv ⊢
    obtain ⟨v, r, e, h1, h2⟩ := hv
    exact ⟨v, r, e, VR.mono h a v h1, VRs.mono h l r h2⟩
end

theorem VRs.nil {μ : Mu} : VRs μ [] [] := by simp only [VRs]
theorem VRs.cons {μ : Mu} {a : AV} {l : List AV} {v : Value} {r : List Value} (h : VR μ a v) (k : VRs μ l r) : VRs μ (a :: l) (v :: r) := by
  simp only [VRs]; exact ⟨v, r, rfl, h, k⟩
theorem VRs.cons_inv {μ : Mu} {a : AV} {l : List AV} {vs : List Value} (h : VRs μ (a :: l) vs) : ∃ v r, vs = v :: r ∧ VR μ a v ∧ VRs μ l r := by
  simpa only [VRs] using h
theorem VRs.nil_inv {μ : Mu} {vs : List Value} (h : VRs μ [] vs) : vs = [] := by simpa only [VRs] using h
theorem VRs.length {μ : Mu} : ∀ {l : List AV} {vs : List Value}, VRs μ l vs → l.length = vs.length
  | [], _, h => by rw [h.nil_inv]; simp
  | a :: l, _, h => by obtain ⟨v, r, rfl, _, h2⟩ := h.cons_inv; simp [VRs.length h2]
theorem VRs.append {μ : Mu} : ∀ {l m : List AV} {vs ws : List Value}, VRs μ l vs → VRs μ m ws → VRs μ (l ++ m) (vs ++ ws)
  | [], _, _, _, h, k => by rw [h.nil_inv]; exact k
  | a :: l, _, _, _, h, k => by obtain ⟨v, r, rfl, h1, h2⟩ := h.cons_inv; exact .cons h1 (VRs.append h2 k)
theorem VRs.get {μ : Mu} : ∀ {l : List AV} {vs : List Value}, VRs μ l vs → ∀ {i : Nat} {a : AV}, l[i]? = some a → ∃ v, vs[i]? = some v ∧ VR μ a v
  | [], _, h, i, a, hi => by simp at hi
  | b :: l, _, h, 0, a, hi => by
    obtain ⟨v, r, rfl, h1, h2⟩ := h.cons_inv
    simp at hi; subst hi; exact ⟨v, rfl, h1⟩
  | b :: l, _, h, i + 1, a, hi => by
    obtain ⟨v, r, rfl, h1, h2⟩ := h.cons_inv
    simp at hi; exact h2.get (by simpa using hi)
theorem VRs.take {μ : Mu} : ∀ {l : List AV} {vs : List Value}, VRs μ l vs → ∀ n, VRs μ (l.take n) (vs.take n)
  | _, _, _, 0 => by simp only [List.take_zero]; exact .nil
  | [], _, h, n + 1 => by rw [h.nil_inv]; simp only [List.take_nil]; exact .nil
  | a :: l, _, h, n + 1 => by
    obtain ⟨v, r, rfl, h1, h2⟩ := h.cons_inv
    simp only [List.take_succ_cons]; exact .cons h1 (h2.take n)
theorem VRs.drop {μ : Mu} : ∀ {l : List AV} {vs : List Value}, VRs μ l vs → ∀ n, VRs μ (l.drop n) (vs.drop n)
  | _, _, h, 0 => by simpa only [List.drop_zero] using h
  | [], _, h, n + 1 => by rw [h.nil_inv]; simp only [List.drop_nil]; exact .nil
  | a :: l, _, h, n + 1 => by
    obtain ⟨v, r, rfl, h1, h2⟩ := h.cons_inv
    simp only [List.drop_succ_cons]; exact h2.drop n
theorem VRs.of_get {μ : Mu} : ∀ {l : List AV} {vs : List Value}, l.length = vs.length → (∀ (i : Nat) (a : AV), l[i]? = some a → ∃ v, vs[i]? = some v ∧ VR μ a v) → VRs μ l vs
  | [], [], _, _ => .nil
  | a :: l, v :: vs, hl, h => .cons (by obtain ⟨w, hw, hr⟩ := h 0 a rfl; simp at hw; exact hw ▸ hr)
      (.of_get (by simpa using hl) fun i b hb => by have := h (i + 1) b (by simpa using hb); simpa using this)

/-! ## memory -/
/-- the cells of a block say what a family's row says -/
def RowR (μ : Mu) (cs : Array Value) (s sz r : Nat) (l : List AV) : Prop :=
  s ≤ r * sz ∧ l.length = sz ∧ ∀ j a, l[j]? = some a → ∃ v, cs[r * sz + j - s]? = some v ∧ VR μ a v

def EnR (μ : Mu) (e : En) (x : MapEntry) : Prop := VR μ e.k x.key ∧ VR μ e.v x.val ∧ e.b = x.born
def kv (e : En) : AV × AV := (e.k, e.v)
def EnsR (μ : Mu) : List En → List MapEntry → Prop
  | [], l => l = []
  | e :: es, l => ∃ x r, l = x :: r ∧ EnR μ e x ∧ EnsR μ es r

/-- slots of a frame -/
def slotN (a b c : D) : Nat := a.toNat * 64 + b.toNat * 8 + c.toNat
noncomputable def getT (t : Nat) (tm : Tm) : AV := slot t fun a b c => tget a b c tm
noncomputable def setT (t : Nat) (v : AV) (tm : Tm) : Tm := slot t fun a b c => tset a b c v tm
/-- slots that are kept, but for some, say what the frame's slots are -/
def NeedR (nd : Nat) (X : Nat → Prop) (μ : Mu) (tm : Tm) (tmps : Array Value) : Prop := ∀ t, inNd nd t = true → ¬ X t → VR μ (getT t tm) (tmps.getD t undef)
def NoX : Nat → Prop := fun _ => False
theorem NeedR.mono {nd : Nat} {X : Nat → Prop} {μ ν : Mu} (h : μ.le ν) {tm : Tm} {tmps : Array Value} (k : NeedR nd X μ tm tmps) : NeedR nd X ν tm tmps := fun t h1 h2 => VR.mono h _ _ (k t h1 h2)
def TmR (μ : Mu) (t : Tm) (tmps : Array Value) : Prop :=
  ∀ a b c, VR μ (tget a b c t) (tmps.getD (slotN a b c) undef)

def DfR (μ : Mu) : Df → Deferred → Prop
  | .fn f cap args, d => ∃ F cs vs, d = { target := .fn F cs, args := vs } ∧ FnR μ f F ∧ VRs μ cap cs.toList ∧ VRs μ args vs.toList
  | .bi b args, d => False
  | .del t m k, d => ∃ ats ty cn xs v w, d = { target := .builtin .delete ats ty cn, args := xs } ∧ xs[0]? = some v ∧ xs[1]? = some w ∧ ats[0]? = some t ∧ VR μ m v ∧ VR μ k w
  | .collected r, d => ∃ b s n, μ r 0 = some (b, s, n) ∧ d = { target := .collected b, args := #[] }
def DfsR (μ : Mu) : List Df → List Deferred → Prop
  | [], l => l = []
  | d :: ds, l => ∃ x r, l = x :: r ∧ DfR μ d x ∧ DfsR μ ds r

/-- what is frozen of a block of a family's generation: nothing, or, of a string's bytes, the place behind them -/
def FzOk (g : Nat) (cs : Array Value) (fz : Nat × Nat) : Prop := fz = (0, 0) ∨ (strGen ≤ g ∧ fz = (cs.size, cs.size + 1))

def OR (B : Nat) (μ : Mu) (w : World) (f : Key) : Ob → Prop
  | .none => ∀ g, μ f g = none
  | .cells ro gen sz dp ext c => (Tr.Wf dp c ∧ ∀ r, ext ≤ r → c.get r = none) ∧ ((∀ g, gen < g → μ f g = none) ∧ ∀ r l gw, c.get r = some (.mk l gw) → gw ≤ gen) ∧
      ∀ g b s n, μ f g = some (b, s, n) → (ro = false → B ≤ b) ∧ s % sz = 0 ∧ ∃ cs e fz, w.heap[b]? = some (.cells cs e fz) ∧ FzOk g cs fz ∧ cs.size = n ∧
        ∀ r l gw, c.get r = some (.mk l gw) → gw ≤ g → s ≤ r * sz → RowR μ cs s sz r l
  | .map es clock => (∀ g, 0 < g → μ f g = none) ∧ ∀ b s n, μ f 0 = some (b, s, n) → B ≤ b ∧ ∃ es', w.heap[b]? = some (.map es' clock) ∧ EnsR μ es es'.toList
  | .strIter s pos => (∀ g, 0 < g → μ f g = none) ∧ ∀ b s' n, μ f 0 = some (b, s', n) → B ≤ b ∧ s' = 0 ∧ ∃ x : ByteArray, w.heap[b]? = some (.stringIter x pos) ∧ x.data.toList.map UInt8.toNat = s
  | .mapIter m since seen stepped => (∀ g, 0 < g → μ f g = none) ∧ ∀ b s' n, μ f 0 = some (b, s', n) → B ≤ b ∧ s' = 0 ∧
      ∃ m', w.heap[b]? = some (.mapIter m' since seen.toArray stepped) ∧ (match m with
        | none => m' = none
        | some k => ∃ c s n, μ k 0 = some (c, s, n) ∧ m' = some c)
  | .loop st pend fn tm ps a b df x => (∀ g, 0 < g → μ f g = none) ∧ ∀ c s n, μ f 0 = some (c, s, n) → B ≤ c ∧
      ∃ tmps dfb s' n', w.heap[c]? = some (.loop { state := st, pending := pend, fn := fn, tmps := tmps, params := ps.toArray, assign := a, body := b, defers := dfb }) ∧ (NeedR x.nd NoX μ tm tmps ∧ x.n ≤ tmps.size ∧ ∀ t ∈ ps, t < x.n ∧ t < 512) ∧ μ df 0 = some (dfb, s', n')
  | .deferred ds => (∀ g, 0 < g → μ f g = none) ∧ ∀ b s n, μ f 0 = some (b, s, n) → B ≤ b ∧ ∃ ds', w.heap[b]? = some (.deferred ds') ∧ (match ds with
        | none => ds' = none
        | some l => ∃ l', ds' = some l' ∧ DfsR μ l l')
  | .mapu es => (∀ g, 0 < g → μ f g = none) ∧ ∀ b s n, μ f 0 = some (b, s, n) → B ≤ b ∧ ∃ es' clock es0, w.heap[b]? = some (.map es' clock) ∧ EnsR μ es0 es'.toList ∧ (es.map kv).Perm (es0.map kv)

/-- heap and world: B is the size of the heap when the call began -/
structure HR (B : Nat) (μ : Mu) (h : Hp) (w : World) : Prop where
  inj : ∀ f g b s n f' g' s' n', μ f g = some (b, s, n) → μ f' g' = some (b, s', n') → f = f' ∧ s = s' ∧ n = n'
  lt : ∀ f g b s n, μ f g = some (b, s, n) → b < w.heap.size
  obj : ∀ f, OR B μ w f (hget f h)

/-- what of the world at the call's beginning is still there -/
structure Kept (W w : World) : Prop where
  os : w.os = W.os
  tape : w.tape = W.tape
  output : w.output = W.output
  size : W.heap.size ≤ w.heap.size
  block : ∀ k, k < W.heap.size → w.heap[k]? = W.heap[k]?

end Go.Ev


namespace Go.Ev
set_option linter.unusedVariables false

structure EnvOk (E : Env) (P : Program) : Prop where
  prog : E.P = P
  ts : ∀ t i, E.ts.get t = some i → P.info? t = some i
  fs : ∀ f fn, E.fs.get f = some fn → P.funcs[f]? = some fn
  names : ∀ f fn, E.fs.get f = some fn → fn.body.isSome = true → (fn.name == "runtime.NumGoroutine") = false
  mixed : P.follows .mixedOrders = true

/-! ## taking eliminators apart -/
theorem asBool_some {R : Type} {a : AV} {k : Bool → Option R} {r : R} (h : asBool a none k = some r) : ∃ b, a = .bool b ∧ k b = some r := by
  cases a <;> first | exact ⟨_, rfl, h⟩ | cases h
theorem asInt_some {R : Type} {a : AV} {k : IntKind → Int → Option R} {r : R} (h : asInt a none k = some r) : ∃ kk n, a = .int kk n ∧ k kk n = some r := by
  cases a <;> first | exact ⟨_, _, rfl, h⟩ | cases h
theorem asStr_some {R : Type} {a : AV} {k : List Nat → Option R} {r : R} (h : asStr a none k = some r) : ∃ s, a = .str s ∧ k s = some r := by
  cases a <;> first | exact ⟨_, rfl, h⟩ | cases h
theorem asPtr_some {R : Type} {a : AV} {k : Key → Nat → Nat → Option R} {r : R} (h : asPtr a none k = some r) : ∃ f g o, a = .ptr f g o ∧ k f g o = some r := by
  cases a <;> first | exact ⟨_, _, _, rfl, h⟩ | cases h
theorem asSlice_some {R : Type} {a : AV} {k : Key → Nat → Nat → Nat → Nat → Nat → Bool → Option R} {r : R} (h : asSlice a none k = some r) :
    ∃ f g o l c s x, a = .slice f g o l c s x ∧ k f g o l c s x = some r := by
  cases a <;> first | exact ⟨_, _, _, _, _, _, _, rfl, h⟩ | cases h
theorem asMap_some {R : Type} {a : AV} {k : Key → Option R} {r : R} (h : asMap a none k = some r) : ∃ m, a = .map m ∧ k m = some r := by
  cases a <;> first | exact ⟨_, rfl, h⟩ | cases h
theorem asIface_some {R : Type} {a : AV} {k : TypeId → AV → Option R} {r : R} (h : asIface a none k = some r) : ∃ t v, a = .iface t v ∧ k t v = some r := by
  cases a <;> first | exact ⟨_, _, rfl, h⟩ | cases h
theorem asAgg_some {R : Type} {a : AV} {k : List AV → Option R} {r : R} (h : asAgg a none k = some r) : ∃ l, a = .agg l ∧ k l = some r := by
  cases a <;> first | exact ⟨_, rfl, h⟩ | cases h
theorem asTuple_some {R : Type} {a : AV} {k : List AV → Option R} {r : R} (h : asTuple a none k = some r) : ∃ l, a = .tuple l ∧ k l = some r := by
  cases a <;> first | exact ⟨_, rfl, h⟩ | cases h
theorem opt_inv {A R : Type} {o : Option A} {s : A → Option R} {r : R} (h : opt o none s = some r) : ∃ a, o = some a ∧ s a = some r := by
  cases o with
  | none => cases h
  | some a => exact ⟨a, rfl, h⟩
theorem cnd_inv {R : Type} {b : Bool} {t : Option R} {r : R} (h : cnd b t none = some r) : b = true ∧ t = some r := by
  cases b with
  | false => cases h
  | true => exact ⟨rfl, h⟩
theorem cnd_inv' {R : Type} {b : Bool} {t : Option R} {r : R} (h : cnd b none t = some r) : b = false ∧ t = some r := by
  cases b with
  | true => cases h
  | false => exact ⟨rfl, h⟩
theorem AV.some_eq (a : AV) : a.some = Option.some a := by cases a <;> rfl
theorem icase_eq {R : Type} (n : Int) (p q : Nat → R) : icase n p q = match n with | .ofNat a => p a | .negSucc a => q a := by cases n <;> rfl
theorem natF_eq {R : Type} (n : Nat) (k : Nat → R) : natF n k = k n := by cases n <;> rfl
theorem bnot_eq (b : Bool) : bnot b = !b := by cases b <;> rfl
theorem ev_bool_eq {R : Type} (b : Bool) (k : Bool → R) : bool b k = k b := by cases b <;> rfl
theorem idx_some {R : Type} {ix : Opd} {L : Lo} {k : Nat → Option R} {r : R} (h : idx ix L none k = some r) : ∃ kk i, getO ix L = .int kk (.ofNat i) ∧ k i = some r := by
  obtain ⟨kk, n, h1, h2⟩ := asInt_some h
  rw [icase_eq] at h2
  cases n with
  | ofNat i => exact ⟨kk, i, h1, h2⟩
  | negSucc i => cases h2

/-! ## numbers -/
theorem ieq_eq (a b : Int) : ieq a b = decide (a = b) := by
  cases a <;> cases b <;> simp only [ieq, icase_eq] <;> rw [Bool.eq_iff_iff] <;> simp [Nat.beq_eq] <;> omega
theorem ile_eq (a b : Int) : ile a b = decide (a ≤ b) := by
  cases a with
  | ofNat x =>
    cases b with
    | ofNat y => simp only [ile, icase_eq]; rw [Bool.eq_iff_iff]; simp [Nat.ble_eq]
    | negSucc y => simp only [ile, icase_eq]; rw [Bool.eq_iff_iff]; simp; omega
  | negSucc x =>
    cases b with
    | ofNat y => simp only [ile, icase_eq]; rw [Bool.eq_iff_iff]; simp; omega
    | negSucc y => simp only [ile, icase_eq]; rw [Bool.eq_iff_iff]; simp [Nat.ble_eq]; omega
theorem ilt_eq (a b : Int) : ilt a b = decide (a < b) := by
  rw [ilt, bnot_eq, ile_eq, Bool.eq_iff_iff]; simp
theorem keq_eq (a b : IntKind) : keq a b = decide (a = b) := by cases a <;> cases b <;> rfl
theorem keq_true {a b : IntKind} (h : keq a b = true) : a = b := by rw [keq_eq] at h; simpa using h
theorem leq_eq : ∀ (l m : List Nat), leq l m = decide (l = m)
  | [], [] => by simp [leq]
  | [], _ :: _ => by simp [leq]
  | _ :: _, [] => by simp [leq]
  | a :: l, b :: m => by
    show cnd (Nat.beq a b) (leq l m) false = _
    rw [cnd_eq, leq_eq l m, Bool.eq_iff_iff]; simp [Nat.beq_eq]
theorem iadd_eq (a b : Int) : iadd a b = a + b := by
  cases a <;> cases b <;> simp only [iadd, icase_eq] <;> rfl
theorem isub_eq (a b : Int) : isub a b = a - b := by
  cases a with
  | ofNat x =>
    cases b with
    | ofNat y =>
      simp only [isub, icase_eq, cnd_eq, Nat.ble_eq]
      split
      · show ((x - y : Nat) : Int) = _
        simp; omega
      · rfl
    | negSucc y => simp only [isub, icase_eq]; rfl
  | negSucc x => simp only [isub, icase_eq]; rfl
theorem wrap_small (k : IntKind) (a : Nat) (h : a ≤ kmax k) : k.wrap (Int.ofNat a) = Int.ofNat a := by
  cases k <;> simp only [kmax] at h <;> simp only [IntKind.wrap, IntKind.bits, IntKind.signed, Int.ofNat_eq_natCast] <;> simp <;> omega
theorem wrap_i64 {n : Int} (h1 : -9223372036854775808 ≤ n) (h2 : n ≤ 9223372036854775807) : IntKind.wrap .i64 n = n := by
  have e1 : (2 : Int) ^ 64 = 18446744073709551616 := by decide
  have e2 : (2 : Int) ^ 63 = 9223372036854775808 := by decide
  show (if (true && decide (n % (2 ^ 64 : Int) ≥ (2 ^ 63 : Int))) = true then n % (2 ^ 64 : Int) - (2 ^ 64 : Int) else n % (2 ^ 64 : Int)) = n
  rw [e1, e2]
  simp only [Bool.true_and, decide_eq_true_eq]
  split <;> omega
theorem mkInt_eq (k : IntKind) (n : Int) : mkInt k n = .int k (k.wrap n) := by
  cases n with
  | ofNat a =>
    simp only [mkInt, icase_eq, cnd_eq, Nat.ble_eq, natF_eq]
    split
    · rename_i h; rw [wrap_small k a h]
    · rfl
  | negSucc a => simp only [mkInt, icase_eq]

end Go.Ev


namespace Go.Ev
set_option linter.unusedVariables false

section
variable {E : Env} {P : Program} (hE : EnvOk E P)
include hE

theorem EnvOk.und {t : TypeId} {d : TypeDesc} (h : E.und t = some d) : P.underlying t = some d := by
  unfold Env.und at h
  split at h
  · rename_i i hi
    have h1 := hE.ts _ _ hi
    split at h
    · rename_i nm u hd
      split at h
      · rename_i j hj
        have h2 := hE.ts _ _ hj
        have : some j.desc = some d := h
        unfold Program.underlying
        rw [h1]
        obtain ⟨desc⟩ := i
        simp only at hd
        subst hd
        simpa [h2] using this
      · cases h
    · rename_i hn
      have : some i.desc = some d := h
      unfold Program.underlying
      rw [h1]
      obtain ⟨desc⟩ := i
      simp only at hn this ⊢
      split
      · rename_i heq
        simp only [Option.some.injEq, TypeInfo.mk.injEq] at heq
        exact absurd heq.1 (hn _ _)
      · rename_i heq
        simp only [Option.some.injEq] at heq
        subst heq
        exact this
      · rename_i heq; cases heq
  · cases h

theorem EnvOk.size {t : TypeId} {n : Nat} (h : E.size t = some n) : ∃ i, P.info? t = some i ∧ i.size = n := by
  unfold Env.size at h
  split at h
  · rename_i i hi; exact ⟨i, hE.ts _ _ hi, by simpa using h⟩
  · cases h

theorem EnvOk.runUnd {t : TypeId} {d : TypeDesc} (h : E.und t = some d) (w : World) : (underlying t).run P w = .ok d w := run_underlying (hE.und h) w
theorem EnvOk.runSize {t : TypeId} {n : Nat} (h : E.size t = some n) (w : World) : (sizeOf t).run P w = .ok n w := by
  obtain ⟨i, hi, hn⟩ := hE.size h
  simp [sizeOf, typeInfo, hi, hn]
omit hE in
theorem szA_some {t : TypeId} {n : Nat} {a : Bool} (h : E.szA t = some (n, a)) : ∃ d, E.und t = some d ∧ E.size t = some n ∧ isAggT d = a := by
  unfold Env.szA at h
  split at h
  · rename_i d m h1 h2
    simp only [Option.some.injEq, Prod.mk.injEq] at h
    obtain ⟨rfl, rfl⟩ := h
    exact ⟨d, h1, h2, rfl⟩
  · cases h
theorem EnvOk.runAgg {t : TypeId} {d : TypeDesc} (h : E.und t = some d) (w : World) : (isAgg t).run P w = .ok (isAggT d) w := by
  unfold isAgg
  simp only [Sem.run_bind, hE.runUnd h, Result.andThen_ok]
  cases d <;> rfl
theorem EnvOk.zero {t : TypeId} {z : AV} (h : zeroA E t = some z) : ∃ i v, P.info? t = some i ∧ i.zero = some v ∧ z = ofV v := by
  unfold zeroA at h
  split at h
  · rename_i i hi
    split at h
    · rename_i v hv; exact ⟨i, v, hE.ts _ _ hi, hv, by simpa using h.symm⟩
    · cases h
  · cases h
end

theorem nthA_eq : ∀ (l : List AV) (j : Nat), nthA l j = l[j]?
  | [], j => by simp [nthA]
  | a :: l, 0 => by show a.some = _; rw [AV.some_eq]; rfl
  | a :: l, j + 1 => by show nthA l j = _; rw [nthA_eq l j]; rfl

theorem asCells_some {R : Type} {o : Ob} {k : Bool → Nat → Nat → Nat → Nat → Tr Row → Option R} {r : R} (h : asCells o none k = some r) :
    ∃ ro gen sz dp ext c, o = .cells ro gen sz dp ext c ∧ k ro gen sz dp ext c = some r := by
  cases o <;> first | exact ⟨_, _, _, _, _, _, rfl, h⟩ | cases h
theorem asMapO_some {R : Type} {o : Ob} {k : List En → Nat → Option R} {r : R} (h : asMapO o none k = some r) : ∃ es c, o = .map es c ∧ k es c = some r := by
  cases o <;> first | exact ⟨_, _, rfl, h⟩ | cases h

theorem start_le {s o sz : Nat} (hs : s % sz = 0) (h : s ≤ o) : s ≤ o / sz * sz := by
  rcases Nat.eq_zero_or_pos sz with h0 | h0
  · subst h0; simp at hs; omega
  · have h1 : s = s / sz * sz := by have := Nat.div_add_mod s sz; rw [hs, Nat.mul_comm] at this; omega
    have h2 : s / sz ≤ o / sz := Nat.div_le_div_right h
    have h3 := Nat.mul_le_mul_right sz h2
    omega

/-- what is known of a family's block -/
theorem HR.cells {B : Nat} {μ : Mu} {h : Hp} {w : World} (hH : HR B μ h w) {f : Key} {ro : Bool} {gen sz dp ext : Nat} {c : Tr Row}
    (ho : hget f h = .cells ro gen sz dp ext c) : (Tr.Wf dp c ∧ ∀ r, ext ≤ r → c.get r = none) ∧ ((∀ g, gen < g → μ f g = none) ∧ ∀ r l gw, c.get r = some (.mk l gw) → gw ≤ gen) ∧
      ∀ g b s n, μ f g = some (b, s, n) → (ro = false → B ≤ b) ∧ s % sz = 0 ∧ ∃ cs e fz, w.heap[b]? = some (.cells cs e fz) ∧ FzOk g cs fz ∧ cs.size = n ∧
        ∀ r l gw, c.get r = some (.mk l gw) → gw ≤ g → s ≤ r * sz → RowR μ cs s sz r l := by
  have := hH.obj f
  rw [ho] at this
  exact this

theorem cell?_of_block {w : World} {b i : Nat} {cs : Array Value} {e : TypeId} {fz : Nat × Nat} (h : w.heap[b]? = some (.cells cs e fz)) : w.cell? ⟨b, i, none⟩ = cs[i]? := by
  simp [World.cell?, h]
theorem frozen?_of_block {w : World} {b i g : Nat} {cs : Array Value} {e : TypeId} {fz : Nat × Nat} (h : w.heap[b]? = some (.cells cs e fz)) (hf : FzOk g cs fz) (hi : i < cs.size) : w.frozen? ⟨b, i, none⟩ = false := by
  rcases hf with rfl | ⟨_, rfl⟩
  · simp [World.frozen?, h]
  · simp [World.frozen?, h]; omega

theorem getCell_sound {B : Nat} {μ : Mu} {h : Hp} {w : World} (hH : HR B μ h w) {f : Key} {g o b s n : Nat} {a : AV} (hm : μ f g = some (b, s, n)) (hs : s ≤ o)
    (hg : getCell h f g o = some a) : ∃ v, w.cell? ⟨b, o - s, none⟩ = some v ∧ VR μ a v := by
  obtain ⟨ro, gen, sz, dp, ext, c, ho, hg⟩ := asCells_some hg
  obtain ⟨r, hr, hg⟩ := opt_inv hg
  obtain ⟨l, gw⟩ := r
  obtain ⟨hgw, hg⟩ := cnd_inv hg
  rw [nthA_eq] at hg
  obtain ⟨hwf, hgen, hb⟩ := hH.cells ho
  obtain ⟨hB, hs0, cs, e, fz, hheap, hfz, hsz, hrows⟩ := hb g b s n hm
  obtain ⟨h1, h2, h3⟩ := hrows _ _ _ hr (Nat.le_of_ble_eq_true hgw) (start_le hs0 hs)
  obtain ⟨v, hv, hvr⟩ := h3 _ _ hg
  refine ⟨v, ?_, hvr⟩
  rw [cell?_of_block hheap]
  have e1 : Nat.div o sz * sz + Nat.mod o sz = o := Nat.div_add_mod' o sz
  rw [e1] at hv
  exact hv

theorem getRows_sound {μ : Mu} {cs : Array Value} {s sz g : Nat} {c : Tr Row} (hrows : ∀ r l gw, c.get r = some (.mk l gw) → gw ≤ g → s ≤ r * sz → RowR μ cs s sz r l) :
    ∀ (n r : Nat) (ls : List (List AV)), getRows c g n r = some ls → s ≤ r * sz → ls.length = n ∧ ∀ i l, ls[i]? = some l → RowR μ cs s sz (r + i) l
  | 0, r, ls, h, _ => by
    simp only [getRows, Option.some.injEq] at h
    subst h
    exact ⟨rfl, fun i l hi => by simp at hi⟩
  | n + 1, r, ls, h, hs => by
    unfold getRows at h
    split at h
    · rename_i l gw hr
      obtain ⟨hgw, h⟩ := cnd_inv h
      split at h
      · rename_i ls' hls
        simp only [Option.some.injEq] at h
        subst h
        obtain ⟨h1, h2⟩ := getRows_sound hrows n (r + 1) ls' hls (by rw [Nat.add_mul]; omega)
        refine ⟨by simp [h1], fun i l' hi => ?_⟩
        cases i with
        | zero => simp at hi; subst hi; exact hrows _ _ _ hr (Nat.le_of_ble_eq_true hgw) hs
        | succ i => simp at hi; have := h2 i l' hi; rwa [show r + 1 + i = r + (i + 1) from by omega] at this
      · cases h
    · cases h

theorem flat_rows {μ : Mu} {cs : Array Value} {s sz : Nat} : ∀ (ls : List (List AV)) (r : Nat), (∀ i l, ls[i]? = some l → RowR μ cs s sz (r + i) l) →
    (flat ls).length = ls.length * sz ∧ ∀ j a, (flat ls)[j]? = some a → ∃ v, cs[r * sz + j - s]? = some v ∧ VR μ a v
  | [], r, h => ⟨by simp [flat], fun j a hj => by simp [flat] at hj⟩
  | l :: ls, r, h => by
    obtain ⟨h1, h2, h3⟩ := h 0 l rfl
    obtain ⟨i1, i2⟩ := flat_rows ls (r + 1) (fun i l' hi => by have := h (i + 1) l' (by simpa using hi); rwa [show r + (i + 1) = r + 1 + i from by omega] at this)
    refine ⟨by simp only [flat, List.length_append, i1, h2, List.length_cons]; rw [Nat.add_mul]; omega, fun j a hj => ?_⟩
    simp only [flat] at hj
    by_cases hlt : j < l.length
    · rw [List.getElem?_append_left hlt] at hj
      simpa using h3 j a hj
    · rw [List.getElem?_append_right (by omega)] at hj
      obtain ⟨v, hv, hr⟩ := i2 _ _ hj
      refine ⟨v, ?_, hr⟩
      rw [← hv]
      congr 1
      rw [h2] at hlt ⊢
      rw [Nat.add_mul]; omega

theorem getCells_sound {B : Nat} {μ : Mu} {h : Hp} {w : World} (hH : HR B μ h w) {f : Key} {g o b s n k : Nat} {l : List AV} (hm : μ f g = some (b, s, n)) (hs : s ≤ o)
    (hg : getCells h f g o k = some l) : l.length = k ∧ ∃ vs : List Value, VRs μ l vs ∧ ∀ j v, vs[j]? = some v → w.cell? ⟨b, o - s + j, none⟩ = some v := by
  unfold getCells at hg
  by_cases hk : k = 0
  · subst hk
    change some [] = some l at hg
    have : l = [] := by simpa using hg.symm
    subst this
    exact ⟨rfl, [], .nil, fun j v hj => by simp at hj⟩
  have hk' : Nat.beq k 0 = false := by rw [Bool.eq_false_iff]; intro hh; exact hk (Nat.eq_of_beq_eq_true hh)
  rw [hk'] at hg
  change asCells _ _ _ = _ at hg
  obtain ⟨ro, gen, sz, dp, ext, c, ho, hg⟩ := asCells_some hg
  obtain ⟨hwf, hgen, hb⟩ := hH.cells ho
  obtain ⟨hB, hs0, cs, e, fz, hheap, hfz, hsz, hrows⟩ := hb g b s n hm
  have key : l.length = k ∧ ∀ j a, l[j]? = some a → ∃ v, cs[o + j - s]? = some v ∧ VR μ a v := by
    by_cases hin : Nat.ble (Nat.add (Nat.mod o sz) k) sz = true
    · rw [hin] at hg
      change opt _ _ _ = _ at hg
      obtain ⟨⟨l0, gw⟩, hr, hg⟩ := opt_inv hg
      obtain ⟨hgw, hg⟩ := cnd_inv hg
      have hle : o % sz + k ≤ sz := Nat.le_of_ble_eq_true hin
      obtain ⟨h1, h2, h3⟩ := hrows _ _ _ hr (Nat.le_of_ble_eq_true hgw) (start_le hs0 hs)
      have e1 : Nat.div o sz * sz + Nat.mod o sz = o := Nat.div_add_mod' o sz
      have e1' : o / sz * sz + o % sz = o := e1
      by_cases heq : Nat.beq k sz = true
      · rw [heq] at hg
        have : l0 = l := by simpa [cnd_true] using hg
        subst this
        have hks : k = sz := Nat.eq_of_beq_eq_true heq
        have h0 : o % sz = 0 := by omega
        refine ⟨by omega, fun j a hj => ?_⟩
        obtain ⟨v, hv, hvr⟩ := h3 j a hj
        refine ⟨v, ?_, hvr⟩
        rw [← hv]; congr 1
        show o + j - s = o / sz * sz + j - s
        omega
      · have hne : Nat.beq k sz = false := Bool.eq_false_iff.2 heq
        rw [hne] at hg
        have : (l0.drop (o % sz)).take k = l := Option.some.inj hg
        subst this
        refine ⟨by simp; omega, fun j a hj => ?_⟩
        rw [List.getElem?_take] at hj
        split at hj
        · rw [List.getElem?_drop] at hj
          obtain ⟨v, hv, hvr⟩ := h3 _ a hj
          refine ⟨v, ?_, hvr⟩
          rw [← hv]; congr 1
          show o + j - s = o / sz * sz + (o % sz + j) - s
          omega
        · cases hj
    · have hin' : Nat.ble (Nat.add (Nat.mod o sz) k) sz = false := Bool.eq_false_iff.2 hin
      rw [hin'] at hg
      change cnd _ _ _ = _ at hg
      obtain ⟨h0, hg⟩ := cnd_inv hg
      obtain ⟨h0', hg⟩ := cnd_inv hg
      split at hg
      · rename_i ls hls
        have : flat ls = l := by simpa using hg
        subst this
        obtain ⟨g1, g2⟩ := getRows_sound (sz := sz) hrows _ _ _ hls (start_le hs0 hs)
        obtain ⟨f1, f2⟩ := flat_rows ls _ g2
        have z0 : o % sz = 0 := Nat.eq_of_beq_eq_true h0
        have z1 : k % sz = 0 := Nat.eq_of_beq_eq_true h0'
        have e1 : o / sz * sz + o % sz = o := Nat.div_add_mod' o sz
        have e2 : k / sz * sz + k % sz = k := Nat.div_add_mod' k sz
        refine ⟨by rw [f1, g1]; show k / sz * sz = k; omega, fun j a hj => ?_⟩
        obtain ⟨v, hv, hvr⟩ := f2 j a hj
        refine ⟨v, ?_, hvr⟩
        rw [← hv]; congr 1
        show o + j - s = o / sz * sz + j - s
        omega
      · cases hg
  obtain ⟨hlen, hget⟩ := key
  refine ⟨hlen, (List.range k).map (fun j => (cs[o + j - s]?).getD undef), ?_, ?_⟩
  · refine VRs.of_get (by simp [hlen]) fun i a ha => ?_
    obtain ⟨v, hv, hr⟩ := hget i a ha
    have hi : i < k := by
      rcases Nat.lt_or_ge i l.length with h' | h'
      · omega
      · simp [List.getElem?_eq_none h'] at ha
    exact ⟨v, by simp [hi, hv], hr⟩
  · intro j v hj
    rw [List.getElem?_map] at hj
    by_cases hjk : j < k
    · have ha : ∃ a, l[j]? = some a := ⟨l[j]'(by omega), List.getElem?_eq_getElem (by omega)⟩
      obtain ⟨a, ha⟩ := ha
      obtain ⟨u, hu, _⟩ := hget j a ha
      simp [hjk, hu] at hj
      subst hj
      rw [cell?_of_block hheap, show o - s + j = o + j - s from by omega]
      exact hu
    · simp [List.getElem?_eq_none (show (List.range k).length ≤ j from by simp; omega)] at hj

end Go.Ev


namespace Go.Ev
set_option linter.unusedVariables false

theorem run_val {P : Program} {w w' : World} {s : Sem Value} {v : Value} (h : s.run P w = .ok v w') : (do pure (Next.value (← s)) : Sem Next).run P w = .ok (.value v) w' := by
  simp only [Sem.run_bind, h, Result.andThen_ok, Sem.run_pure]

section
variable {E : Env} {P : Program} (hE : EnvOk E P) {B : Nat} {μ : Mu} {h : Hp} {w : World} (hH : HR B μ h w)
  {L : Lo} {ρ : Operand → Value} {q : Operand → Opd} (hq : ∀ x, VR μ (getO (q x) L) (ρ x))

omit hE hH in
include hq in
theorem q_int {x : Operand} {k : IntKind} {n : Int} (e : getO (q x) L = .int k n) : ρ x = .int k n := by
  have := hq x; rw [e] at this; simpa only [VR] using this
omit hE hH in
include hq in
theorem q_bool {x : Operand} {b : Bool} (e : getO (q x) L = .bool b) : ρ x = .bool b := by
  have := hq x; rw [e] at this; simpa only [VR] using this
omit hE hH in
include hq in
theorem q_str {x : Operand} {s : List Nat} (e : getO (q x) L = .str s) : ∃ b : ByteArray, ρ x = .string b ∧ b.data.toList.map UInt8.toNat = s := by
  have := hq x; rw [e] at this; simpa only [VR] using this
omit hE hH in
include hq in
theorem q_ptr {x : Operand} {f : Key} {g o : Nat} (e : getO (q x) L = .ptr f g o) : ∃ b s n, μ f g = some (b, s, n) ∧ s ≤ o ∧ ρ x = .pointer (some ⟨b, o - s, none⟩) := by
  have := hq x; rw [e] at this; simpa only [VR] using this
omit hE hH in
include hq in
theorem q_slice {x : Operand} {f : Key} {g o len cap sz : Nat} {ex : Bool} (e : getO (q x) L = .slice f g o len cap sz ex) :
    ∃ b s n a c, μ f g = some (b, s, n) ∧ ρ x = .slice (some ⟨b, a, none⟩) len c ∧ len ≤ cap ∧ cap ≤ c ∧ (ex = true → c = cap) ∧ ((s ≤ o ∧ a = o - s ∧ a + c * sz ≤ n) ∨ (len = 0 ∧ c = 0)) := by
  have := hq x; rw [e] at this; simpa only [VR] using this
omit hE hH in
include hq in
theorem q_agg {x : Operand} {l : List AV} (e : getO (q x) L = .agg l) : ∃ cs : Array Value, ρ x = .agg cs ∧ VRs μ l cs.toList := by
  have := hq x; rw [e] at this; simpa only [VR] using this
omit hE hH in
include hq in
theorem q_tuple {x : Operand} {l : List AV} (e : getO (q x) L = .tuple l) : ∃ cs : Array Value, ρ x = .tuple cs ∧ VRs μ l cs.toList := by
  have := hq x; rw [e] at this; simpa only [VR] using this
omit hE hH in
include hq in
theorem q_iface {x : Operand} {t : TypeId} {v : AV} (e : getO (q x) L = .iface t v) : ∃ y, ρ x = .iface t y ∧ VR μ v y := by
  have := hq x; rw [e] at this; simpa only [VR] using this
omit hE hH in
include hq in
theorem q_map {x : Operand} {m : Key} (e : getO (q x) L = .map m) : ∃ b s n, μ m 0 = some (b, s, n) ∧ ρ x = .map (some b) := by
  have := hq x; rw [e] at this; simpa only [VR] using this

/-- an operation hands back a value, and turns nothing -/
def Gives (P : Program) (ρ : Operand → Value) (w : World) (μ : Mu) (o : Oper) (a : AV) : Prop :=
  ∃ v, (execOp ρ o).run P w = .ok (.value v) w ∧ VR μ a v

variable {d : Option Tmp} {ty : TypeId} {pos : String} {af : Array Edge} {gd : Option (Nat × Bool)} {a : AV}

omit hE hH in
include hq in
theorem p_move {x : Operand} (hev : xMv (q x) h L = some a) : Gives P ρ w μ ⟨d, .move x, ty, pos, af, gd⟩ a := by
  rw [xMv, AV.some_eq] at hev
  cases hev
  exact ⟨ρ x, rfl, hq x⟩
omit hE hH in
include hq in
theorem p_assign {x : Operand} (hev : xMv (q x) h L = some a) : Gives P ρ w μ ⟨d, .assign x, ty, pos, af, gd⟩ a := by
  rw [xMv, AV.some_eq] at hev
  cases hev
  exact ⟨ρ x, rfl, hq x⟩

omit hE hH in
include hq in
theorem p_pick {c x y : Operand} (hev : xPick (q c) (q x) (q y) h L = some a) : Gives P ρ w μ ⟨d, .pick c x y, ty, pos, af, gd⟩ a := by
  obtain ⟨b, hb, hev⟩ := asBool_some hev
  have hc := q_bool hq hb
  refine ⟨if b then ρ x else ρ y, ?_, ?_⟩
  · show (do pure (Next.value (if ← Go.asBool (ρ c) then ρ x else ρ y)) : Sem Next).run P w = _
    rw [hc]; rfl
  · cases b with
    | true => rw [cnd_true, AV.some_eq] at hev; cases hev; exact hq x
    | false => rw [cnd_false, AV.some_eq] at hev; cases hev; exact hq y

include hE hH hq in
theorem p_load1 {t : TypeId} {n : Nat} {x : Operand} (ht : E.szA t = some (n, false)) (hev : xLoad1 (q x) h L = some a) : Gives P ρ w μ ⟨d, .load t x, ty, pos, af, gd⟩ a := by
  obtain ⟨f, g, o, hp, hev⟩ := asPtr_some hev
  obtain ⟨b, s, m, hm, hs, hx⟩ := q_ptr hq hp
  obtain ⟨v, hv, hr⟩ := getCell_sound hH hm hs hev
  obtain ⟨ds, hu, hsz, hag⟩ := szA_some ht
  refine ⟨v, run_val (s := Instr.loadAt t (ρ x)) ?_, hr⟩
  rw [hx]
  simp only [Instr.loadAt, Instr.sureAddr, loadVar, Sem.run_bind, Sem.run_pure, Result.andThen_ok, hE.runAgg hu, hag, Bool.false_eq_true, if_false, run_load, hv]

include hE hH hq in
theorem p_loadN {t : TypeId} {n : Nat} {x : Operand} (ht : E.szA t = some (n, true)) (hev : xLoadN n (q x) h L = some a) : Gives P ρ w μ ⟨d, .load t x, ty, pos, af, gd⟩ a := by
  obtain ⟨f, g, o, hp, hev⟩ := asPtr_some hev
  obtain ⟨b, s, m, hm, hs, hx⟩ := q_ptr hq hp
  obtain ⟨l, hl, hev⟩ := opt_inv hev
  obtain ⟨hlen, vs, hvs, hcell⟩ := getCells_sound hH hm hs hl
  cases hev
  obtain ⟨ds, hu, hsz, hag⟩ := szA_some ht
  refine ⟨.agg vs.toArray, run_val (s := Instr.loadAt t (ρ x)) ?_, ?_⟩
  · rw [hx]
    have hlen' : vs.length = n := by rw [← hvs.length, hlen]
    have hrun := run_loadCells_list (P := P) w ⟨b, o - s, none⟩ vs (fun j v hj => by
      have := hcell j v hj
      unfold Addr.add
      split
      · rename_i h0; subst h0; simpa using this
      · exact this)
    rw [hlen'] at hrun
    simp only [Instr.loadAt, Instr.sureAddr, loadVar, Sem.run_bind, Sem.run_pure, Result.andThen_ok, hE.runAgg hu, hag, if_true, hE.runSize hsz, hrun]
  · simp only [VR]; exact ⟨_, rfl, by simpa using hvs⟩

include hE hq in
theorem p_addOff {t : TypeId} {i : Nat} {x : Operand} {fs : List Field} {off n : Nat} (ht : fieldsOf E t = some fs) (hf : fplace E fs i = some (off, n + 1))
    (hev : xAddOff off (q x) h L = some a) : Gives P ρ w μ ⟨d, .fieldAddr t x i, ty, pos, af, gd⟩ a := by
  obtain ⟨f, g, o, hp, hev⟩ := asPtr_some hev
  obtain ⟨b, s, m, hm, hs, hx⟩ := q_ptr hq hp
  cases hev
  unfold fieldsOf at ht
  split at ht
  · rename_i fa hu
    simp only [Option.some.injEq] at ht
    subst ht
    unfold fplace at hf
    split at hf
    · rename_i fd hfd
      split at hf
      · rename_i k hk
        simp only [Option.some.injEq, Prod.mk.injEq] at hf
        obtain ⟨rfl, rfl⟩ := hf
        refine ⟨.pointer (some ⟨b, o + fd.offset - s, none⟩), run_val (s := Instr.fieldAt t (ρ x) i) ?_, ?_⟩
        · rw [hx]
          have hfa : fa[i]? = some fd := by rw [← Array.getElem?_toList]; exact hfd
          simp only [Instr.fieldAt, Sem.run_bind, hE.runUnd hu, Result.andThen_ok, hfa, Instr.sureAddr, Sem.run_pure, fieldPlace, hE.runSize hk, Sem.run_ite]
          simp only [Nat.add_eq_zero_iff, Nat.one_ne_zero, and_false, if_false, Result.andThen_ok]
          unfold Addr.add
          split
          · rename_i h0; rw [h0]; rfl
          · simp only [Result.ok.injEq, Value.pointer.injEq, Option.some.injEq, Addr.mk.injEq, true_and, and_true]
            omega
        · simp only [VR]
          exact ⟨b, s, m, hm, by show s ≤ o + fd.offset; omega, rfl⟩
      · cases hf
    · cases hf
  · cases ht

omit hE hH in
include hq in
theorem p_extract {x : Operand} {i : Nat} (hev : xExtract i (q x) h L = some a) : Gives P ρ w μ ⟨d, .extract x i, ty, pos, af, gd⟩ a := by
  obtain ⟨l, hl, hev⟩ := asTuple_some hev
  obtain ⟨cs, hx, hr⟩ := q_tuple hq hl
  rw [nthA_eq] at hev
  obtain ⟨v, hv, hvr⟩ := hr.get hev
  refine ⟨v, run_val (s := Instr.extract (ρ x) i) ?_, hvr⟩
  rw [hx]
  have : cs[i]? = some v := by rw [← Array.getElem?_toList]; exact hv
  simp only [Instr.extract, this]; rfl

include hE hq in
theorem p_iface {t : TypeId} {x : Operand} {ds : TypeDesc} (hu : E.und t = some ds) (hn : ∀ ms, ds ≠ .interface ms) (hev : xIface t (q x) h L = some a) :
    Gives P ρ w μ ⟨d, .makeInterface t x, ty, pos, af, gd⟩ a := by
  cases hev
  refine ⟨.iface t (ρ x), run_val (s := Instr.makeInterface t (ρ x)) ?_, ?_⟩
  · simp only [Instr.makeInterface, Sem.run_bind, hE.runUnd hu, Result.andThen_ok]
    cases ds <;> first | rfl | exact absurd rfl (hn _)
  · simp only [VR]; exact ⟨_, rfl, hq x⟩

omit hE hH in
include hq in
theorem getOs_sound : ∀ (xs : List Operand), VRs μ (getOs (xs.map q) L) (xs.map ρ)
  | [] => .nil
  | x :: xs => .cons (hq x) (getOs_sound xs)

omit hE hH in
include hq in
theorem p_func {fn : Fn} {first cap : Array Operand} (hev : xFunc fn (first.toList.map q) (cap.toList.map q) h L = some a) : Gives P ρ w μ ⟨d, .makeFunc fn first cap, ty, pos, af, gd⟩ a := by
  cases hev
  refine ⟨.func fn (first.map ρ) (cap.map ρ), rfl, ?_⟩
  simp only [VR]
  exact ⟨fn, first.map ρ, cap.map ρ, rfl, rfl, by simpa using getOs_sound hq first.toList, by simpa using getOs_sound hq cap.toList⟩

include hE hq in
theorem p_convI {s t : TypeId} {x : Operand} {k : IntKind} {ds : TypeDesc} (h1 : E.und s = some ds) (h2 : E.und t = some (.int k)) (hev : xConvI k (q x) h L = some a) :
    Gives P ρ w μ ⟨d, .convert s t x, ty, pos, af, gd⟩ a := by
  have run : ∀ (kk : IntKind) (n : Int), ρ x = .int kk n → (convert s t (ρ x)).run P w = .ok (.int k (k.wrap n)) w := by
    intro kk n hx
    rw [hx]
    simp only [convert, Sem.run_bind, hE.runUnd h1, hE.runUnd h2, Result.andThen_ok]
    rfl
  unfold xConvI at hev
  cases hg : getO (q x) L with
  | int kk n =>
    rw [hg] at hev
    replace hev : some (mkInt k n) = some a := hev
    rw [mkInt_eq] at hev
    cases hev
    exact ⟨.int k (k.wrap n), run_val (s := convert s t (ρ x)) (run _ _ (q_int hq hg)), by simp only [VR]⟩
  | rng kk lo hi =>
    rw [hg] at hev
    replace hev : cnd (keq k .i64) (cnd (ile (-9223372036854775808) lo) (cnd (ile hi 9223372036854775807) (some (AV.rng .i64 lo hi)) none) none) none = some a := hev
    obtain ⟨hk, hev⟩ := cnd_inv hev
    obtain ⟨hlo, hev⟩ := cnd_inv hev
    obtain ⟨hhi, hev⟩ := cnd_inv hev
    cases hev
    rw [keq_eq] at hk
    rw [ile_eq] at hlo hhi
    have hk' : k = .i64 := by simpa using hk
    have hlo' : -9223372036854775808 ≤ lo := by simpa using hlo
    have hhi' : hi ≤ 9223372036854775807 := by simpa using hhi
    have := hq x
    rw [hg] at this
    simp only [VR] at this
    obtain ⟨n, hn, g1, g2⟩ := this
    subst hk'
    have hw : IntKind.wrap .i64 n = n := wrap_i64 (by omega) (by omega)
    refine ⟨.int .i64 n, run_val (s := convert s t (ρ x)) (by rw [run _ _ hn, hw]), by simp only [VR]; exact ⟨n, rfl, g1, g2⟩⟩
  | _ => rw [hg] at hev; cases hev


omit hE hH in
theorem isSh_iff (op : BinOp) : isSh op = true ↔ op = .shl ∨ op = .shr := by cases op <;> simp [isSh]

omit hE hH in
theorem iarith_sound {op : BinOp} {k : IntKind} {m n : Int} {t : TypeId} (hs : isSh op = false) (hev : iarith op k m n = some a) :
    ∃ v, (binOp op t (.int k m) (.int k n)).run P w = .ok v w ∧ VR μ a v := by
  cases op <;> simp only [iarith, ev_bool_eq, mkInt_eq, iadd_eq, isub_eq, ilt_eq, ile_eq, bnot_eq] at hev
  case shl => cases hs
  case shr => cases hs
  case quo =>
    obtain ⟨hb, hev⟩ := cnd_inv' hev
    rw [ieq_eq] at hb
    have hn : n ≠ 0 := by simpa using hb
    cases hev
    exact ⟨.int k (k.wrap (m.tdiv n)), by simp [binOp, Op.intDiv, hn], by simp only [VR]⟩
  case rem =>
    obtain ⟨hb, hev⟩ := cnd_inv' hev
    rw [ieq_eq] at hb
    have hn : n ≠ 0 := by simpa using hb
    cases hev
    exact ⟨.int k (m.tmod n), by simp [binOp, Op.intDiv, hn], by simp only [VR]⟩
  all_goals
    cases hev
    refine ⟨_, by simp only [binOp, ne_eq, not_true_eq_false, if_false, Op.intArith, Op.intBits, Op.intCmp]; rfl, ?_⟩
    simp only [VR, ieq_eq]
    try rfl
    try (rw [Value.bool.injEq, Bool.eq_iff_iff]; simp)

omit hE hH in
theorem ishift_sound {op : BinOp} {k l : IntKind} {m n : Int} {t : TypeId} (hs : isSh op = true) (hev : ishift op k m n = some a) :
    ∃ v, (binOp op t (.int k m) (.int l n)).run P w = .ok v w ∧ VR μ a v := by
  obtain ⟨hb, hev⟩ := cnd_inv' hev
  rw [ilt_eq] at hb
  have hn : ¬ n < 0 := by simpa using hb
  rcases (isSh_iff op).1 hs with rfl | rfl
  · cases hev
    refine ⟨.int k (k.wrap (m * 2 ^ n.toNat.min k.bits)), ?_, by simp only [VR]⟩
    show (Op.shift .shl k m l n).run P w = _
    rw [Op.shift, if_neg hn]; rfl
  · cases hev
    refine ⟨.int k (m.fdiv (2 ^ n.toNat.min k.bits)), ?_, by simp only [VR]⟩
    show (Op.shift .shr k m l n).run P w = _
    rw [Op.shift, if_neg hn]; rfl


/-! ## strings -/
omit hE hH in
theorem map_inj : ∀ {l m : List UInt8}, l.map UInt8.toNat = m.map UInt8.toNat → l = m
  | [], [], _ => rfl
  | [], _ :: _, h => by simp at h
  | _ :: _, [], h => by simp at h
  | a :: l, b :: m, h => by
    simp only [List.map_cons, List.cons.injEq] at h
    rw [UInt8.toNat_inj.1 h.1, map_inj h.2]

omit hE hH in
theorem llt_eq : ∀ (l m : List UInt8), llt (l.map UInt8.toNat) (m.map UInt8.toNat) = Op.bytesLess l m
  | _, [] => by simp [llt, Op.bytesLess]
  | [], _ :: _ => by simp [llt, Op.bytesLess]
  | a :: l, b :: m => by
    simp only [List.map_cons, llt, Op.bytesLess, cnd_eq, llt_eq l m, Nat.blt_eq, Nat.beq_eq]
    rw [Bool.eq_iff_iff]
    by_cases h1 : a.toNat < b.toNat
    · have : a < b := UInt8.lt_iff_toNat_lt.2 h1
      simp [h1, this]
    · have n1 : ¬ a < b := fun h => h1 (UInt8.lt_iff_toNat_lt.1 h)
      by_cases h2 : a.toNat = b.toNat
      · have : a = b := UInt8.toNat_inj.1 h2
        simp [this]
      · have : a ≠ b := fun h => h2 (by rw [h])
        simp [h1, n1, h2, this]


omit hE hH in
theorem less_tri : ∀ (l m : List UInt8), (Op.bytesLess l m || l == m) = !Op.bytesLess m l
  | [], [] => by simp [Op.bytesLess]
  | [], _ :: _ => by simp [Op.bytesLess]
  | _ :: _, [] => by simp [Op.bytesLess]
  | a :: l, b :: m => by
    have ih := less_tri l m
    simp only [Op.bytesLess]
    by_cases h1 : a < b
    · have h2 : ¬ b < a := fun h => absurd (UInt8.lt_trans h1 h) (UInt8.lt_irrefl a)
      have h3 : ¬ b = a := fun h => by subst h; exact UInt8.lt_irrefl _ h1
      simp [h1, h2, h3]
    · by_cases h2 : b < a
      · have h3 : ¬ a = b := fun h => by subst h; exact UInt8.lt_irrefl _ h2
        simp [h1, h2, h3]
      · have h3 : a = b := by
          have k1 : ¬ a.toNat < b.toNat := fun h => h1 (UInt8.lt_iff_toNat_lt.2 h)
          have k2 : ¬ b.toNat < a.toNat := fun h => h2 (UInt8.lt_iff_toNat_lt.2 h)
          exact UInt8.toNat_inj.1 (by omega)
        subst h3
        simpa [h1] using ih

omit hE hH in
theorem strOp_sound {op : BinOp} {x y : ByteArray} {t : TypeId} (hev : strOp op (x.data.toList.map UInt8.toNat) (y.data.toList.map UInt8.toNat) = some a) :
    ∃ v, (binOp op t (.string x) (.string y)).run P w = .ok v w ∧ VR μ a v := by
  have e1 : ∀ u v : ByteArray, leq (u.data.toList.map UInt8.toNat) (v.data.toList.map UInt8.toNat) = (u.toList == v.toList) := by
    intro u v
    rw [leq_eq, Go.ByteArray.toList_eq, Go.ByteArray.toList_eq, Bool.eq_iff_iff]
    simp only [decide_eq_true_eq, beq_iff_eq]
    exact ⟨map_inj, fun h => by rw [h]⟩
  have e2 : ∀ u v : ByteArray, llt (u.data.toList.map UInt8.toNat) (v.data.toList.map UInt8.toNat) = Op.bytesLess u.toList v.toList := by
    intro u v
    rw [llt_eq, Go.ByteArray.toList_eq, Go.ByteArray.toList_eq]
  cases op <;> simp only [strOp, e1, e2, bnot_eq] at hev
  case add =>
    obtain ⟨hb, hev⟩ := cnd_inv hev
    cases hev
    have hle := Nat.le_of_ble_eq_true hb
    simp only [List.length_map, Array.length_toList] at hle
    have hx : x.data.size = x.size := rfl
    have hy : y.data.size = y.size := rfl
    refine ⟨.string (x ++ y), ?_, ?_⟩
    · have hn : ¬ ((x.size + y.size : Nat) : Int) > IntKind.i64.max := by
        simp [IntKind.max, IntKind.signed, IntKind.bits]; omega
      show (Op.stringOp .add x y).run P w = _
      simp only [Op.stringOp]
      rw [if_neg hn]; rfl
    · simp only [VR]
      exact ⟨_, rfl, by simp⟩
  case leq =>
    cases hev
    refine ⟨_, rfl, ?_⟩
    simp only [VR]
    rw [less_tri]
  case geq => cases hev; exact ⟨_, rfl, by simp only [VR]⟩
  case gtr =>
    cases hev
    refine ⟨_, rfl, ?_⟩
    simp only [VR]
    rw [less_tri, Bool.not_not]
  case eql => cases hev; exact ⟨_, rfl, by simp only [VR]⟩
  case neq => cases hev; exact ⟨_, rfl, by simp only [VR]⟩
  case lss => cases hev; exact ⟨_, rfl, by simp only [VR]⟩
  all_goals cases hev

end
end Go.Ev


namespace Go.Ev
set_option linter.unusedVariables false

section
variable {E : Env} {P : Program} (hE : EnvOk E P) {B : Nat} {μ : Mu} {h : Hp} {w : World} (hH : HR B μ h w)
  {L : Lo} {ρ : Operand → Value} {q : Operand → Opd} (hq : ∀ x, VR μ (getO (q x) L) (ρ x))
  {d : Option Tmp} {ty : TypeId} {pos : String} {af : Array Edge} {gd : Option (Nat × Bool)} {a : AV}

theorem run_eqGuard_plain (op : BinOp) (t : TypeId) (x y : Operand) (u v : Value) (h1 : ¬(u = .nilIface ∧ v = .nilIface)) (h2 : ¬ ∃ c e, u = .agg c ∧ v = .agg e) :
    (eqGuard op t x y u v).run P w = .ok () w := by
  unfold eqGuard
  by_cases ho : (!(match op with | .eql => true | .neq => true | _ => false)) = true
  · rw [if_pos (by cases op <;> first | rfl | cases ho)]; rfl
  · rw [if_neg (by cases op <;> first | exact ho | (intro hh; exact ho rfl))]
    cases u <;> cases v <;> first
      | rfl
      | exact absurd ⟨rfl, rfl⟩ h1
      | exact absurd ⟨_, _, rfl, rfl⟩ h2

theorem run_bin_plain {op : BinOp} {t yt : TypeId} {x y : Operand} {v : Value} (h1 : ¬(ρ x = .nilIface ∧ ρ y = .nilIface)) (h2 : ¬ ∃ c e, ρ x = .agg c ∧ ρ y = .agg e)
    (hr : (binOp op t (ρ x) (ρ y)).run P w = .ok v w) : (execOp ρ ⟨d, .binOp op t x y yt, ty, pos, af, gd⟩).run P w = .ok (.value v) w := by
  refine run_val (s := do eqGuard op t x y (ρ x) (ρ y); binOp op t (ρ x) (ρ y)) ?_
  simp only [Sem.run_bind, run_eqGuard_plain op t x y _ _ h1 h2, Result.andThen_ok, hr]

include hq in
theorem q_rng {x : Operand} {k : IntKind} {lo hi : Int} (e : getO (q x) L = .rng k lo hi) : ∃ n, ρ x = .int k n ∧ lo ≤ n ∧ n ≤ hi := by
  have := hq x; rw [e] at this; simpa only [VR] using this
include hq in
theorem q_md {x : Operand} {m r : Nat} (e : getO (q x) L = .md m r) : ∃ n : Nat, ρ x = .int .i64 (n : Int) ∧ n % m = r := by
  have := hq x; rw [e] at this; simpa only [VR] using this

theorem cmp_bool {b : Bool} {c c' : Bool} {r : AV} (hc : c = true → b = true) (hc' : c' = true → b = false)
    (h : cnd c (some (.bool true)) (cnd c' (some (.bool false)) (some .ub)) = some r) : VR μ r (.bool b) := by
  cases c with
  | true => cases h; rw [hc rfl]; simp only [VR]
  | false =>
    cases c' with
    | true => cases h; rw [hc' rfl]; simp only [VR]
    | false => cases h; simp only [VR]; exact ⟨b, rfl⟩

theorem ibinR_sound {op : BinOp} {u v : AV} {x y : Value} {t : TypeId} (hx : VR μ u x) (hy : VR μ v y) (hev : ibinR op u v = some a) :
    (∃ k m, x = .int k m) ∧ ∃ r, (binOp op t x y).run P w = .ok r w ∧ VR μ a r := by
  unfold ibinR at hev
  split at hev
  · rename_i k lo hi l n
    simp only [VR] at hx hy
    obtain ⟨m, rfl, h1, h2⟩ := hx
    subst hy
    replace hev := cnd_inv hev
    have := keq_true hev.1; subst this
    replace hev := hev.2
    refine ⟨⟨_, _, rfl⟩, ?_⟩
    split at hev <;> try simp only [ilt_eq, ile_eq] at hev
    · exact ⟨_, by simp only [binOp, ne_eq, not_true_eq_false, if_false, Op.intCmp]; rfl, cmp_bool (b := decide (m < n)) (fun hc => by simp at hc ⊢; omega) (fun hc => by simp at hc ⊢; omega) hev⟩
    · exact ⟨_, by simp only [binOp, ne_eq, not_true_eq_false, if_false, Op.intCmp]; rfl, cmp_bool (b := decide (m ≤ n)) (fun hc => by simp at hc ⊢; omega) (fun hc => by simp at hc ⊢; omega) hev⟩
    · exact ⟨_, by simp only [binOp, ne_eq, not_true_eq_false, if_false, Op.intCmp]; rfl, cmp_bool (b := decide (m > n)) (fun hc => by simp at hc ⊢; omega) (fun hc => by simp at hc ⊢; omega) hev⟩
    · exact ⟨_, by simp only [binOp, ne_eq, not_true_eq_false, if_false, Op.intCmp]; rfl, cmp_bool (b := decide (m ≥ n)) (fun hc => by simp at hc ⊢; omega) (fun hc => by simp at hc ⊢; omega) hev⟩
    · cases hev
  · rename_i l n k lo hi
    simp only [VR] at hx hy
    obtain ⟨m, rfl, h1, h2⟩ := hy
    subst hx
    replace hev := cnd_inv hev
    have := keq_true hev.1; subst this
    replace hev := hev.2
    refine ⟨⟨_, _, rfl⟩, ?_⟩
    split at hev <;> try simp only [ilt_eq, ile_eq] at hev
    · exact ⟨_, by simp only [binOp, ne_eq, not_true_eq_false, if_false, Op.intCmp]; rfl, cmp_bool (b := decide (n < m)) (fun hc => by simp at hc ⊢; omega) (fun hc => by simp at hc ⊢; omega) hev⟩
    · exact ⟨_, by simp only [binOp, ne_eq, not_true_eq_false, if_false, Op.intCmp]; rfl, cmp_bool (b := decide (n ≤ m)) (fun hc => by simp at hc ⊢; omega) (fun hc => by simp at hc ⊢; omega) hev⟩
    · cases hev
  · rename_i m r l n
    simp only [VR] at hx hy
    obtain ⟨p, rfl, hp⟩ := hx
    subst hy
    replace hev := cnd_inv hev
    have := keq_true hev.1; subst this
    replace hev := hev.2
    refine ⟨⟨_, _, rfl⟩, ?_⟩
    split at hev
    · obtain ⟨hle, hev⟩ := cnd_inv hev
      rw [ile_eq] at hle
      have hle' : n ≤ 0 := by simpa using hle
      cases hev
      refine ⟨_, by simp only [binOp, ne_eq, not_true_eq_false, if_false, Op.intCmp]; rfl, ?_⟩
      simp only [VR]
      rw [Value.bool.injEq]
      simp; omega
    · obtain ⟨heq, hev⟩ := cnd_inv hev
      rw [ieq_eq] at heq
      have heq' : n = (m : Int) := by simpa using heq
      obtain ⟨hpos, hev⟩ := cnd_inv hev
      have hpos' : 0 < m := by simpa using hpos
      cases hev
      subst heq'
      have hm0 : (m : Int) ≠ 0 := by omega
      refine ⟨.int .i64 ((p : Int).tmod m), by simp [binOp, Op.intDiv]; omega, ?_⟩
      simp only [VR]
      rw [← hp]; rfl
    · cases hev
  · cases hev

include hq in
theorem p_ibin {op : BinOp} {t yt : TypeId} {x y : Operand} (hev : xIbin op (q x) (q y) h L = some a) : Gives P ρ w μ ⟨d, .binOp op t x y yt, ty, pos, af, gd⟩ a := by
  have fin : ∀ v, (∃ k m, ρ x = .int k m) → (binOp op t (ρ x) (ρ y)).run P w = .ok v w → VR μ a v → Gives P ρ w μ ⟨d, .binOp op t x y yt, ty, pos, af, gd⟩ a := by
    rintro v ⟨k, m, hx⟩ hr hv
    exact ⟨v, run_bin_plain (by rw [hx]; simp) (by rw [hx]; simp) hr, hv⟩
  have viaR : ibinR op (getO (q x) L) (getO (q y) L) = some a → Gives P ρ w μ ⟨d, .binOp op t x y yt, ty, pos, af, gd⟩ a := by
    intro hr
    obtain ⟨hi, r, hrun, hv⟩ := ibinR_sound (P := P) (w := w) (t := t) (hq x) (hq y) hr
    exact fin r hi hrun hv
  unfold xIbin at hev
  cases hx : getO (q x) L with
  | int k m =>
    rw [hx] at hev
    change asInt (getO (q y) L) _ _ = _ at hev
    cases hy : getO (q y) L with
    | int l n =>
      rw [hy] at hev
      change cnd (isSh op) _ _ = _ at hev
      have ex := q_int hq hx
      have ey := q_int hq hy
      cases hs : isSh op with
      | true =>
        rw [hs] at hev
        obtain ⟨v, hr, hv⟩ := ishift_sound (P := P) (w := w) (l := l) (t := t) (μ := μ) hs hev
        exact fin v ⟨_, _, ex⟩ (by rw [ex, ey]; exact hr) hv
      | false =>
        rw [hs] at hev
        replace hev : cnd (keq k l) (iarith op k m n) none = some a := hev
        replace hev := cnd_inv hev
        have := keq_true hev.1; subst this
        replace hev := hev.2
        obtain ⟨v, hr, hv⟩ := iarith_sound (P := P) (w := w) (t := t) (μ := μ) hs hev
        exact fin v ⟨_, _, ex⟩ (by rw [ex, ey]; exact hr) hv
    | _ => rw [hy] at hev; rw [hx, hy] at viaR; exact viaR hev
  | str s =>
    rw [hx] at hev
    change asStr (getO (q y) L) _ _ = _ at hev
    obtain ⟨s', hy, hev⟩ := asStr_some hev
    obtain ⟨b, ex, hb⟩ := q_str hq hx
    obtain ⟨b', ey, hb'⟩ := q_str hq hy
    subst hb hb'
    obtain ⟨v, hr, hv⟩ := strOp_sound (P := P) (w := w) (t := t) (μ := μ) hev
    exact ⟨v, run_bin_plain (by rw [ex]; simp) (by rw [ex]; simp) (by rw [ex, ey]; exact hr), hv⟩
  | _ => rw [hx] at hev; rw [hx] at viaR; exact viaR hev

end
end Go.Ev


namespace Go.Ev
set_option linter.unusedVariables false
set_option linter.unusedSectionVars false

section
variable {E : Env} {P : Program} (hE : EnvOk E P) {B : Nat} {μ : Mu} {h : Hp} {w : World} (hH : HR B μ h w)
  {L : Lo} {ρ : Operand → Value} {q : Operand → Opd} (hq : ∀ x, VR μ (getO (q x) L) (ρ x))
  {d : Option Tmp} {ty : TypeId} {pos : String} {af : Array Edge} {gd : Option (Nat × Bool)} {a : AV}

include hq in
theorem p_un {op : UnOp} {t : TypeId} {x : Operand} (hev : xUn op (q x) h L = some a) : Gives P ρ w μ ⟨d, .unOp op t x, ty, pos, af, gd⟩ a := by
  unfold xUn at hev
  split at hev
  · rename_i k n hx
    rw [mkInt_eq] at hev
    cases hev
    have ex := q_int hq hx
    refine ⟨.int k (k.wrap (0 - n)), run_val (s := Op.unary .neg (ρ x)) ?_, by simp only [VR]; rfl⟩
    rw [ex]; rfl
  · rename_i k n hx
    cases hev
    have ex := q_int hq hx
    refine ⟨_, run_val (s := Op.unary .xor (ρ x)) (v := .int k (k.wrap (BitVec.ofInt k.bits (if k.signed then -1 else k.max) ^^^ BitVec.ofInt k.bits n).toNat)) ?_, by simp only [VR]⟩
    rw [ex]; rfl
  · rename_i b hx
    cases hev
    have ex := q_bool hq hx
    refine ⟨.bool (!b), run_val (s := Op.unary .not (ρ x)) ?_, by simp only [VR, bnot_eq]⟩
    rw [ex]; rfl
  · rename_i hx
    cases hev
    have := hq x
    rw [hx] at this
    simp only [VR] at this
    obtain ⟨b, ex⟩ := this
    refine ⟨.bool (!b), run_val (s := Op.unary .not (ρ x)) ?_, by simp only [VR]; exact ⟨_, rfl⟩⟩
    rw [ex]; rfl
  · cases hev

/-- a call of a builtin that hands back a value -/
theorem run_builtin {b : Builtin} {xs : Array Operand} {ats : Array TypeId} {v : Value} {s : Sem Value} {w' : World}
    (hb : builtin b ats ty (xs.map fun | .const _ => true | _ => false) (xs.map ρ) = (do pure (Next.value (← s)))) (hs : s.run P w = .ok v w') :
    (execOp ρ ⟨d, .call { callee := .builtin b, args := xs, argTypes := ats }, ty, pos, af, gd⟩).run P w = .ok (.value v) w' := by
  show (do let d ← resolve ρ { callee := .builtin b, args := xs, argTypes := ats } ty; invoke d.target d.args).run P w = _
  have : resolve ρ { callee := .builtin b, args := xs, argTypes := ats } ty = pure { target := .builtin b ats ty (xs.map fun | .const _ => true | _ => false), args := xs.map ρ } := rfl
  rw [this]
  simp only [Sem.run_bind, Sem.run_pure, Result.andThen_ok, invoke]
  show (builtin b ats ty _ _).run P w = _
  rw [hb]
  exact run_val hs

theorem head_args {xs : Array Operand} {x : Operand} {l : List Operand} (hx : xs.toList = x :: l) : (xs.map ρ)[0]? = some (ρ x) := by
  rw [← Array.getElem?_toList]; simp [hx]
theorem head_types {ts : Array TypeId} {t : TypeId} {l : List TypeId} (ht : ts.toList = t :: l) : ts[0]? = some t := by
  rw [← Array.getElem?_toList]; simp [ht]

include hE hq in
theorem p_lenStr {xs : Array Operand} {ats : Array TypeId} {x : Operand} {l : List Operand} {t : TypeId} {ts : List TypeId} (hx : xs.toList = x :: l) (ht : ats.toList = t :: ts)
    (hu : E.und t = some .string) (hev : xLenStr (q x) h L = some a) : Gives P ρ w μ ⟨d, .call { callee := .builtin .len, args := xs, argTypes := ats }, ty, pos, af, gd⟩ a := by
  obtain ⟨s, hs, hev⟩ := asStr_some hev
  rw [natF_eq] at hev
  cases hev
  obtain ⟨b, ex, hb⟩ := q_str hq hs
  refine ⟨goInt b.size, run_builtin rfl (s := Builtin.len_ ats ty (xs.map ρ)) ?_, ?_⟩
  · simp only [Builtin.len_, head_args hx, head_types ht, Sem.run_bind, hE.runUnd hu, Result.andThen_ok, ex]; rfl
  · simp only [VR, ← hb, List.length_map, Array.length_toList]; rfl

include hE hq in
theorem p_lenSl {xs : Array Operand} {ats : Array TypeId} {x : Operand} {l : List Operand} {t el : TypeId} {ts : List TypeId} (hx : xs.toList = x :: l) (ht : ats.toList = t :: ts)
    (hu : E.und t = some (.slice el)) (hev : xLenSl (q x) h L = some a) : Gives P ρ w μ ⟨d, .call { callee := .builtin .len, args := xs, argTypes := ats }, ty, pos, af, gd⟩ a := by
  unfold xLenSl at hev
  have fin : ∀ b n c, ρ x = .slice b n c → a = .int .i64 (.ofNat n) → Gives P ρ w μ ⟨d, .call { callee := .builtin .len, args := xs, argTypes := ats }, ty, pos, af, gd⟩ a := by
    rintro b n c ex rfl
    refine ⟨goInt n, run_builtin rfl (s := Builtin.len_ ats ty (xs.map ρ)) ?_, by simp only [VR]; rfl⟩
    simp only [Builtin.len_, head_args hx, head_types ht, Sem.run_bind, hE.runUnd hu, Result.andThen_ok, ex]; rfl
  cases hs : getO (q x) L with
  | slice f g o n c s e =>
    rw [hs] at hev
    obtain ⟨b, s', m, a', c', hm, ex, _⟩ := q_slice hq hs
    exact fin _ _ _ ex (by cases hev; rfl)
  | slice0 =>
    rw [hs] at hev
    have := hq x; rw [hs] at this; simp only [VR] at this
    exact fin _ _ _ this (by cases hev; rfl)
  | sl lo hi =>
    rw [hs] at hev
    have := hq x; rw [hs] at this; simp only [VR] at this
    obtain ⟨b, n, c, ex, hn0, hn⟩ := this
    cases hev
    refine ⟨goInt n, run_builtin rfl (s := Builtin.len_ ats ty (xs.map ρ)) ?_, by simp only [VR]; exact ⟨n, rfl, by simp; omega, by simp; omega⟩⟩
    simp only [Builtin.len_, head_args hx, head_types ht, Sem.run_bind, hE.runUnd hu, Result.andThen_ok, ex]; rfl
  | _ => rw [hs] at hev; cases hev

include hE in
theorem p_lenArr {xs : Array Operand} {ats : Array TypeId} {x : Operand} {l : List Operand} {t el : TypeId} {n : Nat} {ts : List TypeId} (hx : xs.toList = x :: l) (ht : ats.toList = t :: ts)
    (hu : E.und t = some (.array n el)) (hev : xLenC n h L = some a) : Gives P ρ w μ ⟨d, .call { callee := .builtin .len, args := xs, argTypes := ats }, ty, pos, af, gd⟩ a := by
  cases hev
  refine ⟨goInt n, run_builtin rfl (s := Builtin.len_ ats ty (xs.map ρ)) ?_, by simp only [VR]; rfl⟩
  simp only [Builtin.len_, head_args hx, head_types ht, Sem.run_bind, hE.runUnd hu, Result.andThen_ok]
  rfl

include hE in
theorem p_lenPArr {xs : Array Operand} {ats : Array TypeId} {x : Operand} {l : List Operand} {t t' el : TypeId} {n : Nat} {ts : List TypeId} (hx : xs.toList = x :: l) (ht : ats.toList = t :: ts)
    (hu : E.und t = some (.pointer t')) (hu' : E.und t' = some (.array n el)) (hev : xLenC n h L = some a) : Gives P ρ w μ ⟨d, .call { callee := .builtin .len, args := xs, argTypes := ats }, ty, pos, af, gd⟩ a := by
  cases hev
  refine ⟨goInt n, run_builtin rfl (s := Builtin.len_ ats ty (xs.map ρ)) ?_, by simp only [VR]; rfl⟩
  simp only [Builtin.len_, head_args hx, head_types ht, Sem.run_bind, hE.runUnd hu, hE.runUnd hu', Result.andThen_ok]
  rfl

include hE hq in
theorem p_capSl {xs : Array Operand} {ats : Array TypeId} {x : Operand} {l : List Operand} {t el : TypeId} {ts : List TypeId} (hx : xs.toList = x :: l) (ht : ats.toList = t :: ts)
    (hu : E.und t = some (.slice el)) (hev : xCapSl (q x) h L = some a) : Gives P ρ w μ ⟨d, .call { callee := .builtin .cap, args := xs, argTypes := ats }, ty, pos, af, gd⟩ a := by
  obtain ⟨f, g, o, n, c, s, e, hs, hev⟩ := asSlice_some hev
  obtain ⟨b, s', m, a', c', hm, ex, _, _, he, _⟩ := q_slice hq hs
  obtain ⟨rfl, hev⟩ := cnd_inv hev
  cases hev
  have := he rfl; subst this
  refine ⟨goInt c', run_builtin rfl (s := Builtin.cap_ ats ty (xs.map ρ)) ?_, by simp only [VR]; rfl⟩
  simp only [Builtin.cap_, head_args hx, head_types ht, Sem.run_bind, hE.runUnd hu, Result.andThen_ok, ex]
  rfl

include hq in
theorem p_nilck {x : Operand} (hev : xNilck (q x) h L = some a) : Gives P ρ w μ ⟨d, .nilCheck x, ty, pos, af, gd⟩ a := by
  unfold xNilck at hev
  have hx := hq x
  cases hs : getO (q x) L with
  | ptr f g o =>
    rw [hs] at hev
    cases hev
    obtain ⟨b, s, n, hm, hle, ex⟩ := q_ptr hq hs
    refine ⟨ρ x, ?_, by rw [hs] at hx; exact hx⟩
    show (match ρ x with | .pointer none | .nilIface | .nilFunc => runtimePanic .nilDeref | .func (.method name) first captured => _ | x => pure (.value x) : Sem Next).run P w = _
    rw [ex]; rfl
  | iface t v =>
    rw [hs] at hev
    cases hev
    obtain ⟨y, ex, hy⟩ := q_iface hq hs
    refine ⟨ρ x, ?_, by rw [hs] at hx; exact hx⟩
    show (match ρ x with | .pointer none | .nilIface | .nilFunc => runtimePanic .nilDeref | .func (.method name) first captured => _ | x => pure (.value x) : Sem Next).run P w = _
    rw [ex]; rfl
  | func fn f c =>
    rw [hs] at hev hx
    simp only [VR] at hx
    obtain ⟨F, fs, cs, ex, hF, h1, h2⟩ := hx
    have hn : ∀ nm, F ≠ .method nm := by
      rintro nm rfl
      cases fn with
      | fn f' => cases hF; cases hev
      | yield l => obtain ⟨b, s, n, _, hh⟩ := hF; cases hh
    have ha : a = .func fn f c := by
      cases fn with
      | fn f' => cases f' <;> first | (cases hev; rfl) | cases hev
      | yield l => cases hev; rfl
    subst ha
    refine ⟨ρ x, ?_, by simp only [VR]; exact ⟨F, fs, cs, ex, hF, h1, h2⟩⟩
    show (match ρ x with | .pointer none | .nilIface | .nilFunc => runtimePanic .nilDeref | .func (.method name) first captured => _ | x => pure (.value x) : Sem Next).run P w = _
    rw [ex]
    cases F <;> first | rfl | exact absurd rfl (hn _)
  | _ => rw [hs] at hev; cases hev

end
end Go.Ev


namespace Go.Ev
set_option linter.unusedVariables false
set_option linter.unusedSectionVars false

theorem bnd_some {R : Type} {x : Option Opd} {L : Lo} {dflt : Nat} {k : Nat → Option R} {r : R} (hh : bnd x L dflt none k = some r) :
    (x = none ∧ k dflt = some r) ∨ ∃ o kk n, x = some o ∧ getO o L = .int kk (.ofNat n) ∧ k n = some r := by
  cases x with
  | none => exact .inl ⟨rfl, hh⟩
  | some o =>
    obtain ⟨kk, n, h1, h2⟩ := asInt_some (show asInt (getO o L) none _ = some r from hh)
    rw [icase_eq] at h2
    cases n with
    | ofNat i => exact .inr ⟨o, kk, i, rfl, h1, h2⟩
    | negSucc i => cases h2

section
variable {E : Env} {P : Program} (hE : EnvOk E P) {B : Nat} {μ : Mu} {h : Hp} {w : World} (hH : HR B μ h w)
  {L : Lo} {ρ : Operand → Value} {q : Operand → Opd} (hq : ∀ x, VR μ (getO (q x) L) (ρ x))
  {d : Option Tmp} {ty : TypeId} {pos : String} {af : Array Edge} {gd : Option (Nat × Bool)} {a : AV}

/-- what a bound of a slice expression comes to -/
def Bd (ρ : Operand → Value) (x : Option Operand) (dflt n : Nat) : Prop := (x = none ∧ n = dflt) ∨ ∃ o k, x = some o ∧ ρ o = .int k (Int.ofNat n)
include hq in
theorem bnd_q {R : Type} {x : Option Operand} {dflt : Nat} {k : Nat → Option R} {r : R} (hh : bnd (x.map q) L dflt none k = some r) : ∃ n, Bd ρ x dflt n ∧ k n = some r := by
  rcases bnd_some hh with ⟨h1, h2⟩ | ⟨o, kk, n, h1, h2, h3⟩
  · cases x with
    | none => exact ⟨dflt, .inl ⟨rfl, rfl⟩, h2⟩
    | some o => cases h1
  · cases x with
    | none => cases h1
    | some o' =>
      simp only [Option.map_some, Option.some.injEq] at h1
      subst h1
      exact ⟨n, .inr ⟨o', kk, rfl, q_int hq h2⟩, h3⟩

theorem run_bound {k : IntKind} {n y : Nat} {c : BoundsCode} (hn : n ≤ y) : (Instr.sliceBound (.int k (n : Int)) y c).run P w = .ok n w := by
  simp only [Instr.sliceBound, asIntOf, Sem.run_bind, Sem.run_pure, Result.andThen_ok, Sem.run_ite]
  rw [if_pos ⟨by simp, by simpa using hn⟩]
  rfl

/-- the three bounds -/
theorem run_bounds {isSl : Bool} {len cap l hh m : Nat} {lo hi mx : Option Operand} (h1 : Bd ρ lo 0 l) (h2 : Bd ρ hi len hh) (h3 : Bd ρ mx cap m)
    (hb1 : l ≤ hh) (hb2 : hh ≤ m) (hb3 : m ≤ cap) (hn : ¬ (hi = none ∧ mx.isSome = true)) :
    (Instr.sliceBounds isSl len cap (lo.map ρ) (hi.map ρ) (mx.map ρ)).run P w = .ok (l, hh, m) w := by
  rcases h3 with ⟨rfl, rfl⟩ | ⟨o3, k3, rfl, e3⟩
  · rcases h2 with ⟨rfl, rfl⟩ | ⟨o2, k2, rfl, e2⟩
    · rcases h1 with ⟨rfl, rfl⟩ | ⟨o1, k1, rfl, e1⟩
      · simp [Instr.sliceBounds]
      · simp [Instr.sliceBounds, e1, run_bound hb1]
    · rcases h1 with ⟨rfl, rfl⟩ | ⟨o1, k1, rfl, e1⟩
      · simp [Instr.sliceBounds, e2, run_bound hb2]
      · simp [Instr.sliceBounds, e1, e2, run_bound hb1, run_bound hb2]
  · rcases h2 with ⟨rfl, rfl⟩ | ⟨o2, k2, rfl, e2⟩
    · exact absurd ⟨rfl, rfl⟩ hn
    · rcases h1 with ⟨rfl, rfl⟩ | ⟨o1, k1, rfl, e1⟩
      · simp [Instr.sliceBounds, e2, e3, run_bound hb2, run_bound hb3]
      · simp [Instr.sliceBounds, e1, e2, e3, run_bound hb1, run_bound hb2, run_bound hb3]


include hE hq in
theorem p_sliceStr {t : TypeId} {x : Operand} {lo hi : Option Operand} (hu : E.und t = some .string) (hev : xSliceStr (q x) (lo.map q) (hi.map q) h L = some a) :
    Gives P ρ w μ ⟨d, .slice t x lo hi none, ty, pos, af, gd⟩ a := by
  obtain ⟨s, hs, hev⟩ := asStr_some hev
  obtain ⟨l, h1, hev⟩ := bnd_q hq hev
  obtain ⟨hh, h2, hev⟩ := bnd_q hq hev
  obtain ⟨hb2, hev⟩ := cnd_inv hev
  obtain ⟨hb1, hev⟩ := cnd_inv hev
  cases hev
  obtain ⟨b, ex, hb⟩ := q_str hq hs
  have l1 := Nat.le_of_ble_eq_true hb1
  have l2 := Nat.le_of_ble_eq_true hb2
  have hsz : s.length = b.size := by rw [← hb]; simp
  rw [hsz] at h2 l2
  refine ⟨.string (b.extract l hh), run_val (s := Instr.sliceAt t (ρ x) (lo.map ρ) (hi.map ρ) none) ?_, ?_⟩
  · have hr := run_bounds (P := P) (w := w) (isSl := false) (mx := none) h1 h2 (.inl ⟨rfl, rfl⟩) l1 l2 (Nat.le_refl _) (by simp)
    simp only [Option.map_none] at hr
    rw [ex]
    simp only [Instr.sliceAt, Sem.run_bind, hE.runUnd hu, Result.andThen_ok, Instr.slice, Option.isSome_none, Bool.false_eq_true, if_false, hr, Sem.run_pure]
  · simp only [VR]
    refine ⟨_, rfl, ?_⟩
    rw [← hb]
    simp [List.map_take, List.map_drop, List.take_drop]
    rw [show l + (hh - l) = hh from by omega]


/-- a slice cut out of a slice -/
theorem cutSl_sound {f : Key} {g o len cap sz : Nat} {ex full : Bool} {l hh m : Nat} {b s n x c mc : Nat} (hev : cutSl f g o len cap sz ex l hh m full = some a)
    (hm : μ f g = some (b, s, n)) (hcap : cap ≤ c) (hex : ex = true → c = cap) (hpl : (s ≤ o ∧ x = o - s ∧ x + c * sz ≤ n) ∨ c = 0)
    (hmc : mc = if full then m else c) :
    l ≤ hh ∧ hh ≤ m ∧ m ≤ cap ∧ VR μ a (.slice (if mc = l then some ⟨b, x, none⟩ else some ((⟨b, x, none⟩ : Addr).add (l * sz))) (hh - l) (mc - l)) := by
  obtain ⟨h1, hev⟩ := cnd_inv hev
  obtain ⟨h2, hev⟩ := cnd_inv hev
  obtain ⟨h3, hev⟩ := cnd_inv hev
  have l1 := Nat.le_of_ble_eq_true h1
  have l2 := Nat.le_of_ble_eq_true h2
  have l3 := Nat.le_of_ble_eq_true h3
  refine ⟨l1, l2, l3, ?_⟩
  have hadd : (⟨b, x, none⟩ : Addr).add (l * sz) = ⟨b, x + l * sz, none⟩ := by
    unfold Addr.add
    split
    · rename_i h0; rw [h0]; rfl
    · rfl
  rw [hadd]
  have hmcm : m ≤ mc ∧ mc ≤ c := by subst hmc; split <;> omega
  have place : ∀ (p : Nat), (if mc = l then some (⟨b, x, none⟩ : Addr) else some ⟨b, x + l * sz, none⟩) = some ⟨b, (if mc = l then x else x + l * sz), none⟩ := by
    intro _; split <;> rfl
  rw [place 0]
  have main : ∀ (cp : Nat) (e : Bool), a = .slice f g (Nat.add o (Nat.mul l sz)) (Nat.sub hh l) cp sz e → hh - l ≤ cp → cp ≤ mc - l → (e = true → mc - l = cp) →
      VR μ a (.slice (some ⟨b, (if mc = l then x else x + l * sz), none⟩) (hh - l) (mc - l)) := by
    rintro cp e rfl p1 p2 p3
    simp only [VR]
    refine ⟨b, s, n, _, mc - l, hm, rfl, p1, p2, p3, ?_⟩
    by_cases hml : mc = l
    · right; exact ⟨show hh - l = 0 by omega, by omega⟩
    · rcases hpl with ⟨q1, q2, q3⟩ | q
      · left
        rw [if_neg hml]
        refine ⟨by show s ≤ o + l * sz; omega, by show _ = o + l * sz - s; omega, ?_⟩
        have : l * sz + (mc - l) * sz = mc * sz := by rw [← Nat.add_mul]; congr 1; omega
        have := Nat.mul_le_mul_right sz hmcm.2
        omega
      · omega
  cases full with
  | true =>
    have ha : a = .slice f g (Nat.add o (Nat.mul l sz)) (Nat.sub hh l) (Nat.sub m l) sz true := by
      have : some _ = some a := hev
      exact (Option.some.inj this).symm
    have hmc' : mc = m := by simpa using hmc
    exact main (m - l) true ha (by omega) (by omega) (fun _ => by omega)
  | false =>
    have ha : a = .slice f g (Nat.add o (Nat.mul l sz)) (Nat.sub hh l) (Nat.sub cap l) sz ex := by
      have : some _ = some a := hev
      exact (Option.some.inj this).symm
    have hmc' : mc = c := by simpa using hmc
    exact main (cap - l) ex ha (by omega) (by omega) (fun he => by have := hex he; omega)

include hE hq in
theorem p_sliceSl {t el : TypeId} {n : Nat} {x : Operand} {lo hi mx : Option Operand} (hu : E.und t = some (.slice el)) (hsz : E.size el = some n) (hn : ¬ (hi = none ∧ mx.isSome = true))
    (hev : xSliceSl n (q x) (lo.map q) (hi.map q) (mx.map q) h L = some a) : Gives P ρ w μ ⟨d, .slice t x lo hi mx, ty, pos, af, gd⟩ a := by
  unfold xSliceSl at hev
  cases hs : getO (q x) L with
  | slice f g o len cap sz ex =>
    rw [hs] at hev
    replace hev := cnd_inv (show cnd (Nat.beq n sz) _ none = some a from hev)
    have hnz : n = sz := Nat.eq_of_beq_eq_true hev.1
    subst hnz
    obtain ⟨l, b1, hev⟩ := bnd_q hq hev.2
    obtain ⟨hh, b2, hev⟩ := bnd_q hq hev
    obtain ⟨m, b3, hev⟩ := bnd_q hq hev
    obtain ⟨b, s, k, x0, c, hm, ex', hl, hc, he, hp⟩ := q_slice hq hs
    have hfull : (mx.map q).isSome = mx.isSome := by cases mx <;> rfl
    rw [hfull] at hev
    obtain ⟨c1, c2, c3, hv⟩ := cutSl_sound (mc := if mx.isSome then m else c) hev hm hc he (hp.imp id And.right) rfl
    refine ⟨_, run_val (s := Instr.sliceAt t (ρ x) (lo.map ρ) (hi.map ρ) (mx.map ρ)) ?_, hv⟩
    have b3' : Bd ρ mx c (if mx.isSome then m else c) := by
      rcases b3 with ⟨rfl, rfl⟩ | ⟨o3, k3, rfl, e3⟩
      · exact .inl ⟨rfl, rfl⟩
      · exact .inr ⟨o3, k3, rfl, e3⟩
    have hmle : hh ≤ (if mx.isSome then m else c) ∧ (if mx.isSome then m else c) ≤ c := by split <;> omega
    have hr := run_bounds (P := P) (w := w) (isSl := true) b1 b2 b3' c1 hmle.1 hmle.2 hn
    rw [ex']
    simp only [Instr.sliceAt, Sem.run_bind, hE.runUnd hu, Result.andThen_ok, Instr.slice, hr, hE.runSize hsz, Sem.run_pure]
    congr 2
  | slice0 =>
    rw [hs] at hev
    replace hev : bnd (lo.map q) L 0 none (fun l => bnd (hi.map q) L 0 none fun hh => bnd (mx.map q) L 0 none fun m => cnd (Nat.beq (l + hh + m) 0) (some .slice0) none) = some a := hev
    obtain ⟨l, b1, hev⟩ := bnd_q hq hev
    obtain ⟨hh, b2, hev⟩ := bnd_q hq hev
    obtain ⟨m, b3, hev⟩ := bnd_q hq hev
    obtain ⟨h0, hev⟩ := cnd_inv hev
    have z := Nat.eq_of_beq_eq_true h0
    have z1 : l = 0 := by omega
    have z2 : hh = 0 := by omega
    have z3 : m = 0 := by omega
    subst z1 z2 z3
    cases hev
    have ex := hq x
    rw [hs] at ex
    simp only [VR] at ex
    have hr := run_bounds (P := P) (w := w) (isSl := true) b1 b2 b3 (Nat.le_refl _) (Nat.le_refl _) (Nat.le_refl _) hn
    refine ⟨.slice none 0 0, run_val (s := Instr.sliceAt t (ρ x) (lo.map ρ) (hi.map ρ) (mx.map ρ)) ?_, by simp only [VR]⟩
    rw [ex]
    simp only [Instr.sliceAt, Sem.run_bind, hE.runUnd hu, Result.andThen_ok, Instr.slice, hr, hE.runSize hsz, Sem.run_pure]
    rfl
  | _ => rw [hs] at hev; cases hev

end
end Go.Ev


namespace Go.Ev
set_option linter.unusedVariables false
set_option linter.unusedSectionVars false

section
variable {E : Env} {P : Program} (hE : EnvOk E P) {B : Nat} {μ : Mu} {h : Hp} {w : World} (hH : HR B μ h w)
  {L : Lo} {ρ : Operand → Value} {q : Operand → Opd} (hq : ∀ x, VR μ (getO (q x) L) (ρ x))
  {d : Option Tmp} {ty : TypeId} {pos : String} {af : Array Edge} {gd : Option (Nat × Bool)} {a : AV}

include hq in
theorem idx_q {R : Type} {ix : Operand} {k : Nat → Option R} {r : R} (hh : idx (q ix) L none k = some r) : ∃ kk i, ρ ix = .int kk (i : Nat) ∧ k i = some r := by
  obtain ⟨kk, i, h1, h2⟩ := idx_some hh
  exact ⟨kk, i, q_int hq h1, h2⟩

theorem add_zero_spot (b x n : Nat) : (⟨b, x, none⟩ : Addr).add n = ⟨b, x + n, none⟩ := by
  unfold Addr.add
  split
  · rename_i h0; rw [h0]; rfl
  · rfl

include hE hq in
theorem p_idxSl {t el : TypeId} {n : Nat} {x ix : Operand} (hu : E.und t = some (.slice el)) (hsz : E.size el = some n) (hev : xIdxSl n (q x) (q ix) h L = some a) :
    Gives P ρ w μ ⟨d, .indexAddr t x ix, ty, pos, af, gd⟩ a := by
  obtain ⟨f, g, o, len, cap, sz, ex, hs, hev⟩ := asSlice_some hev
  obtain ⟨kk, i, ei, hev⟩ := idx_q hq hev
  obtain ⟨hc, hev⟩ := cnd_inv hev
  have hnz : n = sz := by
    cases hb : Nat.beq n sz with
    | true => exact Nat.eq_of_beq_eq_true hb
    | false => rw [hb] at hc; cases hc
  subst hnz
  have hlt : i < len := by
    cases hb : Nat.blt i len with
    | true => simpa using hb
    | false => rw [hb] at hc; cases hh : Nat.beq n n <;> rw [hh] at hc <;> cases hc
  rw [natF_eq] at hev
  cases hev
  obtain ⟨b, s, k, x0, c, hm, ex', hl, hcp, he, hp⟩ := q_slice hq hs
  have hp' : s ≤ o ∧ x0 = o - s := by
    rcases hp with ⟨p1, p2, p3⟩ | ⟨p1, p2⟩
    · exact ⟨p1, p2⟩
    · omega
  refine ⟨.pointer (some ⟨b, o + i * n - s, none⟩), run_val (s := Instr.indexAt t (ρ x) (ρ ix)) ?_, ?_⟩
  · rw [ex', ei]
    simp only [Instr.indexAt, asIntOf, Sem.run_bind, Sem.run_pure, Result.andThen_ok, hE.runUnd hu, hE.runSize hsz, Sem.run_ite]
    rw [if_pos ⟨by omega, by omega⟩]
    simp only [Sem.run_bind, Result.andThen_ok, Sem.run_pure, hE.runSize hsz, add_zero_spot, Int.toNat_natCast]
    rw [hp'.2, show o - s + i * n = o + i * n - s from by omega]
  · simp only [VR]; exact ⟨b, s, k, hm, by show s ≤ o + i * n; omega, rfl⟩

include hE hq in
theorem p_idxArr {t el : TypeId} {n sz : Nat} {x ix : Operand} (hu : E.und t = some (.array n el)) (hsz : E.size el = some sz) (hev : xIdxArr n sz (q x) (q ix) h L = some a) :
    Gives P ρ w μ ⟨d, .indexAddr t x ix, ty, pos, af, gd⟩ a := by
  obtain ⟨f, g, o, hs, hev⟩ := asPtr_some hev
  obtain ⟨kk, i, ei, hev⟩ := idx_q hq hev
  obtain ⟨hc, hev⟩ := cnd_inv hev
  have hlt : i < n := by simpa using hc
  rw [natF_eq] at hev
  cases hev
  obtain ⟨b, s, k, hm, hle, ex'⟩ := q_ptr hq hs
  refine ⟨.pointer (some ⟨b, o + i * sz - s, none⟩), run_val (s := Instr.indexAt t (ρ x) (ρ ix)) ?_, ?_⟩
  · rw [ex', ei]
    simp only [Instr.indexAt, asIntOf, Instr.sureAddr, Sem.run_bind, Sem.run_pure, Result.andThen_ok, hE.runUnd hu, hE.runSize hsz, Sem.run_ite]
    rw [if_pos ⟨by omega, by omega⟩]
    simp only [Sem.run_bind, Result.andThen_ok, Sem.run_pure, hE.runSize hsz, add_zero_spot, Int.toNat_natCast]
    rw [show o - s + i * sz = o + i * sz - s from by omega]
  · simp only [VR]; exact ⟨b, s, k, hm, by show s ≤ o + i * sz; omega, rfl⟩

theorem nthN_eq {R : Type} (k : Nat → Option R) : ∀ (l : List Nat) (i : Nat), nthN none k l i = match l[i]? with | some b => k b | none => none
  | [], i => by simp [nthN]
  | b :: l, 0 => rfl
  | b :: l, i + 1 => by show nthN none k l i = _; rw [nthN_eq k l i]; rfl

include hE hq in
theorem p_idxStr {t : TypeId} {x ix : Operand} (hu : E.und t = some .string) (hev : xIdxStr (q x) (q ix) h L = some a) :
    Gives P ρ w μ ⟨d, .index t x ix, ty, pos, af, gd⟩ a := by
  obtain ⟨s, hs, hev⟩ := asStr_some hev
  obtain ⟨kk, i, ei, hev⟩ := idx_q hq hev
  rw [nthN_eq] at hev
  obtain ⟨b, ex', hb⟩ := q_str hq hs
  split at hev
  · rename_i c hc
    cases hev
    rw [← hb] at hc
    have hlt : i < b.size := by
      rcases Nat.lt_or_ge i b.size with h' | h'
      · exact h'
      · rw [List.getElem?_eq_none (by simpa using h')] at hc; cases hc
    refine ⟨.int .u8 (b[i]'hlt).toNat, run_val (s := Instr.index t (ρ x) (ρ ix)) ?_, ?_⟩
    · rw [ex', ei]
      rw [run_index_string w t b kk i (hE.und hu)]
      rw [dif_pos ⟨by omega, by omega⟩]
      simp
    · simp only [VR]
      rw [List.getElem?_map] at hc
      have : b.data.toList[i]? = some b[i] := by
        rw [Array.getElem?_toList]
        exact Array.getElem?_eq_getElem hlt
      rw [this] at hc
      simp at hc
      rw [← hc]; rfl
  · cases hev

/-- a part of an aggregate -/
theorem cut_sound {agg : Bool} {n off : Nat} {t : TypeId} {ds : TypeDesc} {l : List AV} {cs : Array Value} (hu : E.und t = some ds) (hsz : E.size t = some n) (hag : isAggT ds = agg)
    (hE : EnvOk E P) (hl : VRs μ l cs.toList) (hev : cutA agg n l off = some a) : ∃ v, (part t cs off).run P w = .ok v w ∧ VR μ a v := by
  cases agg with
  | true =>
    cases hev
    refine ⟨.agg (cs.extract off (off + n)), ?_, ?_⟩
    · simp only [part, Sem.run_bind, hE.runAgg hu, hag, Result.andThen_ok, if_true, hE.runSize hsz, Sem.run_pure]
    · simp only [VR]
      refine ⟨_, rfl, ?_⟩
      rw [Array.toList_extract, List.extract_eq_take_drop, show off + n - off = n from by omega]
      exact (hl.drop off).take n
  | false =>
    have hev : l[off]? = some a := hev
    obtain ⟨v, hv, hr⟩ := hl.get hev
    refine ⟨v, ?_, hr⟩
    rw [Array.getElem?_toList] at hv
    simp only [part, Sem.run_bind, hE.runAgg hu, hag, Result.andThen_ok, Bool.false_eq_true, if_false, hv]
    rfl

include hE hq in
theorem p_idxAgg {t el : TypeId} {n sz : Nat} {agg : Bool} {x ix : Operand} (hu : E.und t = some (.array n el)) (hsz : E.szA el = some (sz, agg)) (hev : xIdxAgg n sz agg (q x) (q ix) h L = some a) :
    Gives P ρ w μ ⟨d, .index t x ix, ty, pos, af, gd⟩ a := by
  obtain ⟨l, hs, hev⟩ := asAgg_some hev
  obtain ⟨kk, i, ei, hev⟩ := idx_q hq hev
  obtain ⟨hc, hev⟩ := cnd_inv hev
  have hlt : i < n := by simpa using hc
  obtain ⟨cs, ex', hl⟩ := q_agg hq hs
  obtain ⟨ds, h1, h2, h3⟩ := szA_some hsz
  obtain ⟨v, hv, hr⟩ := cut_sound (w := w) h1 h2 h3 hE hl hev
  refine ⟨v, run_val (s := Instr.index t (ρ x) (ρ ix)) ?_, hr⟩
  rw [ex', ei]
  simp only [Instr.index, asIntOf, Sem.run_bind, Sem.run_pure, Result.andThen_ok, hE.runUnd hu, Sem.run_ite]
  rw [if_pos ⟨by omega, by omega⟩]
  simp only [Sem.run_bind, hE.runSize h2, Result.andThen_ok, Int.toNat_natCast]
  exact hv

include hE hq in
theorem p_field {t : TypeId} {i n : Nat} {agg : Bool} {x : Operand} {fs : List Field} {fd : Field} (ht : fieldsOf E t = some fs) (hf : fs[i]? = some fd) (hsz : E.szA fd.type = some (n, agg))
    (hev : xField fd.offset n agg (q x) h L = some a) : Gives P ρ w μ ⟨d, .field t x i, ty, pos, af, gd⟩ a := by
  obtain ⟨l, hs, hev⟩ := asAgg_some hev
  obtain ⟨cs, ex', hl⟩ := q_agg hq hs
  obtain ⟨ds, h1, h2, h3⟩ := szA_some hsz
  obtain ⟨v, hv, hr⟩ := cut_sound (w := w) h1 h2 h3 hE hl hev
  unfold fieldsOf at ht
  split at ht
  · rename_i fa hu
    simp only [Option.some.injEq] at ht
    subst ht
    have hfa : fa[i]? = some fd := by rw [← Array.getElem?_toList]; exact hf
    refine ⟨v, run_val (s := Instr.field t (ρ x) i) ?_, hr⟩
    rw [ex']
    simp only [Instr.field, Sem.run_bind, hE.runUnd hu, Result.andThen_ok, hfa, Go.asAgg, Sem.run_pure]
    exact hv
  · cases ht

end
end Go.Ev


namespace Go.Ev
set_option linter.unusedVariables false
set_option linter.unusedSectionVars false
set_option linter.unusedSimpArgs false

section
variable {E : Env} {P : Program} (hE : EnvOk E P) {B : Nat} {μ : Mu} {h : Hp} {w : World} (hH : HR B μ h w)
  {L : Lo} {ρ : Operand → Value} {q : Operand → Opd} (hq : ∀ x, VR μ (getO (q x) L) (ρ x))
  {d : Option Tmp} {ty : TypeId} {pos : String} {af : Array Edge} {gd : Option (Nat × Bool)} {a : AV}

theorem cell_lt {b x n : Nat} {v : Value} {cs : Array Value} {e : TypeId} {fz : Nat × Nat} (hb : w.heap[b]? = some (.cells cs e fz)) (hn : cs.size = n) (hc : w.cell? ⟨b, x, none⟩ = some v) : x < n := by
  rw [cell?_of_block hb] at hc
  rcases Nat.lt_or_ge x cs.size with h' | h'
  · omega
  · simp [Array.getElem?_eq_none h'] at hc

include hH in
theorem arrThere_sound {f : Key} {g o n sz b s k : Nat} (hm : μ f g = some (b, s, k)) (hs : s ≤ o) (ht : arrThere h f g o n sz = true) : n = 0 ∨ o - s + n * sz ≤ k := by
  by_cases hn : n = 0
  · exact .inl hn
  right
  unfold arrThere at ht
  have h1 : Nat.beq n 0 = false := by rw [Bool.eq_false_iff]; intro hh; exact hn (Nat.eq_of_beq_eq_true hh)
  rw [h1] at ht
  by_cases hz : sz = 0
  · subst hz; cases ht
  have h2 : Nat.beq sz 0 = false := by rw [Bool.eq_false_iff]; intro hh; exact hz (Nat.eq_of_beq_eq_true hh)
  rw [h2] at ht
  cases hg : getCell h f g (Nat.sub (Nat.add o (Nat.mul n sz)) 1) with
  | none => rw [hg] at ht; cases ht
  | some a' =>
    have hpos : 0 < n * sz := Nat.mul_pos (by omega) (by omega)
    obtain ⟨v, hv, _⟩ := getCell_sound hH hm (by show s ≤ o + n * sz - 1; omega) hg
    obtain ⟨ro, gen, z, dp, ext, c, ho, _⟩ := asCells_some hg
    obtain ⟨_, _, hb⟩ := hH.cells ho
    obtain ⟨_, _, cs, e, fz, hheap, hfz, hsz, _⟩ := hb g b s k hm
    have := cell_lt hheap hsz hv
    have : o + n * sz - 1 - s < k := this
    omega

/-- where the operand is the address of an array -/
theorem p_arr {t el : TypeId} {n sz : Nat} {x : Operand} {lo hi mx : Option Operand} {v : Value} {b x0 l hh m mc : Nat} (hE : EnvOk E P)
    (hu : E.und t = some (.array n el) ∨ ∃ ar, E.und t = some (.pointer ar) ∧ E.und ar = some (.array n el)) (hsz : E.size el = some sz)
    (ex : ρ x = .pointer (some ⟨b, x0, none⟩)) (hr : (Instr.sliceBounds false n n (lo.map ρ) (hi.map ρ) (mx.map ρ)).run P w = .ok (l, hh, mc) w) :
    (Instr.sliceAt t (ρ x) (lo.map ρ) (hi.map ρ) (mx.map ρ)).run P w = .ok (.slice (if mc = l then some ⟨b, x0, none⟩ else some ((⟨b, x0, none⟩ : Addr).add (l * sz))) (hh - l) (mc - l)) w := by
  have hv : ∀ (c : Prop) [Decidable c] (u v : Addr), (some (if c then u else v) : Option Addr) = if c then some u else some v := by intro c _ u v; split <;> rfl
  rcases hu with hu | ⟨ar, hu, hu2⟩
  · rw [ex]
    simp only [Instr.sliceAt, Sem.run_bind, hE.runUnd hu, Result.andThen_ok, Instr.sureAddr, Sem.run_pure, hr, hE.runSize hsz, hv]
  · rw [ex]
    simp only [Instr.sliceAt, Instr.slice, Sem.run_bind, hE.runUnd hu, hE.runUnd hu2, Result.andThen_ok, asAddr, Sem.run_pure, hr, hE.runSize hsz, hv]

include hE hH hq in
theorem p_sliceArr {t el : TypeId} {n sz : Nat} {x : Operand} {lo hi mx : Option Operand}
    (hu : E.und t = some (.array n el) ∨ ∃ ar, E.und t = some (.pointer ar) ∧ E.und ar = some (.array n el)) (hsz : E.size el = some sz) (hn : ¬ (hi = none ∧ mx.isSome = true))
    (hev : xSliceArr n sz (q x) (lo.map q) (hi.map q) (mx.map q) h L = some a) : Gives P ρ w μ ⟨d, .slice t x lo hi mx, ty, pos, af, gd⟩ a := by
  obtain ⟨f, g, o, hs, hev⟩ := asPtr_some hev
  obtain ⟨hth, hev⟩ := cnd_inv hev
  obtain ⟨l, b1, hev⟩ := bnd_q hq hev
  obtain ⟨hh, b2, hev⟩ := bnd_q hq hev
  obtain ⟨m, b3, hev⟩ := bnd_q hq hev
  obtain ⟨b, s, k, hm, hle, ex⟩ := q_ptr hq hs
  have hfull : (mx.map q).isSome = mx.isSome := by cases mx <;> rfl
  rw [hfull] at hev
  have hp : (s ≤ o ∧ o - s = o - s ∧ o - s + n * sz ≤ k) ∨ n = 0 := by
    rcases arrThere_sound hH hm hle hth with h0 | h0
    · exact .inr h0
    · exact .inl ⟨hle, rfl, h0⟩
  obtain ⟨c1, c2, c3, hv⟩ := cutSl_sound (mc := if mx.isSome then m else n) hev hm (Nat.le_refl _) (fun _ => rfl) hp rfl
  have b3' : Bd ρ mx n (if mx.isSome then m else n) := by
    rcases b3 with ⟨rfl, rfl⟩ | ⟨o3, k3, rfl, e3⟩
    · exact .inl ⟨rfl, rfl⟩
    · exact .inr ⟨o3, k3, rfl, e3⟩
  have hmle : hh ≤ (if mx.isSome then m else n) ∧ (if mx.isSome then m else n) ≤ n := by split <;> omega
  have hr := run_bounds (P := P) (w := w) (isSl := false) b1 b2 b3' c1 hmle.1 hmle.2 hn
  exact ⟨_, run_val (s := Instr.sliceAt t (ρ x) (lo.map ρ) (hi.map ρ) (mx.map ρ)) (p_arr hE (v := .nilFunc) (m := m) hu hsz ex hr), hv⟩

include hH in
theorem p_waits {g : Nat} {b s n : Nat} (hev : xWaits (Key.ofNat g) h L = some a) (hm : μ (Key.ofNat g) 0 = some (g, s, n)) : Gives P ρ w μ ⟨d, .waits g, ty, pos, af, gd⟩ a := by
  obtain ⟨ro, gen, sz, dp, ext, c, ho, hev⟩ := asCells_some hev
  cases hev
  obtain ⟨_, _, hb⟩ := hH.cells ho
  obtain ⟨_, _, cs, e, fz, hheap, _, hsz, _⟩ := hb 0 g s n hm
  refine ⟨.bool false, run_val (s := Instr.waits g) ?_, by simp only [VR]⟩
  simp [Instr.waits, World.shape?, hheap]

end
end Go.Ev


namespace Go.Ev
set_option linter.unusedVariables false
set_option linter.unusedSectionVars false
set_option linter.unusedSimpArgs false

/-- a block that no view and no number hides, and that is not frozen -/
def Plain (w : World) (b : Nat) : Prop :=
  ∃ o, w.heap[b]? = some o ∧ (match o with
    | .cells _ _ fz => fz = (0, 0)
    | .view .. => False
    | .number .. => False
    | .pending .. => False
    | _ => True)

section
variable {E : Env} {P : Program} (hE : EnvOk E P) {B : Nat} {μ : Mu} {h : Hp} {w : World} (hH : HR B μ h w)

include hH in
theorem HR.plain {f : Key} {g b s n : Nat} (hm : μ f g = some (b, s, n)) (hlt : g < strGen) : Plain w b := by
  have ho := hH.obj f
  have z : ∀ (hg : ∀ g, 0 < g → μ f g = none), g = 0 := by
    intro hg
    rcases Nat.eq_zero_or_pos g with h0 | h0
    · exact h0
    · rw [hg g h0] at hm; cases hm
  cases hob : hget f h with
  | none => rw [hob] at ho; rw [ho g] at hm; cases hm
  | cells ro gen sz dp ext c =>
    obtain ⟨_, _, hb⟩ := hH.cells hob
    obtain ⟨_, _, cs, e, fz, hheap, hfz, _⟩ := hb g b s n hm
    refine ⟨_, hheap, ?_⟩
    rcases hfz with rfl | ⟨h1, _⟩
    · rfl
    · omega
  | map es c =>
    rw [hob] at ho
    obtain ⟨hg, hb⟩ := ho
    have := z hg; subst this
    obtain ⟨_, es', hheap, _⟩ := hb b s n hm
    exact ⟨_, hheap, trivial⟩
  | strIter x p =>
    rw [hob] at ho
    obtain ⟨hg, hb⟩ := ho
    have := z hg; subst this
    obtain ⟨_, _, x', hheap, _⟩ := hb b s n hm
    exact ⟨_, hheap, trivial⟩
  | mapIter m si se st =>
    rw [hob] at ho
    obtain ⟨hg, hb⟩ := ho
    have := z hg; subst this
    obtain ⟨_, _, m', hheap, _⟩ := hb b s n hm
    exact ⟨_, hheap, trivial⟩
  | loop st p fn tm ps a b' df x =>
    rw [hob] at ho
    obtain ⟨hg, hb⟩ := ho
    have := z hg; subst this
    obtain ⟨_, t, dfb, s', n', hheap, _⟩ := hb b s n hm
    exact ⟨_, hheap, trivial⟩
  | deferred ds =>
    rw [hob] at ho
    obtain ⟨hg, hb⟩ := ho
    have := z hg; subst this
    obtain ⟨_, ds', hheap, _⟩ := hb b s n hm
    exact ⟨_, hheap, trivial⟩
  | mapu es =>
    rw [hob] at ho
    obtain ⟨hg, hb⟩ := ho
    have := z hg; subst this
    obtain ⟨_, es', c, es0, hheap, _⟩ := hb b s n hm
    exact ⟨_, hheap, trivial⟩

theorem Plain.frozen {b i : Nat} (hp : Plain w b) : w.frozen? ⟨b, i, none⟩ = false := by
  obtain ⟨o, ho, hk⟩ := hp
  unfold World.frozen?
  rw [ho]
  cases o <;> first | (simp only at hk; subst hk; simp) | rfl
theorem Plain.stringish {b i : Nat} (hp : Plain w b) : (stringish ⟨b, i, none⟩).run P w = .ok false w := by
  have hf : ∀ i, w.frozen? ⟨b, i, none⟩ = false := fun i => hp.frozen
  unfold Go.stringish
  simp only [Sem.run_bind, run_frozen, hf, Result.andThen_ok, Bool.false_eq_true, if_false, run_shape]
  cases w.shape? b <;> simp [hf]
theorem Plain.noView {b i : Nat} (hp : Plain w b) : (noView ⟨b, i, none⟩).run P w = .ok () w := by
  obtain ⟨o, ho, hk⟩ := hp
  unfold Go.noView viewAt
  cases o with
  | cells cs e fz => simp [World.shape?, ho]
  | view a t => exact hk.elim
  | _ => simp [World.shape?, ho, getObj, Sem.run]
theorem run_same {b b' x x' : Nat} (h1 : Plain w b) (h2 : Plain w b') (hne : b ≠ b') :
    (sameAddr ⟨b, x, none⟩ ⟨b', x', none⟩).run P w = .ok false w := by
  have hb : (b == b') = false := by simpa using hne
  unfold sameAddr mayBeOne
  simp only [hb, Bool.false_eq_true, if_false, Sem.run_bind, run_frozen, h1.frozen, h2.frozen, Result.andThen_ok, h1.noView, h2.noView, h1.stringish, h2.stringish, Bool.false_and,
    Sem.run_pure, Bool.or_false, if_false]
  simp


theorem tyFs_cases (f : TypeId → Ty) : ∀ (fs : List Field), (tyFs E f fs = .fnil ∨ (∃ a b c t r, tyFs E f fs = .fcons a b c t r) ∨ tyFs E f fs = .bad)
  | [] => .inl rfl
  | x :: xs => by
    unfold tyFs
    cases decide (x.name = "_") with
    | true => exact tyFs_cases f xs
    | false =>
      show (match E.szA x.type with | some (n, a) => Ty.fcons x.offset n a (f x.type) (tyFs E f xs) | none => .bad) = _ ∨ _
      cases E.szA x.type with
      | none => exact .inr (.inr rfl)
      | some p => exact .inr (.inl ⟨_, _, _, _, _, rfl⟩)

include hE in
theorem eqFs_sound {d N : Nat} {k : Nat} (ih : ∀ (t : TypeId) (X Y : AV) (u v : Value) (r : Bool), aeq E d (tyOf E k t) X Y = some r → VR μ X u → VR μ Y v → (Op.equalIn N t u v).run P w = .ok r w)
    {xs ys : List AV} {us vs : Array Value} (hx : VRs μ xs us.toList) (hy : VRs μ ys vs.toList) : ∀ (fs : List Field) (r : Bool),
    eqFs (aeq E d) xs ys (tyFs E (tyOf E k) fs) = some r → (Op.eqFields N us vs fs).run P w = .ok r w
  | [], r, hr => by cases hr; rfl
  | f :: fs, r, hr => by
    unfold tyFs at hr
    unfold Op.eqFields
    by_cases hn : f.name = "_"
    · simp only [hn, decide_true, cond_true] at hr
      simp only [hn, ne_eq, not_true_eq_false, if_false]
      exact eqFs_sound ih hx hy fs r hr
    · simp only [hn, decide_false, cond_false] at hr
      simp only [ne_eq, hn, not_false_eq_true, if_true]
      cases hs : E.szA f.type with
      | none => rw [hs] at hr; cases hr
      | some p =>
        obtain ⟨n, a⟩ := p
        rw [hs] at hr
        simp only [eqFs] at hr
        split at hr
        · rename_i p1 p2 c1 c2
          obtain ⟨ds, h1, h2, h3⟩ := szA_some hs
          obtain ⟨u, hu, hur⟩ := cut_sound (P := P) (w := w) h1 h2 h3 hE hx c1
          obtain ⟨v, hv, hvr⟩ := cut_sound (P := P) (w := w) h1 h2 h3 hE hy c2
          simp only [Sem.run_bind, hu, hv, Result.andThen_ok]
          split at hr
          · rename_i he
            have := ih f.type p1 p2 u v true he hur hvr
            simp only [this, Result.andThen_ok, Bool.not_true, Bool.false_eq_true, if_false]
            exact eqFs_sound ih hx hy fs r hr
          · rename_i he
            cases hr
            have := ih f.type p1 p2 u v false he hur hvr
            simp only [this, Result.andThen_ok, Bool.not_false, if_true, Sem.run_pure]
          · cases hr
        · cases hr

end
end Go.Ev
