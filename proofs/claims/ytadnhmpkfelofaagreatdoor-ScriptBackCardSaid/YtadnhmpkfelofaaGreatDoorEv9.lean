/- THE EVALUATOR, part 9 of 13: EvDr1 EvDr2 EvDr3 EvDr4 EvDr5 EvDr6 EvCtl8 EvCtl9 -/
import Derived.Test.YtadnhmpkfelofaaGreatDoorEv8
import Derived.Orders
set_option linter.unusedVariables false
set_option linter.unusedSectionVars false
set_option linter.unusedSimpArgs false
namespace Go.Ev
set_option linter.unusedVariables false
set_option linter.unusedSectionVars false
set_option linter.unusedSimpArgs false
noncomputable section
variable [Val] [Fk]
/-! ## bits -/
theorem inM_tb (m i : Nat) : inM m i = m.testBit i := by
  unfold inM
  show Nat.beq (m &&& 2 ^ i) (2 ^ i) = _
  cases h : m.testBit i with
  | true =>
    have e : m &&& 2 ^ i = 2 ^ i := by
      apply Nat.eq_of_testBit_eq
      intro j
      rw [Nat.testBit_and, Nat.testBit_two_pow]
      by_cases hj : i = j
      · subst hj; simp [h]
      · simp [hj]
    rw [e]; exact Nat.beq_refl _
  | false =>
    apply Bool.eq_false_iff.2
    intro hb
    have := Nat.eq_of_beq_eq_true hb
    have h2 := congrArg (fun n => Nat.testBit n i) this
    simp only [Nat.testBit_and, Nat.testBit_two_pow_self, h, Bool.false_and] at h2
    cases h2
theorem inM_lor (d i j : Nat) : inM (Nat.lor d (Nat.pow 2 i)) j = (inM d j || decide (i = j)) := by
  rw [inM_tb, inM_tb]
  show Nat.testBit (d ||| 2 ^ i) j = _
  rw [Nat.testBit_or, Nat.testBit_two_pow]
theorem subM_inM {m n p : Nat} (h : subM m n = true) (hp : inM m p = true) : inM n p = true := by
  unfold subM at h
  have h : m &&& n = m := Nat.eq_of_beq_eq_true h
  rw [inM_tb] at hp ⊢
  rw [← h, Nat.testBit_and] at hp
  simp only [Bool.and_eq_true] at hp
  exact hp.2
theorem inM_land (m n p : Nat) : inM (Nat.land m n) p = (inM m p && inM n p) := by
  rw [inM_tb, inM_tb, inM_tb]
  exact Nat.testBit_and _ _ _
theorem inM_zero (p : Nat) : inM 0 p = false := by rw [inM_tb]; simp
theorem subM_of {m n : Nat} (h : ∀ p, inM m p = true → inM n p = true) : subM m n = true := by
  unfold subM
  have e : m &&& n = m := by
    apply Nat.eq_of_testBit_eq
    intro j
    rw [Nat.testBit_and]
    cases hj : m.testBit j with
    | false => rfl
    | true =>
      have := h j (by rw [inM_tb]; exact hj)
      rw [inM_tb] at this
      simp [this]
  show Nat.beq (m &&& n) m = true
  rw [e]; exact Nat.beq_refl _
/-! ## what is ahead of an operation -/
theorem before_size (ops : Array Oper) : (Region.before ops).size = ops.size := by
  unfold Region.before
  have key : ∀ (l : List Oper) (acc : Array Nat), (l.foldl (fun acc o => acc.push (o.after.foldl (fun s e => if Region.binds .any e then s ||| 2 ^ e.on ||| acc.getD e.on 0 else s) 0)) acc).size = acc.size + l.length := by
    intro l
    induction l with
    | nil => intro acc; rfl
    | cons o l ih => intro acc; rw [List.foldl_cons, ih]; simp; omega
  rw [← Array.foldl_toList, key]; simp
theorem mem_marked {arr : Array Oper} {i m : Nat} {o : Oper} : (i, o, m) ∈ marked arr ↔ arr[i]? = some o ∧ m = pre arr i := by
  unfold marked pre
  constructor
  · intro h
    obtain ⟨n, hn⟩ := List.getElem?_of_mem h
    rw [List.getElem?_zip_eq_some, List.getElem?_zip_eq_some] at hn
    obtain ⟨h1, h2, h3⟩ := hn
    have h1 : n = i := by
      rw [List.getElem?_eq_some_iff] at h1
      obtain ⟨_, h1⟩ := h1
      simpa using h1
    subst h1
    rw [Array.getElem?_toList] at h2 h3
    exact ⟨h2, by rw [Array.getD_eq_getD_getElem?, h3]; rfl⟩
  · rintro ⟨h1, rfl⟩
    have hlt : i < arr.size := (Array.getElem?_eq_some_iff.1 h1).1
    refine List.mem_of_getElem? (i := i) ?_
    rw [List.getElem?_zip_eq_some, List.getElem?_zip_eq_some]
    refine ⟨by rw [List.getElem?_range hlt], by rw [Array.getElem?_toList]; exact h1, ?_⟩
    rw [Array.getElem?_toList, Array.getD_eq_getD_getElem?]
    rw [Array.getElem?_eq_getElem (by rw [before_size]; exact hlt)]; rfl
def preF (acc : Array Nat) (o : Oper) : Nat := o.after.foldl (fun s e => if Region.binds .any e then s ||| 2 ^ e.on ||| acc.getD e.on 0 else s) 0
theorem preF_bit {acc : Array Nat} {o : Oper} {p : Nat} (h : inM (preF acc o) p = true) : ∃ e ∈ o.after, Region.binds .any e = true ∧ (p = e.on ∨ inM (acc.getD e.on 0) p = true) := by
  have key : ∀ (l : List Edge) (s : Nat), inM (l.foldl (fun s e => if Region.binds .any e then s ||| 2 ^ e.on ||| acc.getD e.on 0 else s) s) p = true →
      inM s p = true ∨ ∃ e ∈ l, Region.binds .any e = true ∧ (p = e.on ∨ inM (acc.getD e.on 0) p = true) := by
    intro l
    induction l with
    | nil => intro s h; exact .inl h
    | cons e l ih =>
      intro s h
      rw [List.foldl_cons] at h
      rcases ih _ h with h | ⟨e', h1, h2⟩
      · cases hb : Region.binds .any e with
        | false => rw [hb] at h; exact .inl (by simpa using h)
        | true =>
          rw [hb] at h
          simp only [if_true] at h
          rw [inM_tb, Nat.testBit_or, Nat.testBit_or, Nat.testBit_two_pow] at h
          simp only [Bool.or_eq_true, decide_eq_true_eq] at h
          rcases h with (h | h) | h
          · exact .inl (by rw [inM_tb]; exact h)
          · exact .inr ⟨e, List.mem_cons_self .., hb, .inl h.symm⟩
          · exact .inr ⟨e, List.mem_cons_self .., hb, .inr (by rw [inM_tb]; exact h)⟩
      · exact .inr ⟨e', List.mem_cons_of_mem _ h1, h2⟩
  unfold preF at h
  rw [← Array.foldl_toList] at h
  rcases key _ _ h with h | ⟨e, h1, h2⟩
  · rw [inM_zero] at h; cases h
  · exact ⟨e, by simpa using h1, h2⟩
theorem before_get (arr : Array Oper) {i : Nat} {o : Oper} (ho : arr[i]? = some o) : ∃ acc : Array Nat, acc.size = i ∧ pre arr i = preF acc o ∧ ∀ j, j < i → acc.getD j 0 = pre arr j := by
  have key : ∀ (l : List Oper) (acc : Array Nat) (i : Nat) (o : Oper), acc.size ≤ i → l[i - acc.size]? = some o →
      (∀ j, j < acc.size → (l.foldl (fun acc o => acc.push (preF acc o)) acc).getD j 0 = acc.getD j 0) ∧
      ∃ acc' : Array Nat, acc'.size = i ∧ (l.foldl (fun acc o => acc.push (preF acc o)) acc).getD i 0 = preF acc' o ∧ ∀ j, j < i → acc'.getD j 0 = (l.foldl (fun acc o => acc.push (preF acc o)) acc).getD j 0 := by
    have keep : ∀ (l : List Oper) (acc : Array Nat) (j : Nat), j < acc.size → (l.foldl (fun acc o => acc.push (preF acc o)) acc).getD j 0 = acc.getD j 0 := by
      intro l
      induction l with
      | nil => intro acc j _; rfl
      | cons o l ih =>
        intro acc j hj
        rw [List.foldl_cons, ih _ _ (by simp; omega)]
        simp only [Array.getD_eq_getD_getElem?]
        rw [Array.getElem?_push, if_neg (by omega)]
    intro l
    induction l with
    | nil => intro acc i o _ h; simp at h
    | cons o l ih =>
      intro acc i o' hi h
      refine ⟨fun j hj => keep _ _ _ hj, ?_⟩
      by_cases he : i = acc.size
      · subst he
        simp only [Nat.sub_self, List.getElem?_cons_zero, Option.some.injEq] at h
        subst h
        refine ⟨acc, rfl, ?_, fun j hj => (keep _ _ _ hj).symm⟩
        rw [List.foldl_cons, keep _ _ _ (by simp)]
        simp [Array.getD_eq_getD_getElem?]
      · have h2 : l[i - (acc.push (preF acc o)).size]? = some o' := by
          have : i - acc.size = (i - (acc.push (preF acc o)).size) + 1 := by simp; omega
          rw [this] at h
          simpa using h
        exact (ih (acc.push (preF acc o)) i o' (by simp; omega) h2).2
  obtain ⟨_, acc', h1, h2, h3⟩ := key arr.toList #[] i o (by simp) (by simpa using ho)
  have e : Region.before arr = arr.toList.foldl (fun acc o => acc.push (preF acc o)) #[] := by
    unfold Region.before
    rw [← Array.foldl_toList]; rfl
  refine ⟨acc', h1, ?_, fun j hj => ?_⟩
  · unfold pre; rw [e]; exact h2
  · unfold pre; rw [e]; exact h3 j hj
theorem pre_step {arr : Array Oper} {i p : Nat} {o : Oper} (ho : arr[i]? = some o) (h : inM (pre arr i) p = true) : ∃ e ∈ o.after, Region.binds .any e = true ∧ (p = e.on ∨ inM (pre arr e.on) p = true) := by
  obtain ⟨acc, h1, h2, h3⟩ := before_get arr ho
  rw [h2] at h
  obtain ⟨e, he, hb, hp⟩ := preF_bit h
  refine ⟨e, he, hb, hp.imp id fun hp => ?_⟩
  by_cases hlt : e.on < i
  · rw [← h3 _ hlt]; exact hp
  · rw [Array.getD_eq_getD_getElem?, Array.getElem?_eq_none (by omega)] at hp
    simp only [Option.getD_none] at hp
    rw [inM_zero] at hp; cases hp
/-! ## the orders that are drawn -/
def lst (L : Array Bool) (i : Nat) : Bool := L.getD i false
structure LdR (arr : Array Oper) (l : Array Bool) : Prop where
  size : l.size = arr.size
  cl : ∀ i p, l.getD i false = true → inM (pre arr i) p = true → l.getD p false = true
theorem ldr_nil (arr : Array Oper) : LdR arr (Array.replicate arr.size false) := by
  refine ⟨by simp, fun i p h => ?_⟩
  rw [Array.getD_eq_getD_getElem?] at h
  rw [Array.getElem?_replicate] at h
  split at h <;> cases h
def readyL (arr : Array Oper) (listed : Array Bool) : List Nat := (List.range arr.size).filter fun i =>
        !listed.getD i true && ((arr[i]?).map (·.after.all fun e => !Region.binds .any e || listed.getD e.on false)).getD false
theorem getB_set {l : Array Bool} {i j : Nat} {b : Bool} (hi : i < l.size) : (l.setIfInBounds i b).getD j false = if i = j then b else l.getD j false := by
  rw [Array.getD_eq_getD_getElem?, Array.getD_eq_getD_getElem?, Array.getElem?_setIfInBounds]
  split
  · rename_i h; subst h; simp [hi]
  · rfl
theorem ready_of {arr : Array Oper} {l : Array Bool} {i : Nat} (h : i ∈ readyL arr l) : i < arr.size ∧ l.getD i true = false ∧ ∃ o, arr[i]? = some o ∧ ∀ e ∈ o.after, Region.binds .any e = true → l.getD e.on false = true := by
  unfold readyL at h
  rw [List.mem_filter] at h
  obtain ⟨h1, h2⟩ := h
  have hlt : i < arr.size := by simpa using h1
  simp only [Bool.and_eq_true, Bool.not_eq_true'] at h2
  obtain ⟨h2, h3⟩ := h2
  refine ⟨hlt, h2, arr[i], Array.getElem?_eq_getElem hlt, fun e he hb => ?_⟩
  rw [Array.getElem?_eq_getElem hlt] at h3
  simp only [Option.map_some, Option.getD_some, Array.all_eq_true'] at h3
  have := h3 e he
  rw [hb] at this
  simpa using this
theorem ready_pre {arr : Array Oper} {l : Array Bool} (hl : LdR arr l) {i p : Nat} (h : i ∈ readyL arr l) (hp : inM (pre arr i) p = true) : l.getD p false = true := by
  obtain ⟨h1, h2, o, ho, h3⟩ := ready_of h
  obtain ⟨e, he, hb, hp⟩ := pre_step ho hp
  rcases hp with rfl | hp
  · exact h3 e he hb
  · exact hl.cl _ _ (h3 e he hb) hp
theorem LdR.set {arr : Array Oper} {l : Array Bool} (hl : LdR arr l) {i : Nat} (h : i ∈ readyL arr l) : LdR arr (l.setIfInBounds i true) := by
  have hi : i < l.size := by rw [hl.size]; exact (ready_of h).1
  refine ⟨by simpa using hl.size, fun j p hj hp => ?_⟩
  rw [getB_set hi] at hj ⊢
  split
  · rfl
  · split at hj
    · rename_i e; subst e; exact ready_pre hl h hp
    · exact hl.cl _ _ hj hp
theorem getD_lt {l : Array Bool} {i : Nat} (h : l.getD i false = true) : i < l.size := by
  rw [Array.getD_eq_getD_getElem?] at h
  cases hh : l[i]? with
  | none => rw [hh] at h; cases h
  | some b => exact (Array.getElem?_eq_some_iff.1 hh).1
theorem getD_tf {l : Array Bool} {i : Nat} (h : l.getD i true = false) : l.getD i false = false := by
  rw [Array.getD_eq_getD_getElem?] at h ⊢
  cases hh : l[i]? with
  | none => rw [hh] at h; cases h
  | some b => rw [hh] at h; exact h
theorem go_lin (arr : Array Oper) : ∀ (fuel t : Nat) (l : Array Bool), LdR arr l →
    (∀ i ∈ Region.linearise.go .any arr fuel t l [], i < arr.size ∧ l.getD i false = false) ∧ (Region.linearise.go .any arr fuel t l []).Nodup ∧
    ∀ a j b, Region.linearise.go .any arr fuel t l [] = a ++ j :: b → ∀ p, inM (pre arr j) p = true → p < arr.size ∧ p ∉ j :: b := by
  intro fuel
  induction fuel with
  | zero => intro t l _; simp [Region.linearise.go]
  | succ fuel ih =>
    intro t l hl
    simp only [Region.linearise.go]
    change (∀ i ∈ (match (readyL arr l)[t % (readyL arr l).length]? with
      | some i => Region.linearise.go .any arr fuel (t / (readyL arr l).length) (l.setIfInBounds i true) [i]
      | none => [].reverse), _) ∧ (match (readyL arr l)[t % (readyL arr l).length]? with
      | some i => Region.linearise.go .any arr fuel (t / (readyL arr l).length) (l.setIfInBounds i true) [i]
      | none => [].reverse).Nodup ∧ ∀ a j b, (match (readyL arr l)[t % (readyL arr l).length]? with
      | some i => Region.linearise.go .any arr fuel (t / (readyL arr l).length) (l.setIfInBounds i true) [i]
      | none => [].reverse) = a ++ j :: b → _
    cases hi : (readyL arr l)[t % (readyL arr l).length]? with
    | none => simp
    | some i =>
      simp only []
      have hr := List.mem_of_getElem? hi
      have hr2 := ready_of hr
      have hil : i < l.size := by rw [hl.size]; exact hr2.1
      rw [linearise_go_acc, List.reverse_singleton, List.singleton_append]
      obtain ⟨h1, h2, h3⟩ := ih (t / (readyL arr l).length) (l.setIfInBounds i true) (hl.set hr)
      generalize hg : Region.linearise.go .any arr fuel (t / (readyL arr l).length) (l.setIfInBounds i true) [] = rest at h1 h2 h3
      have hnot : i ∉ rest := fun hm => by have := (h1 i hm).2; rw [getB_set hil, if_pos rfl] at this; cases this
      refine ⟨?_, List.nodup_cons.2 ⟨hnot, h2⟩, ?_⟩
      · intro j hj
        rcases List.mem_cons.1 hj with rfl | hj
        · exact ⟨hr2.1, getD_tf hr2.2.1⟩
        · obtain ⟨k1, k2⟩ := h1 j hj
          rw [getB_set hil] at k2
          split at k2
          · cases k2
          · exact ⟨k1, k2⟩
      · intro a j b hab p hp
        cases a with
        | nil =>
          simp only [List.nil_append, List.cons.injEq] at hab
          obtain ⟨rfl, rfl⟩ := hab
          have hpl := ready_pre hl hr hp
          refine ⟨by rw [← hl.size]; exact getD_lt hpl, ?_⟩
          intro hm
          rcases List.mem_cons.1 hm with rfl | hm
          · rw [getD_tf hr2.2.1] at hpl; cases hpl
          · have := (h1 p hm).2
            rw [getB_set hil] at this
            split at this
            · cases this
            · rw [hpl] at this; cases this
        | cons x a =>
          simp only [List.cons_append, List.cons.injEq] at hab
          exact h3 a j b hab.2 p hp
theorem go_all (arr : Array Oper) (hb : ∀ i o, arr[i]? = some o → ∀ e ∈ o.after, Region.binds .any e = true → e.on < i) : ∀ (fuel t : Nat) (l : Array Bool), LdR arr l →
    ((List.range arr.size).filter fun i => !l.getD i false).length ≤ fuel → ∀ i, i < arr.size → l.getD i false = false → i ∈ Region.linearise.go .any arr fuel t l [] := by
  intro fuel
  induction fuel with
  | zero =>
    intro t l hl hn i hi hf
    have hmem : i ∈ (List.range arr.size).filter fun i => !l.getD i false := by rw [List.mem_filter]; exact ⟨by simpa using hi, by simp [hf]⟩
    have := List.length_pos_of_mem hmem
    omega
  | succ fuel ih =>
    intro t l hl hn i hi hf
    simp only [Region.linearise.go]
    change i ∈ (match (readyL arr l)[t % (readyL arr l).length]? with
      | some i => Region.linearise.go .any arr fuel (t / (readyL arr l).length) (l.setIfInBounds i true) [i]
      | none => [].reverse)
    -- the least of those not listed is ready
    have hne : readyL arr l ≠ [] := by
      have least : ∀ n, ∀ i, i < n → i < arr.size → l.getD i false = false → ∃ j, j ∈ readyL arr l := by
        intro n
        induction n with
        | zero => intro i h; omega
        | succ n ihn =>
          intro i hin hi hf
          by_cases hall : ∀ e ∈ arr[i].after, Region.binds .any e = true → l.getD e.on false = true
          · refine ⟨i, ?_⟩
            unfold readyL
            rw [List.mem_filter]
            refine ⟨by simpa using hi, ?_⟩
            have ht : l.getD i true = false := by
              rw [Array.getD_eq_getD_getElem?] at hf ⊢
              rw [Array.getElem?_eq_getElem (by rw [hl.size]; exact hi)] at hf ⊢
              exact hf
            rw [Array.getElem?_eq_getElem hi]
            simp only [ht, Bool.not_false, Bool.true_and, Option.map_some, Option.getD_some, Array.all_eq_true']
            intro e he
            cases hbe : Region.binds .any e with
            | false => rfl
            | true => rw [hall e he hbe]; rfl
          · have : ∃ e ∈ arr[i].after, Region.binds .any e = true ∧ l.getD e.on false = false := by
              simp only [Classical.not_forall, not_imp] at hall
              obtain ⟨e, h1, h2, h3⟩ := hall
              exact ⟨e, h1, h2, by simpa using h3⟩
            obtain ⟨e, he, hbe, hle⟩ := this
            have hlt := hb i _ (Array.getElem?_eq_getElem hi) e he hbe
            exact ihn e.on (by omega) (by omega) hle
      obtain ⟨j, hj⟩ := least (i + 1) i (by omega) hi hf
      intro h; rw [h] at hj; cases hj
    have hlen : 0 < (readyL arr l).length := List.length_pos_iff.2 hne
    cases hj : (readyL arr l)[t % (readyL arr l).length]? with
    | none =>
      have := List.getElem?_eq_none_iff.1 hj
      have := Nat.mod_lt t hlen
      omega
    | some j =>
      simp only []
      have hr := List.mem_of_getElem? hj
      have hr2 := ready_of hr
      have hjl : j < l.size := by rw [hl.size]; exact hr2.1
      rw [linearise_go_acc, List.reverse_singleton, List.singleton_append]
      by_cases hij : i = j
      · subst hij; exact List.mem_cons_self ..
      · refine List.mem_cons_of_mem _ (ih _ _ (hl.set hr) ?_ i hi (by rw [getB_set hjl, if_neg (fun h => hij h.symm)]; exact hf))
        have hsub : ((List.range arr.size).filter fun i => !(l.setIfInBounds j true).getD i false) = ((List.range arr.size).filter fun i => !l.getD i false).filter (fun x => decide (x ≠ j)) := by
          rw [List.filter_filter]
          apply List.filter_congr
          intro x _
          rw [getB_set hjl]
          by_cases hx : j = x
          · subst hx; simp
          · simp [hx, Ne.symm hx]
        rw [hsub]
        have hjm : j ∈ ((List.range arr.size).filter fun i => !l.getD i false) := by rw [List.mem_filter]; exact ⟨by simpa using hr2.1, by rw [getD_tf hr2.2.1]; rfl⟩
        have := (List.length_filter_lt_length_iff_exists (p := fun x => decide (x ≠ j))).2 ⟨j, hjm, by simp⟩
        omega
theorem lin_start {arr : Array Oper} (t : Nat) (hb : ∀ i o, arr[i]? = some o → ∀ e ∈ o.after, Region.binds .any e = true → e.on < i) :
    LinR arr (Region.schedule true arr t) ∧ ∀ i, i < arr.size → i ∈ Region.schedule true arr t := by
  have e : Region.schedule true arr t = Region.linearise.go .any arr arr.size t (Array.replicate arr.size false) [] := by
    simp only [Region.schedule, Bool.true_or, if_true, Region.linearise]
  rw [e]
  obtain ⟨h1, h2, h3⟩ := go_lin arr arr.size t _ (ldr_nil arr)
  refine ⟨⟨fun i hi => (h1 i hi).1, h2, h3⟩, fun i hi => go_all arr hb _ _ _ (ldr_nil arr) ?_ i hi ?_⟩
  · exact Nat.le_trans (List.length_filter_le _ _) (by simp)
  · rw [Array.getD_eq_getD_getElem?, Array.getElem?_replicate]; split <;> rfl
end
end Go.Ev

namespace Go.Ev
set_option linter.unusedVariables false
set_option linter.unusedSectionVars false
set_option linter.unusedSimpArgs false
noncomputable section
variable [Val] [Fk]
/-! ## what is compiled looks at an operation's operands alone -/
variable {q q' : Operand → Opd} {E : Env}
theorem partsP_congr {f : Nat → Option (Nat × Nat)} : ∀ {l : List (Nat × Operand)}, (∀ y ∈ l.map (·.2), q y = q' y) → partsP q f l = partsP q' f l
  | [], _ => rfl
  | (i, o) :: l, h => by
    simp only [List.map_cons, List.mem_cons, forall_eq_or_imp] at h
    simp only [partsP, h.1, partsP_congr h.2]
theorem call_ops {c : Call} {y : Operand} (h : (∃ f, c.callee = .value f ∧ y = f) ∨ (∃ r n, c.callee = .invoke r n ∧ y = r) ∨ y ∈ c.args.toList) : y ∈ c.operands.toList := by
  unfold Call.operands
  rcases h with ⟨f, h1, rfl⟩ | ⟨r, n, h1, rfl⟩ | h
  · rw [h1]; simp
  · rw [h1]; simp
  · simp only [Array.toList_append, List.mem_append]; exact .inr h
theorem pureI_congr {op : Op} (h : ∀ y ∈ op.operands.toList, q y = q' y) : pureI q E op = pureI q' E op := by
  cases op with
  | call c =>
    have ha : ∀ y ∈ c.args.toList, q y = q' y := fun y hy => h y (call_ops (.inr (.inr hy)))
    show callP q E c = callP q' E c
    unfold callP
    cases hc : c.callee with
    | builtin b =>
      cases hl : c.args.toList with
      | nil => cases b <;> cases c.argTypes.toList <;> rfl
      | cons x xs =>
        rw [hl] at ha
        have hx := ha x (List.mem_cons_self ..)
        have hxs : xs.map q = xs.map q' := List.map_congr_left fun y hy => ha y (List.mem_cons_of_mem _ hy)
        cases b <;> cases c.argTypes.toList <;> simp only [hx, hxs, lenP]
    | _ => rfl
  | makeFunc fn first cap =>
    have h1 : first.toList.map q = first.toList.map q' := List.map_congr_left fun y hy => h y (by simp only [Op.operands, Array.toList_append, List.mem_append]; exact .inl hy)
    have h2 : cap.toList.map q = cap.toList.map q' := List.map_congr_left fun y hy => h y (by simp only [Op.operands, Array.toList_append, List.mem_append]; exact .inr hy)
    simp only [pureI, h1, h2]
  | slice t x lo hi mx =>
    have h0 := h x (by simp [Op.operands])
    have ho : ∀ o : Option Operand, (∀ y, o = some y → y ∈ (Op.slice t x lo hi mx).operands.toList) → o.map q = o.map q' := by
      intro o hm
      cases o with
      | none => rfl
      | some y => simp only [Option.map_some, h y (hm y rfl)]
    have h1 := ho lo (by rintro y rfl; simp [Op.operands])
    have h2 := ho hi (by rintro y rfl; simp [Op.operands])
    have h3 := ho mx (by rintro y rfl; simp [Op.operands])
    simp only [pureI, sliceP, h0, h1, h2, h3]
  | build t ps =>
    have h1 : ∀ f, partsP q f ps.toList = partsP q' f ps.toList := fun f => partsP_congr fun y hy => h y (by simpa [Op.operands] using hy)
    simp only [pureI, buildP, h1]
  | binOp op t x y z =>
    simp [Op.operands] at h
    simp only [pureI, binI, h.1, h.2]
  | _ => first | rfl | (simp [Op.operands] at h; simp only [pureI, convP, lookupP, assertP, h])
theorem allocI_congr {op : Op} (h : ∀ y ∈ op.operands.toList, q y = q' y) : allocI q E op = allocI q' E op := by
  cases op with
  | buildSlice t n ps =>
    have h1 : ∀ f, partsP q f ps.toList = partsP q' f ps.toList := fun f => partsP_congr fun y hy => h y (by simpa [Op.operands] using hy)
    simp only [allocI, h1]
  | makeMap t r =>
    cases r with
    | none => rfl
    | some x => simp [Op.operands] at h; simp only [allocI, h]
  | _ => first | rfl | (simp [Op.operands] at h; simp only [allocI, h])
theorem effI_congr {op : Op} (h : ∀ y ∈ op.operands.toList, q y = q' y) : effI q E op = effI q' E op := by
  cases op with
  | call c =>
    have ha : ∀ y ∈ c.args.toList, q y = q' y := fun y hy => h y (call_ops (.inr (.inr hy)))
    unfold effI
    simp only
    generalize c.callee = cl
    generalize c.argTypes.toList = tl
    generalize c.args.toList = al at ha
    cases al with
    | nil => cases cl with
      | builtin b => cases b <;> (rcases tl with _ | ⟨t, _ | ⟨u, tl⟩⟩ <;> rfl)
      | _ => rfl
    | cons x xs =>
      have hx := ha x (List.mem_cons_self ..)
      cases xs with
      | nil => cases cl with
        | builtin b => cases b <;> (rcases tl with _ | ⟨t, _ | ⟨u, tl⟩⟩ <;> first | rfl | simp only [hx])
        | _ => simp only [hx]
      | cons y ys =>
        have hy := ha y (by simp)
        cases cl with
        | builtin b => cases b <;> (rcases tl with _ | ⟨t, _ | ⟨u, tl⟩⟩ <;> first | rfl | simp only [hx, hy])
        | _ => simp only [hx, hy]
  | _ => first | rfl | (simp [Op.operands] at h; simp only [effI, h])
theorem ctlI_congr {op : Op} (h : ∀ y ∈ op.operands.toList, q y = q' y) : ctlI q E op = ctlI q' E op := by
  cases op with
  | call c =>
    have ha : c.args.toList.map q = c.args.toList.map q' := List.map_congr_left fun y hy => h y (call_ops (.inr (.inr hy)))
    have ha1 : ∀ y ∈ c.args.toList, q y = q' y := fun y hy => h y (call_ops (.inr (.inr hy)))
    have hf : ∀ f, c.callee = .value f → q f = q' f := fun f hc => h f (call_ops (.inl ⟨f, hc, rfl⟩))
    have hr : ∀ r n, c.callee = .invoke r n → q r = q' r := fun r n hc => h r (call_ops (.inr (.inl ⟨r, n, hc, rfl⟩)))
    unfold ctlI
    simp only
    generalize c.callee = cl at hf hr
    rw [ha]
    generalize c.args.toList = al at ha ha1
    cases cl with
    | builtin b =>
      cases b <;> first | rfl | skip
      cases al with
      | nil => rfl
      | cons x xs => simp only [ha1 x (List.mem_cons_self ..)]
    | invoke r n => simp only [hr r n rfl]
    | value f => have := hf f rfl; cases f <;> first | rfl | simp only [this]
  | defer c =>
    have ha : c.args.toList.map q = c.args.toList.map q' := List.map_congr_left fun y hy => h y (call_ops (.inr (.inr hy)))
    have ha1 : ∀ y ∈ c.args.toList, q y = q' y := fun y hy => h y (call_ops (.inr (.inr hy)))
    have hf : ∀ f, c.callee = .value f → q f = q' f := fun f hc => h f (call_ops (.inl ⟨f, hc, rfl⟩))
    have hr : ∀ r n, c.callee = .invoke r n → q r = q' r := fun r n hc => h r (call_ops (.inr (.inl ⟨r, n, hc, rfl⟩)))
    unfold ctlI
    simp only
    generalize c.callee = cl at hf hr
    rw [ha]
    generalize c.args.toList = al at ha ha1
    generalize c.argTypes.toList = tl
    cases cl with
    | builtin b =>
      cases b <;> first | rfl | skip
      rcases tl with _ | ⟨t, tl⟩ <;> rcases al with _ | ⟨x, _ | ⟨y, al⟩⟩ <;> first | rfl | skip
      simp only [ha1 x (by simp), ha1 y (by simp)]
    | invoke r n => simp only [hr r n rfl]
    | value f => simp only [hf f rfl]
  | _ => first | rfl | (simp [Op.operands] at h; simp only [ctlI, h])
theorem insU_congr {d : Dst} {o : Oper} (h : ∀ y ∈ o.op.operands.toList, q y = q' y) : insU q E d o = insU q' E d o := by
  unfold insU
  rw [pureI_congr h, allocI_congr h, effI_congr h, ctlI_congr h]
theorem insOf_congr {arr : Array Oper} {d : Dst} {o : Oper} (h : ∀ y ∈ o.op.operands.toList, q y = q' y) (hg : ∀ y w, guardOf arr o = some (y, w) → q y = q' y) : insOf q E arr d o = insOf q' E arr d o := by
  unfold insOf insG
  rw [insU_congr h]
  unfold guardOf at hg
  cases hgd : o.guard with
  | none => rfl
  | some p =>
    obtain ⟨j, want⟩ := p
    rw [hgd] at hg
    simp only at hg ⊢
    cases hj : arr[j]? with
    | none => rfl
    | some p =>
      rw [hj] at hg
      simp only at hg ⊢
      cases hd : p.dst with
      | none => rfl
      | some t =>
        rw [hd] at hg
        simp only at hg ⊢
        rw [hg _ _ rfl]
end
end Go.Ev

namespace Go.Ev
set_option linter.unusedVariables false
set_option linter.unusedSectionVars false
set_option linter.unusedSimpArgs false
noncomputable section
variable [Val] [Fk]
/-! ## objects made, seen by themselves -/
def Stat : Ob → Prop
  | .cells ro gen sz dp ext c => (Tr.Wf dp c ∧ ∀ r, ext ≤ r → c.get r = none) ∧ ∀ r l gw, c.get r = some (.mk l gw) → gw ≤ gen
  | .iv _ _ => False
  | .lst _ _ _ _ _ => False
  | _ => True
theorem Stat.or {B : Nat} {μ : Mu} {w : World} {f : Key} {ob : Ob} (h : Stat ob) (hμ : ∀ g, μ f g = none) : OR B μ w f ob := by
  cases ob with
  | none => exact hμ
  | cells ro gen sz dp ext c =>
    refine ⟨h.1, ⟨fun g _ => hμ g, h.2⟩, fun g b s n hm => ?_⟩
    rw [hμ] at hm; cases hm
  | map es cl => exact ⟨fun g _ => hμ g, fun b s n hm => by rw [hμ] at hm; cases hm⟩
  | strIter s p => exact ⟨fun g _ => hμ g, fun b s n hm => by rw [hμ] at hm; cases hm⟩
  | mapIter a b c d => exact ⟨fun g _ => hμ g, fun b s n hm => by rw [hμ] at hm; cases hm⟩
  | loop a b c d e f g i j => exact ⟨fun g _ => hμ g, fun b s n hm => by rw [hμ] at hm; cases hm⟩
  | mapu es => exact ⟨fun g _ => hμ g, fun b s n hm => by rw [hμ] at hm; cases hm⟩
  | iv a b => exact h.elim
  | lst a b c d e => exact h.elim
  | deferred ds => exact ⟨fun g _ => hμ g, fun b s n hm => by rw [hμ] at hm; cases hm⟩
theorem stat_rowOf (l : List AV) : Stat (rowOf l) := by
  refine ⟨⟨.lf _, fun r hr => ?_⟩, fun r l' gw hg => ?_⟩
  · rw [Tr.get_lf, if_neg (by omega)]
  · rw [Tr.get_lf] at hg
    split at hg
    · simp only [Option.some.injEq, Row.mk.injEq] at hg; omega
    · cases hg
theorem stat_chunks {ro : Bool} {gen sz n sz' : Nat} {l : List AV} : Stat (.cells ro gen sz' (depthFor n 25 0) n (Tr.ofList (depthFor n 25 0) (chunks sz n l))) := by
  refine ⟨⟨Tr.ofList_wf _ _, fun r hr => ?_⟩, fun r l' gw hg => ?_⟩
  · cases hg : (Tr.ofList (depthFor n 25 0) (chunks sz n l)).get r with
    | none => rfl
    | some x =>
      have := Tr.ofList_some _ _ _ _ hg
      have := (List.getElem?_eq_some_iff.1 this).1
      rw [chunks_length] at this; omega
  · rw [(chunks_get _ _ _ _ _ _ (Tr.ofList_some _ _ _ _ hg)).2.1]; exact Nat.zero_le _
theorem stat_allocOb (E : Env) (t : TypeId) (z : AV) : Stat (allocOb E t z) ∧ (allocOb E t z).isNone = false := by
  unfold allocOb
  split
  · split
    · cases Nat.beq z.cells.length (_ * (_ + 1)) with
      | true => exact ⟨stat_chunks, rfl⟩
      | false => exact ⟨stat_rowOf _, rfl⟩
    · exact ⟨stat_rowOf _, rfl⟩
  · exact ⟨stat_rowOf _, rfl⟩
theorem ai_stat {p : AI} {h : Hp} {nx : Key} {L : Lo} {ob : Ob} {a : AV} (hev : p.ev h nx L = some (ob, a)) (hp : ∀ o, p = .alloc o → Stat o ∧ o.isNone = false) : Stat ob ∧ ob.isNone = false ∧ keyOfA a = some nx := by
  have fin : ∀ {o : Ob} {v : AV}, some (o, v) = some (ob, a) → Stat o → o.isNone = false → keyOfA v = some nx → Stat ob ∧ ob.isNone = false ∧ keyOfA a = some nx := by
    intro o v h1 h2 h3 h4
    simp only [Option.some.injEq, Prod.mk.injEq] at h1
    obtain ⟨rfl, rfl⟩ := h1
    exact ⟨h2, h3, h4⟩
  cases p with
  | alloc o => obtain ⟨h1, h2⟩ := hp o rfl; exact fin hev h1 h2 rfl
  | box sz n x =>
    have hev : cellsK (getO x L) none (fun l => some (boxOb sz n l, AV.ptr nx 0 0)) = some (ob, a) := hev
    generalize getO x L = v at hev
    have hb : ∀ l, Stat (boxOb sz n l) ∧ (boxOb sz n l).isNone = false := by
      intro l
      unfold boxOb
      cases Nat.beq sz 0 with
      | true => exact ⟨stat_rowOf _, rfl⟩
      | false =>
        cases Nat.beq l.length (Nat.mul n sz) with
        | true => exact ⟨stat_chunks, rfl⟩
        | false => exact ⟨stat_rowOf _, rfl⟩
    cases v <;> first | (cases hev; done) | exact fin hev (hb _).1 (hb _).2 rfl
  | bslice sz len z ps =>
    unfold AI.ev at hev
    simp only at hev
    split at hev
    · exact fin hev stat_chunks rfl rfl
    · cases hev
  | mkMap => exact fin hev trivial rfl rfl
  | mkMapN x =>
    obtain ⟨k, n, _, hev⟩ := asInt_some (show asInt (getO x L) none (fun _ _ => some (Ob.map [] 0, AV.map nx)) = some (ob, a) from hev)
    exact fin hev trivial rfl rfl
  | mkSlice sz z l c =>
    obtain ⟨k, n, _, hev⟩ := asInt_some (show asInt (getO l L) none (fun _ i => icase i (fun l => idx c L none fun c => cnd (Nat.ble l c) (cnd (Nat.ble c 100000) (some (rowsOf sz c (repL z c), AV.slice nx 0 0 l c sz true)) none) none) (fun _ => none)) = some (ob, a) from hev)
    cases n with
    | negSucc n => cases hev
    | ofNat n =>
      obtain ⟨k, m, _, hev⟩ := asInt_some (show asInt (getO c L) none (fun _ i => icase i (fun c => cnd (Nat.ble n c) (cnd (Nat.ble c 100000) (some (rowsOf sz c (repL z c), AV.slice nx 0 0 n c sz true)) none) none) (fun _ => none)) = some (ob, a) from hev)
      cases m with
      | negSucc m => cases hev
      | ofNat m =>
        have hev : cnd (Nat.ble n m) (cnd (Nat.ble m 100000) (some (rowsOf sz m (repL z m), AV.slice nx 0 0 n m sz true)) none) none = some (ob, a) := hev
        cases h1 : Nat.ble n m with
        | false => rw [h1] at hev; cases hev
        | true =>
          cases h2 : Nat.ble m 100000 with
          | false => rw [h1, h2] at hev; cases hev
          | true => rw [h1, h2] at hev; exact fin hev stat_chunks rfl rfl
  | s2b x =>
    obtain ⟨s, _, hev⟩ := asStr_some (show asStr (getO x L) none (fun s => some (bytesOb s, AV.slice nx strGen 0 s.length s.length 1 false)) = some (ob, a) from hev)
    exact fin hev stat_chunks rfl rfl
  | rangeS x =>
    obtain ⟨s, _, hev⟩ := asStr_some (show asStr (getO x L) none (fun s => some (Ob.strIter s 0, AV.ptr nx 0 0)) = some (ob, a) from hev)
    exact fin hev trivial rfl rfl
  | rangeM x =>
    unfold AI.ev at hev
    simp only at hev
    split at hev
    · exact fin hev trivial rfl rfl
    · generalize hget _ h = o at hev
      cases o <;> first | (cases hev; done) | exact fin hev trivial rfl rfl
    · cases hev
  | bad => cases hev
theorem allocI_alloc {q : Operand → Opd} {E : Env} {op : Op} {o : Ob} (h : allocI q E op = .alloc o) : Stat o ∧ o.isNone = false := by
  unfold allocI at h
  split at h
  · split at h
    · cases h; exact stat_allocOb _ _ _
    · cases h
  · split at h
    · split at h <;> cases h
    · cases h
  · split at h
    · split at h
      · rename_i n z _ _
        cases hb : Nat.beq z.cells.length n && Nat.ble (_ * n) 16777216 with
        | false => rw [hb] at h; cases h
        | true =>
          rw [hb] at h
          simp only [cond_true] at h
          split at h <;> cases h
      · cases h
    · cases h
  · split at h
    · cases h
    · split at h <;> cases h
  · split at h
    · split at h
      · rename_i n z _ _
        cases hb : Nat.beq z.cells.length n && Nat.ble (bytesO E _) 1000000 with
        | false => rw [hb] at h; cases h
        | true => rw [hb] at h; cases h
      · cases h
    · cases h
  · rename_i s d x
    cases hb : convB E s d with
    | false => rw [hb] at h; cases h
    | true => rw [hb] at h; cases h
  · split at h <;> cases h
  · cases h
theorem alloc_stat {q : Operand → Opd} {E : Env} {op : Op} {h : Hp} {nx : Key} {L : Lo} {ob : Ob} {a : AV} (hev : (allocI q E op).ev h nx L = some (ob, a)) : Stat ob ∧ ob.isNone = false ∧ keyOfA a = some nx :=
  ai_stat hev fun o ho => allocI_alloc ho
theorem allocI_rangeM {q : Operand → Opd} {E : Env} {op : Op} {x : Opd} (h : allocI q E op = .rangeM x) : ∃ y, y ∈ op.operands.toList ∧ x = q y := by
  unfold allocI at h
  split at h
  · split at h <;> cases h
  · split at h
    · split at h <;> cases h
    · cases h
  · split at h
    · split at h
      · rename_i n z _ _
        cases hb : Nat.beq z.cells.length n && Nat.ble (_ * n) 16777216 with
        | false => rw [hb] at h; cases h
        | true =>
          rw [hb] at h
          simp only [cond_true] at h
          split at h <;> cases h
      · cases h
    · cases h
  · split at h
    · cases h
    · split at h <;> cases h
  · split at h
    · split at h
      · rename_i n z _ _
        cases hb : Nat.beq z.cells.length n && Nat.ble (bytesO E _) 1000000 with
        | false => rw [hb] at h; cases h
        | true => rw [hb] at h; cases h
      · cases h
    · cases h
  · rename_i s d x
    cases hb : convB E s d with
    | false => rw [hb] at h; cases h
    | true => rw [hb] at h; cases h
  · split at h
    · cases h
    · cases h; exact ⟨_, by simp [Op.operands], rfl⟩
    · cases h
  · cases h
theorem ai_heap {p : AI} {h h' : Hp} {nx : Key} {L : Lo} (hr : ∀ x f, p = .rangeM x → getO x L = .map f → hget f h' = hget f h) : p.ev h' nx L = p.ev h nx L := by
  cases p with
  | rangeM x =>
    unfold AI.ev
    simp only
    split
    · rfl
    · rename_i f he; rw [hr x f rfl he]
    · rfl
  | _ => rfl
/-! ## the same object -/
theorem treq_eq : ∀ (a b : Tr Row), treq a b = true → a = b := by
  intro a
  induction a with
  | e => intro b h; cases b <;> first | rfl | cases h
  | lf x =>
    obtain ⟨l, g⟩ := x
    intro b h
    cases b with
    | lf y =>
      obtain ⟨l', g'⟩ := y
      have h : cnd (aveqs l l') (Nat.beq g g') false = true := h
      cases hl : aveqs l l' with
      | false => rw [hl] at h; cases h
      | true =>
        rw [hl] at h
        rw [aveqs_eq _ _ hl, Nat.eq_of_beq_eq_true h]
    | _ => cases h
  | n l r ihl ihr =>
    intro b h
    cases b with
    | n l' r' =>
      have h : cnd (treq l l') (treq r r') false = true := h
      cases hl : treq l l' with
      | false => rw [hl] at h; cases h
      | true =>
        rw [hl] at h
        rw [ihl _ hl, ihr _ h]
    | _ => cases h
theorem obeq_eq {a b : Ob} (h : obeq a b = true) : a = b := by
  unfold obeq at h
  split at h
  · rename_i r g s d e c r' g' s' d' e' c'
    cases h0 : cnd r r' (bnot r') with
    | false => rw [h0] at h; cases h
    | true =>
      have e0 : r = r' := by cases r <;> cases r' <;> first | rfl | cases h0
      cases h1 : Nat.beq g g' with
      | false => rw [h0, h1] at h; cases h
      | true =>
        cases h2 : Nat.beq s s' with
        | false => rw [h0, h1, h2] at h; cases h
        | true =>
          cases h3 : Nat.beq d d' with
          | false => rw [h0, h1, h2, h3] at h; cases h
          | true =>
            cases h4 : Nat.beq e e' with
            | false => rw [h0, h1, h2, h3, h4] at h; cases h
            | true =>
              rw [h0, h1, h2, h3, h4] at h
              have h5 := treq_eq _ _ (show treq c c' = true from h)
              rw [e0, Nat.eq_of_beq_eq_true h1, Nat.eq_of_beq_eq_true h2, Nat.eq_of_beq_eq_true h3, Nat.eq_of_beq_eq_true h4, h5]
  · rw [Nat.eq_of_beq_eq_true h]
  · cases h
/-! ## what hangs on memory -/
theorem mem_free {E : Env} {p : PI} (hp : memP p = false) (h h' : Hp) (L : Lo) : p.ev E h L = p.ev E h' L := by
  cases p <;> first | rfl | cases hp
end
end Go.Ev

namespace Go.Ev
set_option linter.unusedVariables false
set_option linter.unusedSectionVars false
set_option linter.unusedSimpArgs false
noncomputable section
variable [Val] [Fk]
/-! ## memory that grows -/
def Grow (h h' : Hp) : Prop := ∀ f, (hget f h).isNone = false → hget f h' = hget f h
theorem Grow.new {h : Hp} {nx : Key} {ob : Ob} (hn : (hget nx h).isNone = true) : Grow h (hset nx ob h) := fun f hf => by
  have : nx ≠ f := fun e => by subst e; rw [hn] at hf; cases hf
  exact hget_hset_ne this _ _
theorem mapUs_not {h : Hp} {m : AV} {v : List En} (hv : mapUs h m = some v) : mapEs h m = none := by
  unfold mapUs at hv
  split at hv
  · rename_i f
    unfold mapEs
    show asMapO (hget f h) none _ = none
    cases ho : hget f h with
    | mapu a => rfl
    | _ => rw [ho] at hv; cases hv
  · cases hv
section
variable {h h' : Hp} (hg : Grow h h')
include hg
theorem asCells_grow {R : Type} {f : Key} {e : R} {k : Bool → Nat → Nat → Nat → Nat → Tr Row → R} (hne : asCells (hget f h) e k ≠ e) : asCells (hget f h') e k = asCells (hget f h) e k := by
  cases ho : hget f h with
  | cells a b c d e g => rw [hg f (by rw [ho]; rfl), ho]
  | _ => rw [ho] at hne; exact absurd rfl hne
theorem asMapO_grow {R : Type} {f : Key} {e : R} {k : List En → Nat → R} (hne : asMapO (hget f h) e k ≠ e) : asMapO (hget f h') e k = asMapO (hget f h) e k := by
  cases ho : hget f h with
  | map a b => rw [hg f (by rw [ho]; rfl), ho]
  | _ => rw [ho] at hne; exact absurd rfl hne
theorem getCell_grow {f : Key} {g o : Nat} {v : AV} (hv : getCell h f g o = some v) : getCell h' f g o = some v := by
  rw [← hv]; unfold getCell at hv ⊢; exact asCells_grow hg (by rw [hv]; simp)
theorem getCells_grow {f : Key} {g o n : Nat} {v : List AV} (hv : getCells h f g o n = some v) : getCells h' f g o n = some v := by
  unfold getCells at hv ⊢
  cases hn : Nat.beq n 0 with
  | true => rw [hn] at hv; exact hv
  | false =>
    rw [hn] at hv
    simp only [cnd_false] at hv ⊢
    rw [← hv]; exact asCells_grow hg (by rw [hv]; simp)
theorem mapEs_grow {m : AV} {v : List En} (hv : mapEs h m = some v) : mapEs h' m = some v := by
  unfold mapEs at hv ⊢
  split at hv
  · exact hv
  · rw [← hv]; exact asMapO_grow hg (by rw [hv]; simp)
  · cases hv
theorem asMapU_grow {R : Type} {f : Key} {e : R} {k : List En → R} (hne : asMapU (hget f h) e k ≠ e) : asMapU (hget f h') e k = asMapU (hget f h) e k := by
  cases ho : hget f h with
  | mapu a => rw [hg f (by rw [ho]; rfl), ho]
  | _ => rw [ho] at hne; exact absurd rfl hne
theorem mapUs_grow {m : AV} {v : List En} (hv : mapUs h m = some v) : mapUs h' m = some v := by
  unfold mapUs at hv ⊢
  split at hv
  · rw [← hv]; exact asMapU_grow hg (by rw [hv]; simp)
  · cases hv
theorem lookV_grow {E : Env} {kt : Ty} {k m : AV} {r : Option AV} (hv : lookV E kt k h m = some r) : lookV E kt k h' m = some r := by
  unfold lookV at hv ⊢
  cases h1 : mapEs h m with
  | some es => rw [h1] at hv; rw [mapEs_grow hg h1]; exact hv
  | none =>
    rw [h1] at hv
    simp only [opt_none] at hv
    cases h2 : mapUs h m with
    | none => rw [h2] at hv; cases hv
    | some es =>
      rw [h2] at hv
      rw [mapUs_not (mapUs_grow hg h2), mapUs_grow hg h2]
      exact hv
theorem asLst_grow {R : Type} {f : Key} {e : R} {k : Bool → Nat → Nat → Key → List (List AV) → R} (hne : asLst (hget f h) e k ≠ e) : asLst (hget f h') e k = asLst (hget f h) e k := by
  cases ho : hget f h with
  | lst a b c d g => rw [hg f (by rw [ho]; rfl), ho]
  | _ => rw [ho] at hne; exact absurd rfl hne
theorem rowN_grow {f : Key} {g sz : Nat} {k : Key} {c : Int} {v : List AV} (hv : rowN h f g sz k c = some v) : rowN h' f g sz k c = some v := by
  rw [← hv]; unfold rowN at hv ⊢; exact asLst_grow hg (by rw [hv]; simp)
theorem b2sN_grow {f : Key} {g sz : Nat} {k : Key} {c : Int} {q : Key} {d : Int} {v : AV} (hv : b2sN h f g sz k c q d = some v) : b2sN h' f g sz k c q d = some v := by
  unfold b2sN at hv ⊢
  cases hemp : isEmptyN k c q d with
  | true => rw [hemp] at hv; exact hv
  | false =>
  rw [hemp] at hv
  replace hv : b2sN0 h f g sz k c q d = some v := hv
  show b2sN0 h' f g sz k c q d = some v
  unfold b2sN0 at hv ⊢
  obtain ⟨h1, hv⟩ := cnd_inv hv
  obtain ⟨h2, hv⟩ := cnd_inv hv
  obtain ⟨h3, hv⟩ := cnd_inv hv
  rw [h1, h2, h3]
  simp only [cnd_true]
  rw [← hv]; exact asLst_grow hg (by rw [hv]; simp)
theorem load1_grow {x : Opd} {L : Lo} {v : AV} (hv : xLoad1 x h L = some v) : xLoad1 x h' L = some v := by
  obtain ⟨f, g, o, h1, h2⟩ := asPtr_some (show asPtr (getO x L) none (fun f g o => getCell h f g o) = some v from hv)
  show asPtr (getO x L) none (fun f g o => getCell h' f g o) = some v
  rw [h1]; exact getCell_grow hg h2
theorem loadN_grow {n : Nat} {x : Opd} {L : Lo} {v : AV} (hv : xLoadN n x h L = some v) : xLoadN n x h' L = some v := by
  obtain ⟨f, g, o, h1, h2⟩ := asPtr_some (show asPtr (getO x L) none (fun f g o => opt (getCells h f g o n) none fun l => some (.agg l)) = some v from hv)
  show asPtr (getO x L) none (fun f g o => opt (getCells h' f g o n) none fun l => some (.agg l)) = some v
  rw [h1]
  cases hc : getCells h f g o n with
  | none => rw [hc] at h2; cases h2
  | some l => rw [hc] at h2; show opt (getCells h' f g o n) none _ = _; rw [getCells_grow hg hc]; exact h2
theorem b2s_grow {x : Opd} {L : Lo} {v : AV} (hv : xB2s x h L = some v) : xB2s x h' L = some v := by
  unfold xB2s at hv ⊢
  split at hv
  · exact hv
  · split at hv
    · rename_i hc; rw [getCells_grow hg hc]; exact hv
    · cases hv
  · cases hv
theorem mem_grow {E : Env} {p : PI} {L : Lo} {v : AV} (hv : p.ev E h L = some v) : p.ev E h' L = some v := by
  cases hm : memP p with
  | false => rw [mem_free hm h' h]; exact hv
  | true =>
    cases p <;> first | (cases hm; done) | skip
    · rename_i x
      have hv : xLoad1X x h L = some v := hv
      show xLoad1X x h' L = some v
      unfold xLoad1X at hv ⊢
      cases hx : getO x L with
      | nix f g sz k c o =>
        rw [hx] at hv
        obtain ⟨l, hl, hv⟩ := opt_inv (show opt (rowN h f g sz k c) none (fun l => nthA l o) = some v from hv)
        show opt (rowN h' f g sz k c) none (fun l => nthA l o) = some v
        rw [rowN_grow hg hl]; exact hv
      | _ => rw [hx] at hv; exact load1_grow hg hv
    · rename_i n x
      have hv : xLoadNX n x h L = some v := hv
      show xLoadNX n x h' L = some v
      unfold xLoadNX at hv ⊢
      cases hx : getO x L with
      | nix f g sz k c o =>
        rw [hx] at hv
        obtain ⟨l, hl, hv⟩ := opt_inv (show opt (rowN h f g sz k c) none (fun l => cnd (Nat.ble (Nat.add o n) l.length) (some (AV.agg ((l.drop o).take n))) none) = some v from hv)
        show opt (rowN h' f g sz k c) none (fun l => cnd (Nat.ble (Nat.add o n) l.length) (some (AV.agg ((l.drop o).take n))) none) = some v
        rw [rowN_grow hg hl]; exact hv
      | _ => rw [hx] at hv; exact loadN_grow hg hv
    · rename_i x
      have hv : xB2sX x h L = some v := hv
      show xB2sX x h' L = some v
      unfold xB2sX at hv ⊢
      cases hx : getO x L with
      | nsl f g sz k c q d m => rw [hx] at hv; exact b2sN_grow hg (g := g) hv
      | _ => rw [hx] at hv; exact b2s_grow hg hv
    · rename_i n sz x lo hi mx
      obtain ⟨f, g, o, h1, h2⟩ := asPtr_some (show asPtr (getO x L) none (fun f g o => cnd (arrThere h f g o n sz) (bnd lo L 0 none fun l => bnd hi L n none fun hh => bnd mx L n none fun m => cutSl f g o n n sz true l hh m mx.isSome) none) = some v from hv)
      show asPtr (getO x L) none (fun f g o => cnd (arrThere h' f g o n sz) (bnd lo L 0 none fun l => bnd hi L n none fun hh => bnd mx L n none fun m => cutSl f g o n n sz true l hh m mx.isSome) none) = some v
      rw [h1]
      show cnd (arrThere h' f g o n sz) _ none = some v
      have ht : arrThere h f g o n sz = true := by
        cases hh : arrThere h f g o n sz with
        | true => rfl
        | false => rw [hh] at h2; cases h2
      have ht' : arrThere h' f g o n sz = true := by
        unfold arrThere at ht ⊢
        cases h3 : Nat.beq n 0 with
        | true => rfl
        | false =>
          cases h4 : Nat.beq sz 0 with
          | true => rw [h3, h4] at ht; cases ht
          | false =>
            rw [h3, h4] at ht
            simp only [cnd_false] at ht ⊢
            cases hc : getCell h f g (Nat.sub (Nat.add o (Nat.mul n sz)) 1) with
            | none => rw [hc] at ht; cases ht
            | some u => rw [getCell_grow hg hc]; rfl
      rw [ht] at h2
      rw [ht']
      exact h2
    · rename_i kt z ok x k
      have hv : opt (lookV E kt (getO k L) h (getO x L)) none (fun r => opt r (some (cnd ok (.tuple [z, .bool false]) z)) fun e => some (cnd ok (.tuple [e, .bool true]) e)) = some v := hv
      show opt (lookV E kt (getO k L) h' (getO x L)) none _ = some v
      cases hm : lookV E kt (getO k L) h (getO x L) with
      | none => rw [hm] at hv; cases hv
      | some es => rw [hm] at hv; rw [lookV_grow hg hm]; exact hv
    · rename_i x
      have hv : opt (mapEs h (getO x L)) none (fun es => some (AV.int .i64 (.ofNat es.length))) = some v := hv
      show opt (mapEs h' (getO x L)) none _ = some v
      cases hm : mapEs h (getO x L) with
      | none => rw [hm] at hv; cases hv
      | some es => rw [hm] at hv; rw [mapEs_grow hg hm]; exact hv
    · rename_i x
      have hv : xEntry x h L = some v := hv
      show xEntry x h' L = some v
      unfold xEntry at hv ⊢
      obtain ⟨f, g, o, h1, h2⟩ := asPtr_some hv
      rw [h1]
      show cnd (Nat.beq o 0) _ none = some v
      cases h3 : Nat.beq o 0 with
      | false => rw [h3] at h2; cases h2
      | true =>
        rw [h3] at h2
        simp only [cnd_true] at h2 ⊢
        split at h2
        · rename_i m s seen stepped ho
          rw [hg f (by rw [ho]; rfl), ho]
          simp only
          rw [← h2]
          exact asMapO_grow hg (by rw [h2]; simp)
        · cases h2
    · rename_i g
      have hv : asCells (hget g h) none (fun _ _ _ _ _ _ => some (AV.bool false)) = some v := hv
      show asCells (hget g h') none _ = some v
      rw [← hv]; exact asCells_grow hg (by rw [hv]; simp)
theorem ai_grow {p : AI} {nx : Key} {L : Lo} {r : Ob × AV} (hv : p.ev h nx L = some r) : p.ev h' nx L = some r := by
  cases p with
  | rangeM x =>
    unfold AI.ev at hv ⊢
    simp only at hv ⊢
    split at hv
    · exact hv
    · rename_i f he; rw [← hv]; exact asMapO_grow hg (by rw [hv]; simp)
    · cases hv
  | _ => exact hv
end
/-! ## slots put -/
theorem put_same {t : Nat} {v : AV} {L : Lo} : getT t (Go.Ev.put (dst (some t)) v L).tm = v := by
  show getT t (Go.Ev.put (slot t .s) v L).tm = v
  rw [put_s, tm_mk, getT_setT]
theorem put_ne {od : Option Nat} {n u : Nat} {v : AV} {L : Lo} (hok : okD n od = true) (hu : u < 512) (hne : od ≠ some u) : getT u (Go.Ev.put (dst od) v L).tm = getT u L.tm := by
  cases od with
  | none => rw [show dst none = .no from rfl, put_no]
  | some t =>
    have ht : t < 512 := by
      unfold okD at hok
      simp only [Bool.and_eq_true] at hok
      exact Nat.le_of_ble_eq_true hok.2
    show getT u (Go.Ev.put (slot t .s) v L).tm = _
    rw [put_s, tm_mk, getT_setT_ne ht hu (fun e => hne (by rw [e]))]
theorem qOf_put {E : Env} {x : Cx} {od : Option Nat} {v : AV} {L : Lo} (hok : okD x.n od = true) {y : Operand} (hy : ∀ t, y = .tmp t → od ≠ some t) : getO (qOf E x y) (Go.Ev.put (dst od) v L) = getO (qOf E x y) L := by
  cases y with
  | tmp u =>
    show getO (slotX x.nd u) _ = getO (slotX x.nd u) _
    rw [slotX_getO, slotX_getO]
    split
    · rename_i h; exact put_ne hok (inNd_lt h) (hy u rfl)
    · rfl
  | const c => exact (getO_c _ _).trans (getO_c _ _).symm
  | func f => exact (getO_c _ _).trans (getO_c _ _).symm
  | global g =>
    show getO (bif inM (gl E) g then .c (.ptr (Key.ofNat g) 0 0) else .c .top) _ = getO (bif inM (gl E) g then .c (.ptr (Key.ofNat g) 0 0) else .c .top) _
    cases inM (gl E) g <;> exact (getO_c _ _).trans (getO_c _ _).symm
end
end Go.Ev

namespace Go.Ev
set_option linter.unusedVariables false
set_option linter.unusedSectionVars false
set_option linter.unusedSimpArgs false
noncomputable section
variable [Val] [Fk]
/-! ## what was looked at of a region -/
section
variable {E : Env} {x : Cx} {arr : Array Oper} (s : DrSt E x arr)
include s
theorem DrSt.ok {i : Nat} {o : Oper} (ho : arr[i]? = some o) : okD x.n o.dst = true ∧ resOk E x.res o = true ∧ dstOk E (qOf E x) o = true := by
  have hmem : o ∈ arr.toList := by rw [Array.mem_toList_iff]; exact Array.mem_of_getElem? ho
  have := List.all_eq_true.1 s.ops o hmem
  simp only [Bool.and_eq_true] at this
  exact ⟨this.1, this.2.1, this.2.2⟩
theorem DrSt.ord1 {i : Nat} {o : Oper} (ho : arr[i]? = some o) : (∀ j w, o.guard = some (j, w) → inM (pre arr i) j = true) ∧ (∀ e ∈ o.after, Region.binds .any e = true → e.on < i) ∧
    ∀ t, o.dst = some t → ∀ i' o', arr[i']? = some o' →
      (i = i' → isQ E o = true → t ∉ readsOf arr o) ∧ (i ≠ i' → o'.dst ≠ some t ∧ (t ∈ readsOf arr o' → inM (pre arr i') i = true ∨ (isQ E o = false ∧ inM (pre arr i) i' = true))) := by
  have h := List.all_eq_true.1 (show ((marked arr).all _) = true from s.order) (i, o, pre arr i) (mem_marked.2 ⟨ho, rfl⟩)
  simp only [Bool.and_eq_true] at h
  obtain ⟨⟨h1, h2⟩, h3⟩ := h
  refine ⟨fun j w hg => by rw [hg] at h1; exact h1, fun e he hb => ?_, fun t ht i' o' ho' => ?_⟩
  · rw [Array.all_eq_true'] at h2
    have := h2 e he
    rw [hb] at this
    simpa using this
  · rw [ht] at h3
    have h4 := List.all_eq_true.1 h3 (i', o', pre arr i') (mem_marked.2 ⟨ho', rfl⟩)
    simp only at h4
    cases hb : Nat.beq i i' with
    | true =>
      have := Nat.eq_of_beq_eq_true hb; subst this
      rw [Nat.beq_refl] at h4
      rw [ho] at ho'; cases ho'
      refine ⟨fun _ hq hm => ?_, fun hne => absurd rfl hne⟩
      rw [hq] at h4
      simp only [cond_true, Bool.not_true, Bool.false_or, Bool.not_eq_true'] at h4
      rw [List.contains_iff_mem.2 hm] at h4; cases h4
    | false =>
      rw [hb] at h4
      simp only [cond_false, Bool.and_eq_true] at h4
      obtain ⟨h5, h6⟩ := h4
      refine ⟨fun e => ?_, fun _ => ⟨fun hd => ?_, fun hm => ?_⟩⟩
      · subst e; rw [Nat.beq_refl] at hb; cases hb
      · rw [hd] at h5
        simp only [Nat.beq_refl, Bool.not_true] at h5; cases h5
      · rw [List.contains_iff_mem.2 hm] at h6
        simp only [Bool.not_true, Bool.false_or, Bool.or_eq_true, Bool.and_eq_true, Bool.not_eq_true'] at h6
        exact h6
end
theorem reads_op {arr : Array Oper} {o : Oper} {t : Nat} (h : Operand.tmp t ∈ o.op.operands.toList) : t ∈ readsOf arr o := by
  unfold readsOf tmpsOf
  refine List.mem_append_right _ ?_
  rw [List.mem_filterMap]
  exact ⟨_, h, rfl⟩
theorem reads_guard {arr : Array Oper} {o : Oper} {t : Nat} {w : Bool} (h : guardOf arr o = some (.tmp t, w)) : t ∈ readsOf arr o := by
  unfold guardOf at h
  unfold readsOf
  refine List.mem_append_left _ ?_
  cases hg : o.guard with
  | none => rw [hg] at h; cases h
  | some p =>
    obtain ⟨j, want⟩ := p
    rw [hg] at h
    simp only at h ⊢
    cases hj : arr[j]? with
    | none => rw [hj] at h; cases h
    | some p =>
      rw [hj] at h
      simp only at h ⊢
      cases hd : p.dst with
      | none => rw [hd] at h; cases h
      | some u =>
        rw [hd] at h
        simp only [Option.some.injEq, Prod.mk.injEq, Operand.tmp.injEq] at h
        obtain ⟨rfl, _⟩ := h
        simp
theorem guardOf_tmp {arr : Array Oper} {o : Oper} {y : Operand} {w : Bool} (h : guardOf arr o = some (y, w)) : ∃ j p t, o.guard = some (j, w) ∧ arr[j]? = some p ∧ p.dst = some t ∧ y = .tmp t := by
  unfold guardOf at h
  cases hg : o.guard with
  | none => rw [hg] at h; cases h
  | some p =>
    obtain ⟨j, want⟩ := p
    rw [hg] at h
    simp only at h
    cases hj : arr[j]? with
    | none => rw [hj] at h; cases h
    | some p =>
      rw [hj] at h
      simp only at h
      cases hd : p.dst with
      | none => rw [hd] at h; cases h
      | some u =>
        rw [hd] at h
        simp only [Option.some.injEq, Prod.mk.injEq] at h
        obtain ⟨rfl, rfl⟩ := h
        exact ⟨j, p, u, rfl, hj, hd, rfl⟩
/-! ## two places that are alike for an operation -/
structure SameFor (E : Env) (x : Cx) (arr : Array Oper) (o : Oper) (L L' : Lo) : Prop where
  ops : ∀ y ∈ o.op.operands.toList, getO (qOf E x y) L' = getO (qOf E x y) L
  gd : ∀ y w, guardOf arr o = some (y, w) → getO (qOf E x y) L' = getO (qOf E x y) L
  dst : ∀ t, o.dst = some t → getT t L'.tm = getT t L.tm
section
variable {E : Env} {x : Cx} {arr : Array Oper} {o : Oper} {L L' : Lo} (sm : SameFor E x arr o L L')
include sm
theorem SameFor.gon (h : GOn E x arr o L) : GOn E x arr o L' := by
  rcases h with h | ⟨y, w, h1, h2⟩
  · exact .inl h
  · exact .inr ⟨y, w, h1, (sm.gd y w h1).trans h2⟩
theorem SameFor.goff (h : GOff E x arr o L) : GOff E x arr o L' := by
  obtain ⟨y, w, h1, h2⟩ := h
  refine ⟨y, w, h1, ?_⟩
  rw [sm.gd y w h1]; exact h2
theorem SameFor.agr {L0 : Lo} (h : Agr E x o L0 L) : Agr E x o L0 L' := fun y hy => (h y hy).trans (sm.ops y hy).symm
theorem SameFor.tgt : tgtV L' o = tgtV L o := by
  unfold tgtV
  cases hd : o.dst with
  | none => rfl
  | some t => exact sm.dst t hd
theorem SameFor.pendL (h : PendL E x arr o L) : PendL E x arr o L' := by
  rcases h with ⟨h1, h2⟩ | ⟨h1, h2⟩
  · exact .inl ⟨sm.goff h1, fun t ht => (sm.dst t ht).trans (h2 t ht)⟩
  · refine .inr ⟨sm.gon h1, ?_⟩
    split at h2
    · rcases h2 with h2 | ⟨L0, h2, h3⟩
      · exact .inl h2
      · refine .inr ⟨L0, sm.agr h2, fun h => ?_⟩
        obtain ⟨v, h4, h5⟩ := h3 h
        exact ⟨v, h4, fun t ht => (h5 t ht).trans (sm.dst t ht).symm⟩
    · trivial
    · exact h2
theorem SameFor.pendH {h : Hp} (k : PendH E x arr h o L) : PendH E x arr h o L' := by
  rcases k with k | k
  · exact .inl (sm.goff k)
  · refine .inr ?_
    split at k
    · intro hm
      obtain ⟨L0, h1, v, h2, h3⟩ := k hm
      exact ⟨L0, sm.agr h1, v, h2, fun t ht => (h3 t ht).trans (sm.dst t ht).symm⟩
    · obtain ⟨L0, f, h1, h2, h3, h4⟩ := k
      exact ⟨L0, f, sm.agr h1, by rw [sm.tgt]; exact h2, h3, by rw [sm.tgt]; exact h4⟩
    · exact k
end
theorem PendH.grow {E : Env} {x : Cx} {arr : Array Oper} {o : Oper} {L : Lo} {h h' : Hp} (hg : Grow h h') (k : PendH E x arr h o L) : PendH E x arr h' o L := by
  rcases k with k | k
  · exact .inl k
  · refine .inr ?_
    split at k
    · intro hm
      obtain ⟨L0, h1, v, h2, h3⟩ := k hm
      exact ⟨L0, h1, v, mem_grow hg h2, h3⟩
    · obtain ⟨L0, f, h1, h2, h3, h4⟩ := k
      exact ⟨L0, f, h1, h2, by rw [hg f h3]; exact h3, by rw [hg f h3]; exact ai_grow hg h4⟩
    · exact k
theorem no0 {μ : Mu} {tm : Tm} {tmps : Array Value} {X : Nat → Prop} : NeedR 0 X μ tm tmps := fun t ht => by
  unfold inNd at ht
  rw [inM_zero] at ht
  cases hb : Nat.blt t 512 <;> rw [hb] at ht <;> cases ht
section
variable {E : Env} {x : Cx} {arr : Array Oper} (s : DrSt E x arr)
include s
theorem same_put {i i' : Nat} {o o' : Oper} {v : AV} {L : Lo} (ho : arr[i]? = some o) (ho' : arr[i']? = some o') (hne : i ≠ i') (h1 : inM (pre arr i') i = false) (h2 : isQ E o = false → inM (pre arr i) i' = false) :
    SameFor E x arr o' L (Go.Ev.put (dst o.dst) v L) := by
  have hok := (s.ok ho).1
  have key : ∀ t, t ∈ readsOf arr o' → o.dst ≠ some t := by
    intro t ht hd
    rcases (((s.ord1 ho).2.2 t hd i' o' ho').2 hne).2 ht with h | ⟨h, h3⟩
    · rw [h] at h1; cases h1
    · rw [h2 h] at h3; cases h3
  refine ⟨fun y hy => qOf_put hok fun t e => key t (reads_op (by rw [← e]; exact hy)), fun y w hy => qOf_put hok fun t e => key t (reads_guard (by rw [← e]; exact hy)), fun t ht => ?_⟩
  have hok' := (s.ok ho').1
  have ht5 : t < 512 := by
    rw [ht] at hok'
    unfold okD at hok'
    simp only [Bool.and_eq_true] at hok'
    exact Nat.le_of_ble_eq_true hok'.2
  exact put_ne hok ht5 fun hd => (((s.ord1 ho).2.2 t hd i' o' ho').2 hne).1 ht
theorem same_self {i : Nat} {o : Oper} {v : AV} {L : Lo} (ho : arr[i]? = some o) (hq : isQ E o = true) :
    (∀ y ∈ o.op.operands.toList, getO (qOf E x y) (Go.Ev.put (dst o.dst) v L) = getO (qOf E x y) L) ∧ ∀ y w, guardOf arr o = some (y, w) → getO (qOf E x y) (Go.Ev.put (dst o.dst) v L) = getO (qOf E x y) L := by
  have hok := (s.ok ho).1
  have key : ∀ t, t ∈ readsOf arr o → o.dst ≠ some t := fun t ht hd => ((s.ord1 ho).2.2 t hd i o ho).1 rfl hq ht
  exact ⟨fun y hy => qOf_put hok fun t e => key t (reads_op (by rw [← e]; exact hy)), fun y w hy => qOf_put hok fun t e => key t (reads_guard (by rw [← e]; exact hy))⟩
variable {d : Nat} {qs : List (Nat × Oper × Nat)} {idxs : List Nat} {μ : Mu} {L : Lo} {tmps : Array Value} 
theorem DrI.quiet (k : DrI E x arr d qs idxs μ L tmps) {i : Nat} {o : Oper} (hi : i ∈ idxs) (hd : inM d i = true) (ho : arr[i]? = some o) : isQ E o = true := by
  obtain ⟨o', m, hm⟩ := k.hqs i hi hd
  obtain ⟨h1, h2⟩ := k.qsm _ hm
  have := (mem_marked.1 h1).1
  rw [ho] at this; cases this
  exact h2
theorem DrI.reads (k : DrI E x arr d qs idxs μ L tmps) (hG : GR E μ) {j : Nat} {is : List Nat} (hj : idxs = j :: is) {o : Oper} (ho : arr[j]? = some o) :
    (∀ y ∈ o.op.operands.toList, VR μ (getO (qOf E x y) L) (evT tmps y)) ∧ ∀ y w, guardOf arr o = some (y, w) → VR μ (getO (qOf E x y) L) (evT tmps y) := by
  have key : ∀ y, (∀ t, y = .tmp t → t ∈ readsOf arr o) → VR μ (getO (qOf E x y) L) (evT tmps y) := by
    intro y hy
    cases y with
    | tmp t =>
      show VR μ (getO (slotX x.nd t) L) (tmps.getD t undef)
      rw [slotX_getO]
      split
      · rename_i hnd
        refine k.need t hnd ?_
        rintro ⟨i, hi, hd, o1, ho1, hdst⟩
        have hq := DrI.quiet s k hi hd ho1
        have hr := hy t rfl
        by_cases hij : i = j
        · subst hij
          rw [ho] at ho1; cases ho1
          exact ((s.ord1 ho).2.2 t hdst i o ho).1 rfl hq hr
        · rcases (((s.ord1 ho1).2.2 t hdst j o ho).2 hij).2 hr with h | ⟨h, _⟩
          · exact (k.lin.ord [] j is (by simpa using hj) i h).2 (by rw [← hj]; exact hi)
          · rw [hq] at h; cases h
      · simp only [VR]
    | const v => exact need_q (cl := []) (tmps := tmps) hG (X := fun _ => False) (nd := 0) no0 (fun _ h => h) (fun u d x hm => by cases hm) (.const v)
    | func f => exact need_q (cl := []) (tmps := tmps) hG (X := fun _ => False) (nd := 0) no0 (fun _ h => h) (fun u d x hm => by cases hm) (.func f)
    | global g => exact need_q (cl := []) (tmps := tmps) hG (X := fun _ => False) (nd := 0) no0 (fun _ h => h) (fun u d x hm => by cases hm) (.global g)
  exact ⟨fun y hy => key y fun t e => reads_op (by rw [← e]; exact hy), fun y w hy => key y fun t e => reads_guard (by rw [← e]; exact hy)⟩
end
def q2 (E : Env) (x : Cx) (arr : Array Oper) (o : Oper) : Operand → Opd := fun y =>
  open Classical in if y ∈ o.op.operands.toList ∨ ∃ w, guardOf arr o = some (y, w) then qOf E x y else .c .top
theorem q2_op {E : Env} {x : Cx} {arr : Array Oper} {o : Oper} {y : Operand} (hy : y ∈ o.op.operands.toList) : q2 E x arr o y = qOf E x y := by
  unfold q2; rw [if_pos (.inl hy)]
theorem q2_gd {E : Env} {x : Cx} {arr : Array Oper} {o : Oper} {y : Operand} {w : Bool} (hy : guardOf arr o = some (y, w)) : q2 E x arr o y = qOf E x y := by
  unfold q2; rw [if_pos (.inr ⟨w, hy⟩)]
theorem q2_ok {E : Env} {x : Cx} {arr : Array Oper} {o : Oper} {μ : Mu} {L : Lo} {tmps : Array Value}
    (h : (∀ y ∈ o.op.operands.toList, VR μ (getO (qOf E x y) L) (evT tmps y)) ∧ ∀ y w, guardOf arr o = some (y, w) → VR μ (getO (qOf E x y) L) (evT tmps y)) : ∀ y, VR μ (getO (q2 E x arr o y) L) (evT tmps y) := by
  intro y
  unfold q2
  split
  · rename_i hc
    rcases hc with hc | ⟨w, hc⟩
    · exact h.1 y hc
    · exact h.2 y w hc
  · rw [getO_c]; simp only [VR]
theorem q2_ins {E : Env} {x : Cx} {arr : Array Oper} {o : Oper} {d : Dst} : insOf (qOf E x) E arr d o = insOf (q2 E x arr o) E arr d o :=
  insOf_congr (fun y hy => (q2_op hy).symm) fun y w hy => (q2_gd hy).symm
theorem q2_insU {E : Env} {x : Cx} {arr : Array Oper} {o : Oper} {d : Dst} : insU (qOf E x) E d o = insU (q2 E x arr o) E d o :=
  insU_congr fun y hy => (q2_op hy).symm
end
end Go.Ev

namespace Go.Ev
set_option linter.unusedVariables false
set_option linter.unusedSectionVars false
set_option linter.unusedSimpArgs false
noncomputable section
variable [Val] [Fk]
theorem LinR.tail {arr : Array Oper} {i : Nat} {is : List Nat} (k : LinR arr (i :: is)) : LinR arr is :=
  ⟨fun j hj => k.lt j (List.mem_cons_of_mem _ hj), (List.nodup_cons.1 k.nodup).2, fun a j b hab p hp => k.ord (i :: a) j b (by rw [hab]; rfl) p hp⟩
def setD (od : Option Nat) (v : Value) (tmps : Array Value) : Array Value := match od with | some t => tmps.setIfInBounds t v | none => tmps
theorem setD_same {t : Nat} {v : Value} {tmps : Array Value} (h : t < tmps.size) : (setD (some t) v tmps).getD t undef = v := by
  show (tmps.setIfInBounds t v).getD t undef = v
  rw [Array.getD_eq_getD_getElem?, Array.getElem?_setIfInBounds]
  simp [h]
theorem setD_ne {od : Option Nat} {t : Nat} {v : Value} {tmps : Array Value} (h : od ≠ some t) : (setD od v tmps).getD t undef = tmps.getD t undef := by
  cases od with
  | none => rfl
  | some u =>
    show (tmps.setIfInBounds u v).getD t undef = _
    rw [Array.getD_eq_getD_getElem?, Array.getD_eq_getD_getElem?, Array.getElem?_setIfInBounds]
    rw [if_neg (fun e => h (by rw [e]))]
theorem okD_lt {n t : Nat} (h : okD n (some t) = true) : t < n ∧ t < 512 := by
  unfold okD at h
  simp only [Bool.and_eq_true] at h
  exact ⟨Nat.le_of_ble_eq_true h.1, Nat.le_of_ble_eq_true h.2⟩
theorem fm_congr {α β : Type} {f g : α → Option β} : ∀ {l : List α}, (∀ a ∈ l, f a = g a) → l.filterMap f = l.filterMap g
  | [], _ => rfl
  | a :: l, h => by rw [List.filterMap_cons, List.filterMap_cons, h a (List.mem_cons_self ..), fm_congr (l := l) fun b hb => h b (List.mem_cons_of_mem _ hb)]
theorem insU_pu {q : Operand → Opd} {E : Env} {d d' : Dst} {o : Oper} {p : PI} (h : insU q E d o = .pu d' p) : kindOf E o.op = 0 ∧ p = pureI q E o.op := by
  unfold insU at h
  split at h <;> first | (cases h; done) | skip
  rename_i hk
  cases h; exact ⟨hk, rfl⟩
theorem insU_al {q : Operand → Opd} {E : Env} {d d' : Dst} {o : Oper} {p : AI} (h : insU q E d o = .al d' p) : kindOf E o.op = 1 ∧ p = allocI q E o.op := by
  unfold insU at h
  split at h <;> first | (cases h; done) | skip
  rename_i hk
  cases h; exact ⟨hk, rfl⟩
section
variable {E : Env} {x : Cx} {arr : Array Oper} (s : DrSt E x arr) {d : Nat} {qs : List (Nat × Oper × Nat)} {i : Nat} {is : List Nat} {μ : Mu} {L : Lo} {tmps : Array Value} {o : Oper} {v : Value}
include s
theorem DrI.done (k : DrI E x arr d qs (i :: is) μ L tmps) (hd : inM d i = true) (ho : arr[i]? = some o) (hsz : x.n ≤ tmps.size) (hv : ∀ t, o.dst = some t → VR μ (getT t L.tm) v) :
    DrI E x arr d qs is μ L (setD o.dst v tmps) := by
  refine ⟨k.lin.tail, fun j hj hn => ?_, k.dcl, fun j hj hdj => k.hqs j (List.mem_cons_of_mem _ hj) hdj, k.qsm, fun t ht hX => ?_, fun j o' hj hdj ho' => k.pl j o' (List.mem_cons_of_mem _ hj) hdj ho'⟩
  · by_cases e : j = i
    · subst e; exact hd
    · exact k.cd j hj (fun hm => by rcases List.mem_cons.1 hm with h | h; exact e h; exact hn h)
  · by_cases e : o.dst = some t
    · have := okD_lt (e ▸ (s.ok ho).1)
      rw [e, setD_same (by omega)]
      exact hv t e
    · rw [setD_ne e]
      refine k.need t ht ?_
      rintro ⟨j, hj, hdj, o', ho', hdst⟩
      rcases List.mem_cons.1 hj with rfl | hj
      · rw [ho] at ho'; cases ho'; exact e hdst
      · exact hX ⟨j, hj, hdj, o', ho', hdst⟩
theorem DrI.ahead (k : DrI E x arr d qs (i :: is) μ L tmps) {p : Nat} (hp : inM (pre arr i) p = true) : inM d p = true ∧ p ∉ i :: is :=
  ⟨k.cd p (k.lin.ord [] i is rfl p hp).1 (k.lin.ord [] i is rfl p hp).2, (k.lin.ord [] i is rfl p hp).2⟩
theorem DrI.sameE (k : DrI E x arr d qs (i :: is) μ L tmps) (hd : inM d i = false) (ho : arr[i]? = some o) {j : Nat} {o' : Oper} (hj : j ∈ is) (hdj : inM d j = true) (ho' : arr[j]? = some o') (a : AV) :
    SameFor E x arr o' L (Go.Ev.put (dst o.dst) a L) := by
  have hij : i ≠ j := fun e => by subst e; exact (List.nodup_cons.1 k.lin.nodup).1 hj
  refine same_put s ho ho' hij ?_ fun _ => ?_
  · cases h : inM (pre arr j) i with
    | false => rfl
    | true => rw [k.dcl j i (k.lin.lt j (List.mem_cons_of_mem _ hj)) hdj h] at hd; cases hd
  · cases h : inM (pre arr i) j with
    | false => rfl
    | true => exact absurd (List.mem_cons_of_mem _ hj) (DrI.ahead s k h).2
theorem DrI.eff (k : DrI E x arr d qs (i :: is) μ L tmps) (hd : inM d i = false) (ho : arr[i]? = some o) (hsz : x.n ≤ tmps.size) {a : AV} (hv : VR μ a v) :
    DrI E x arr (Nat.lor d (Nat.pow 2 i)) qs is μ (Go.Ev.put (dst o.dst) a L) (setD o.dst v tmps) := by
  have hnot := (List.nodup_cons.1 k.lin.nodup).1
  have hd' : ∀ j, j ∈ is → inM (Nat.lor d (Nat.pow 2 i)) j = true → inM d j = true := by
    intro j hj h
    rw [inM_lor] at h
    simp only [Bool.or_eq_true, decide_eq_true_eq] at h
    rcases h with h | h
    · exact h
    · subst h; exact absurd hj hnot
  refine ⟨k.lin.tail, fun j hj hn => ?_, fun j p hj hdj hp => ?_, fun j hj hdj => k.hqs j (List.mem_cons_of_mem _ hj) (hd' j hj hdj), k.qsm, fun t ht hX => ?_, fun j o' hj hdj ho' => ?_⟩
  · rw [inM_lor]
    by_cases e : i = j
    · simp [e]
    · rw [k.cd j hj (fun hm => by rcases List.mem_cons.1 hm with h | h; exact e h.symm; exact hn h)]; rfl
  · rw [inM_lor] at hdj ⊢
    simp only [Bool.or_eq_true, decide_eq_true_eq] at hdj ⊢
    rcases hdj with h | h
    · exact .inl (k.dcl j p hj h hp)
    · subst h; exact .inl (DrI.ahead s k hp).1
  · by_cases e : o.dst = some t
    · have := okD_lt (e ▸ (s.ok ho).1)
      rw [e, setD_same (by omega), put_same]
      exact hv
    · rw [setD_ne e, put_ne (s.ok ho).1 (inNd_lt ht) e]
      refine k.need t ht ?_
      rintro ⟨j, hj, hdj, o', ho', hdst⟩
      rcases List.mem_cons.1 hj with rfl | hj
      · rw [hd] at hdj; cases hdj
      · exact hX ⟨j, hj, by rw [inM_lor, hdj]; rfl, o', ho', hdst⟩
  · exact (DrI.sameE s k hd ho hj (hd' j hj hdj) ho' a).pendL (k.pl j o' (List.mem_cons_of_mem _ hj) (hd' j hj hdj) ho')
theorem DrI.pkE (k : DrI E x arr d qs (i :: is) μ L tmps) (hd : inM d i = false) (ho : arr[i]? = some o) (a : AV) :
    is.filterMap (pk E x arr (Nat.lor d (Nat.pow 2 i)) (Go.Ev.put (dst o.dst) a L)) = is.filterMap (pk E x arr d L) := by
  have hnot := (List.nodup_cons.1 k.lin.nodup).1
  apply fm_congr
  intro j hj
  unfold pk
  have hij : i ≠ j := fun e => by subst e; exact hnot hj
  rw [inM_lor, show decide (i = j) = false from by simp [hij], Bool.or_false]
  cases ho' : arr[j]? with
  | none => rfl
  | some o' =>
    simp only
    cases hdj : inM d j with
    | false => rfl
    | true => rw [(DrI.sameE s k hd ho hj hdj ho' a).tgt]
theorem pk_self {k : Nat} (hd : inM d i = false) : pk E x arr d L i = none := by
  unfold pk; rw [hd]; cases arr[i]? <;> rfl
/-! ## looked at again -/
theorem pend_mem {m : Nat} {h : Hp} : ∀ {qs : List (Nat × Oper × Nat)}, ckAll E h L (pend E (qOf E x) arr m qs) = true → ∀ {i o n c}, (i, o, n) ∈ qs → inM m i = false → ckIns E (qOf E x) arr o = some c → ckRun E h L c = true
  | [], _, _, _, _, _, hm, _, _ => by cases hm
  | (i', o', n') :: l, hck, i, o, n, c, hm, hi, hc => by
    have hck : ckAll E h L (bif inM m i' then pend E (qOf E x) arr m l else match ckIns E (qOf E x) arr o' with
      | some c => c :: pend E (qOf E x) arr m l
      | none => pend E (qOf E x) arr m l) = true := hck
    rcases List.mem_cons.1 hm with e | hm
    · cases e
      rw [hi, hc] at hck
      have hck : cnd (ckRun E h L c) (ckAll E h L (pend E (qOf E x) arr m l)) false = true := hck
      cases hr : ckRun E h L c with
      | true => rfl
      | false => rw [hr] at hck; cases hck
    · refine pend_mem (qs := l) ?_ hm hi hc
      cases hi' : inM m i' with
      | true => rw [hi'] at hck; exact hck
      | false =>
        rw [hi'] at hck
        cases hc' : ckIns E (qOf E x) arr o' with
        | none => rw [hc'] at hck; exact hck
        | some c' =>
          rw [hc'] at hck
          have hck : cnd (ckRun E h L c') (ckAll E h L (pend E (qOf E x) arr m l)) false = true := hck
          cases hr : ckRun E h L c' with
          | true => rw [hr] at hck; exact hck
          | false => rw [hr] at hck; cases hck
theorem ckOf_run {h : Hp} {c : Ck} (hg : GOn E x arr o L) (hc : ckRun E h L (ckOf arr o c) = true) : ckRun E h L c = true := by
  rcases hg with hg | ⟨y, w, hg, hw⟩
  · unfold ckOf at hc; rw [hg] at hc; exact hc
  · obtain ⟨j, p, t, h1, h2, h3, rfl⟩ := guardOf_tmp hg
    unfold ckOf at hc
    rw [h1] at hc
    simp only at hc
    rw [h2] at hc
    simp only at hc
    rw [h3] at hc
    simp only at hc
    have hc : (match getT t L.tm with
      | .bool b => cnd (cnd b w (bnot w)) (ckRun E h L c) true
      | .tuple _ => true
      | _ => false) = true := hc
    have hw : getO (slotX x.nd t) L = .bool w := hw
    rw [slotX_getO] at hw
    split at hw
    · rw [hw] at hc
      cases w <;> exact hc
    · cases hw
theorem chk_pendH {m : Nat} {h : Hp} (k : DrI E x arr d qs is μ L tmps) (hck : ckAll E h L (pend E (qOf E x) arr m qs) = true) {j : Nat} {o' : Oper} (hj : j ∈ is) (hdj : inM d j = true) (ho' : arr[j]? = some o') (hm : inM m j = false) :
    PendH E x arr h o' L := by
  obtain ⟨o2, n, hmem⟩ := k.hqs j hj hdj
  obtain ⟨h1, h2⟩ := k.qsm _ hmem
  have h1 := (mem_marked.1 h1).1
  rw [ho'] at h1; cases h1
  rcases k.pl j o' hj hdj ho' with ⟨h3, h4⟩ | ⟨h3, h4⟩
  · exact .inl h3
  · refine .inr ?_
    have hdo := (s.ok ho').2.2
    split at h4
    · rename_i dd p hins
      intro hmp
      cases hdst : o'.dst with
      | none =>
        unfold dstOk at hdo
        rw [hdst, hins] at hdo
        simp only [hmp, Bool.not_true] at hdo
        cases hdo
      | some t =>
        have hci : ckIns E (qOf E x) arr o' = some (slot t fun a b c => ckOf arr o' (.p a b c p)) := by
          unfold ckIns; rw [hdst]; simp only; rw [hins]; simp only [hmp, cond_true]
        have hr := pend_mem s hck hmem hm hci
        have hr : ckRun E h L (ckOf arr o' (slot t fun a b c => .p a b c p)) = true := hr
        have hr := ckOf_run s h3 hr
        have hr : opt (p.ev E h L) false (fun v => aveq v (getT t L.tm)) = true := hr
        cases hev : p.ev E h L with
        | none => rw [hev] at hr; cases hr
        | some v =>
          rw [hev] at hr
          exact ⟨L, fun _ _ => rfl, v, hev, fun t' ht' => by cases ht'; exact aveq_eq _ _ hr⟩
    · rename_i dd p hins
      cases hdst : o'.dst with
      | none =>
        unfold dstOk at hdo
        rw [hdst, hins] at hdo
        cases hdo
      | some t =>
        have hci : ckIns E (qOf E x) arr o' = some (slot t fun a b c => ckOf arr o' (.a a b c p)) := by
          unfold ckIns; rw [hdst]; simp only; rw [hins]
        have hr := pend_mem s hck hmem hm hci
        have hr : ckRun E h L (ckOf arr o' (slot t fun a b c => .a a b c p)) = true := hr
        have hr := ckOf_run s h3 hr
        have hr : (match getT t L.tm with
          | .ptr f 0 0 => opt (p.ev h f L) false fun r => cnd (aveq r.2 (.ptr f 0 0)) (obeq r.1 (hget f h)) false
          | .slice f 0 0 l cp sz ex => opt (p.ev h f L) false fun r => cnd (aveq r.2 (.slice f 0 0 l cp sz ex)) (obeq r.1 (hget f h)) false
          | .map f => opt (p.ev h f L) false fun r => cnd (aveq r.2 (.map f)) (obeq r.1 (hget f h)) false
          | _ => false) = true := hr
        have htg : tgtV L o' = getT t L.tm := by unfold tgtV; rw [hdst]
        have fin : ∀ (f : Key) (u : AV), keyOfA u = some f → getT t L.tm = u → opt (p.ev h f L) false (fun r => cnd (aveq r.2 u) (obeq r.1 (hget f h)) false) = true →
            ∃ L0 f, Agr E x o' L0 L ∧ keyOfA (tgtV L o') = some f ∧ (hget f h).isNone = false ∧ p.ev h f L0 = some (hget f h, tgtV L o') := by
          intro f u hu hgt hop
          cases hev : p.ev h f L with
          | none => rw [hev] at hop; cases hop
          | some r =>
            obtain ⟨ob, a⟩ := r
            rw [hev] at hop
            have hop : cnd (aveq a u) (obeq ob (hget f h)) false = true := hop
            cases ha : aveq a u with
            | false => rw [ha] at hop; cases hop
            | true =>
              rw [ha] at hop
              have e1 := aveq_eq _ _ ha
              have e2 := obeq_eq hop
              subst e1
              obtain ⟨_, rfl⟩ := insU_al hins
              have hst := alloc_stat hev
              refine ⟨L, f, fun _ _ => rfl, by rw [htg, hgt]; exact hu, by rw [← e2]; exact hst.2.1, by rw [hev, htg, hgt, e2]⟩
        split at hr
        · rename_i f hgt; exact fin f _ rfl hgt hr
        · rename_i f l cp sz ex hgt; exact fin f _ rfl hgt hr
        · rename_i f hgt; exact fin f _ rfl hgt hr
        · cases hr
    · exact h4
end
end
end Go.Ev

namespace Go.Ev
set_option linter.unusedVariables false
set_option linter.unusedSectionVars false
set_option linter.unusedSimpArgs false
noncomputable section
variable [Val] [Fk]
section
variable {E : Env} {P : Program} (hE : EnvOk E P) {C : Call0} (hS : SumOk E P C)
theorem noWait {x : Cx} {μ : Mu} {cl : Cl} {l : List Ci} {k : List Item} (t : TodoR E x μ cl l k) : (∀ d l' r, l ≠ .wait d l' :: r) ∧ ∀ r' r, l ≠ .inRF r' :: r := by
  have comp : ∀ (c : Code) (cl : Cl) (l : List Ci), ((∀ d l' r, l ≠ .wait d l' :: r) ∧ ∀ r' r, l ≠ .inRF r' :: r) → (∀ d l' r, compC E x cl c ++ l ≠ .wait d l' :: r) ∧ ∀ r' r, compC E x cl c ++ l ≠ .inRF r' :: r := by
    intro c
    induction c with
    | skip => intro cl l h; exact h
    | label _ => intro cl l h; exact h
    | seq a b iha ihb => intro cl l h; simp only [compC, List.append_assoc]; exact iha _ _ (ihb _ _ h)
    | _ => intros; exact ⟨fun d l' r hh => (by cases hh), fun r' r hh => (by cases hh)⟩
  induction t with
  | nil cl => exact ⟨fun d l' r hh => (by cases hh), fun r' r hh => (by cases hh)⟩
  | forget _ ih => exact ih
  | code _ ih => exact comp _ _ _ ih
  | _ => exact ⟨fun d l' r hh => (by cases hh), fun r' r hh => (by cases hh)⟩
theorem BodyR.res {fn : Nat} {μ : Mu} {L : Lo} {tmps : Array Value} {md : Md} {l : List Ci} {k : List Item} {F : List Key} (b : BodyR E fn μ L tmps md l k F) :
    ∃ X, NeedR (cxOf E fn).nd X μ L.tm tmps ∧ ∀ t, inM (cxOf E fn).res t = true → ¬ X t := by
  have dr : ∀ {arr : Array Oper} {d : Nat} {qs : List (Nat × Oper × Nat)} {idxs : List Nat}, DrSt E (cxOf E fn) arr → DrI E (cxOf E fn) arr d qs idxs μ L tmps →
      ∃ X, NeedR (cxOf E fn).nd X μ L.tm tmps ∧ ∀ t, inM (cxOf E fn).res t = true → ¬ X t := by
    intro arr d qs idxs h1 h2
    refine ⟨_, h2.need, ?_⟩
    rintro t ht ⟨i, hi, hd, o, ho, hdst⟩
    have hmem : o ∈ arr.toList := by rw [Array.mem_toList_iff]; exact Array.mem_of_getElem? ho
    have h3 := List.all_eq_true.1 h1.ops o hmem
    simp only [Bool.and_eq_true] at h3
    obtain ⟨_, h4, _⟩ := h3
    obtain ⟨o', m', hq⟩ := h2.hqs i hi hd
    obtain ⟨hq1, hq2⟩ := h2.qsm _ hq
    have ho' := (mem_marked.1 hq1).1
    rw [ho] at ho'
    cases ho'
    unfold resOk at h4
    rw [hq2, hdst] at h4
    simp only [Bool.not_true, Bool.false_or] at h4
    rw [ht] at h4; cases h4
  cases b with
  | plain h1 h2 => exact ⟨NoX, h1.need, fun _ _ h => h⟩
  | waitP h1 h2 h3 h4 h5 => exact ⟨NoX, h1.need, fun _ _ h => h⟩
  | inRFP h1 h2 h3 => exact ⟨NoX, h1.need, fun _ _ h => h⟩
  | drawn h1 =>
    cases h1 with
    | wait h1 h2 h3 h4 h5 h6 h7 => exact dr h1 h7
    | mid h1 h2 h3 h4 h5 => exact dr h1 h4
  | out h0 h1 h2 => exact ⟨_, h1, h2⟩
theorem Kept1.tail {μ : Mu} {h : Hp} {F Fs : List Key} (k : Kept1 μ h (F ++ Fs)) : Kept1 μ h Fs := ⟨(List.nodup_append.1 k.1).2.1, fun f hf => k.2 f (List.mem_append_right _ hf)⟩
theorem finish_good {a : AV} {v : Value} {c : Fr} {fc : Frame} {F : List Key} {rest : List Fr} {frs : List Frame} {h : Hp} {nx : Key} {μ : Mu} {w : World}
    (hv : VR μ a v) (hr : HR C.W.heap.size μ h w) (hg : GR E μ) (he : Ext C.W.heap.size C.W w) (hs : StR E μ (c :: rest) (fc :: frs) F) (hk : Kept1 μ h F) {m : Machine}
    (hm : Steps P m (lone (fc.finish v) (frs ++ C.cs0) w)) : Good E P C (finish a c rest h nx) m := by
  cases hs with
  | @cons L todo fi fr cs frs F1 Fs1 hf hs =>
    obtain ⟨fn, ds, md, dd, rnd⟩ := fi
    cases hf with
    | mk hfi hb =>
      unfold finish
      split
      · rename_i L' d l rest' fn' ds' dd' rnd' heq
        cases heq
        refine Good.of_steps hm ?_
        generalize hit : fc.todo = items at hb
        cases hb with
        | plain h1 h2 => exact absurd rfl ((noWait h2).1 _ _ _)
        | @waitP cl arr i n l' k o h1 h2 h3 h4 h5 =>
          have ht : fc.todo = .inRegion arr (i :: List.range' (i + 1) n) :: k := by rw [hit, List.range'_succ]
          refine ⟨_, .refl _ _, Sim.mk hr hg he (.mk (hfi.finish v ht h3) ?_) hs hk⟩
          rw [finish_todo fc v ht]
          refine .plain (cl := pushCl o.dst cl) ?_ (.mid (by omega) h5)
          rw [finish_tmps fc v ht h3]
          have hsz : (cxOf E fn).n ≤ fc.tmps.size := by cases hfi with | mk h1 h2 h3 h4 h5 h6 h7 => exact h6
          cases hdst : o.dst with
          | none => exact h1.putNone a
          | some t => rw [hdst] at h4; exact h1.put h4 hsz hv
        | drawn h1 =>
          cases h1 with
          | @wait arr i o idxs fuel d' qs td rest k s htd ho hq hd hleft hdri =>
            have ht : fc.todo = .inRegion arr (i :: idxs) :: k := hit
            have hsz : (cxOf E fn).n ≤ fc.tmps.size := by cases hfi with | mk h1 h2 h3 h4 h5 h6 h7 => exact h6
            refine ⟨_, .refl _ _, Sim.mk hr hg he (.mk (hfi.finish v ht ho) ?_) hs hk⟩
            have hmid := DrawnB.mid (i := i) (fuel := fuel) s htd hleft (DrI.eff s hdri hd ho hsz hv) (fun p hp hm => (DrI.ahead s hdri hp).2 (List.mem_cons_of_mem _ hm))
            rw [DrI.pkE s hdri hd ho a] at hmid
            rw [finish_todo fc v ht, finish_tmps fc v ht ho]
            exact .drawn hmid
        | out h0 h1 h2 => cases h0
      · rename_i L' l rest' fn' ds' dd' rnd' heq
        cases heq
        refine Good.of_steps hm ?_
        generalize hit : fc.todo = items at hb
        cases hb with
        | plain h1 h2 => exact absurd rfl ((noWait h2).2 _ _)
        | @inRFP l b rest k h1 h2 h3 =>
          have hfin : fc.finish v = { fc with todo := .endRangeFunc b :: k } := by
            obtain ⟨fn, tmps, todo, ds, md, kd, rnd⟩ := fc
            simp only at hit; subst hit; rfl
          rw [hfin]
          refine ⟨_, .refl _ _, Sim.mk hr hg he (.mk ?_ ?_) hs hk⟩
          · cases hfi with | mk h1 h2 h3 h4 h5 h6 h7 => exact .mk h1 h2 h3 h4 h5 h6 h7
          · exact .plain h1 (.endRF h2 h3)
        | drawn h1 => cases h1
        | out h0 h1 h2 => cases h0
      · trivial
theorem retV_good {fi : FI} {a : AV} {v : Value} {fr : Frame} {cs : List Fr} {frs : List Frame} {F : List Key} {h : Hp} {nx : Key} {μ : Mu} {w : World} {m : Machine}
    (hfi : FiR E μ fi fr) (hv : VR μ a v) (hr : HR C.W.heap.size μ h w) (hg : GR E μ) (he : Ext C.W.heap.size C.W w) (hs : StR E μ cs frs F) (hk : Kept1 μ h F)
    (hm : ∀ g cs' w', (doReturn P true fr (frs ++ C.cs0) none v w).bare = .go (gor g cs') w' → Steps P m (lone g cs' w')) : Good E P C (retV fi a cs h nx) m := by
  unfold retV
  cases cs with
  | nil => trivial
  | cons c rest =>
    cases hs with
    | @cons L todo fic fc cs frs F1 Fs1 hf hs =>
      simp only
      cases hfi with
      | @mk fn ds md dd rnd fr e1 e2 e3 e4 e5 e6 e7 =>
        cases dd with
        | false =>
          simp only
          have e4 : fr.kind = .normal := e4
          refine finish_good hv hr hg he (.cons hf hs) hk (hm _ _ _ ?_)
          rw [List.cons_append, doReturn_normal e4]; rfl
        | true =>
          have e4 : fr.kind = .deferred := e4
          obtain ⟨fn1, ds1, md1, dd1, rnd1⟩ := fic
          simp only
          cases hf with
          | mk hfi1 hb1 =>
            cases hfi1 with
            | mk g1 g2 g3 g4 g5 g6 g7 =>
              -- the caller goes on as it was
              have stays : (∀ x g older, fc.mode ≠ .panicking ({ v := x, recovered := true, goexit := g } :: older)) →
                  Good E P C (.go (.mk L todo (.mk fn1 ds1 md1 dd1 rnd1) rest h nx)) m := fun hn => by
                refine ⟨_, hm fc _ w ?_, Sim.mk hr hg he (.mk (.mk g1 g2 g3 g4 g5 g6 g7) hb1) hs hk⟩
                rw [List.cons_append, doReturn_uncaught e4 hn]; rfl
              cases md1 with
              | run => exact stays (fun x g o hh => by have g3 : fc.mode = .run := g3; rw [g3] at hh; cases hh)
              | returning => exact stays (fun x g o hh => by have g3 : fc.mode = .returning := g3; rw [g3] at hh; cases hh)
              | panicking ch =>
                obtain ⟨ch', k1, k2⟩ := g3
                cases ch with
                | nil => have k2 : ch' = [] := k2; subst k2; exact stays (fun x g o hh => by rw [k1] at hh; cases hh)
                | cons e ch =>
                  obtain ⟨pv, rec⟩ := e
                  obtain ⟨u, l', k3, k4, k5⟩ := k2
                  subst k3
                  cases rec with
                  | false => exact stays (fun x g o hh => by rw [k1] at hh; cases hh)
                  | true =>
                    simp only
                    have hgo : ∀ (a : List PE) (b : List PanicEntry), PEsR μ a b → ∀ e ∈ b, e.goexit = false := by
                      intro a
                      induction a with
                      | nil => intro b hb; have hb : b = [] := hb; subst hb; simp
                      | cons e a ih =>
                        intro b hb
                        obtain ⟨pv, rec⟩ := e
                        obtain ⟨u, l', q1, q2, q3⟩ := hb
                        subst q1
                        intro e he
                        rcases List.mem_cons.1 he with rfl | he
                        · rfl
                        · exact ih l' q3 e he
                    obtain ⟨X, x1, x2⟩ := hb1.res
                    have hF1 : F1 = [] := by cases hb1 with | out z1 z2 z3 => rfl
                    subst hF1
                    refine ⟨_, hm { fc with mode := .returning } _ w ?_, Sim.mk (F := []) hr hg he (.mk (.mk g1 g2 rfl g4 g5 g6 g7) (.out trivial x1 x2)) hs hk⟩
                    rw [List.cons_append, doReturn_caught e4 k1 (hgo _ _ k5)]; rfl
end
end
end Go.Ev

namespace Go.Ev
set_option linter.unusedVariables false
set_option linter.unusedSectionVars false
set_option linter.unusedSimpArgs false
noncomputable section
variable [Val] [Fk]
section
variable {E : Env} {P : Program} (hE : EnvOk E P) {C : Call0} (hS : SumOk E P C)
variable {B : Nat} {μ : Mu} {h : Hp} {w : World}
theorem HR.loopOb (hH : HR B μ h w) {l : Key} {st : LoopState} {pend : Option Code} {fn : Nat} {t : Tm} {ps : List Nat} {a b : Code} {df : Key} {x : Cx} (ho : hget l h = .loop st pend fn t ps a b df x) {bk : Nat} (hl : AtR μ l bk) :
    ∃ r : Loop, w.heap[bk]? = some (.loop r) ∧ r.state = st ∧ r.pending = pend ∧ (∃ s' n', μ df 0 = some (r.defers, s', n')) ∧ (Instr.getLoop bk).run P w = .ok r w ∧
      (∀ o, (setObj bk o).run P w = .ok () (World.put w bk o)) ∧ B ≤ bk ∧
      ∀ st' pend', HR B μ (hset l (.loop st' pend' fn t ps a b df x) h) (World.put w bk (.loop { r with state := st', pending := pend' })) := by
  obtain ⟨s, n, hm⟩ := hl
  have hO := hH.obj l
  rw [ho] at hO
  obtain ⟨h1, h2⟩ := hO
  obtain ⟨hB, tmps, dfb, s', n', hheap, h3, h4⟩ := h2 bk s n hm
  refine ⟨_, hheap, rfl, rfl, ⟨s', n', h4⟩, ?_, fun o => ?_, hB, fun st' pend' => ?_⟩
  · simp only [Instr.getLoop, getObj, Sem.run_bind, Sem.run, hheap, Result.andThen_ok, Sem.run_pure]
  · simp only [setObj, Sem.run, hheap]; rfl
  · refine hH.turn hm hB rfl ⟨h1, fun b1 s1 n1 hm1 => ?_⟩
    rw [hm] at hm1
    simp only [Option.some.injEq, Prod.mk.injEq] at hm1
    obtain ⟨rfl, rfl, rfl⟩ := hm1
    exact ⟨hB, tmps, dfb, s', n', put_get (hH.lt _ _ _ _ _ hm), h3, h4⟩
theorem leave_good {jump : Option Code} {todo rest : List Ci} {L : Lo} {fi : FI} {cs : List Fr} {nx : Key} {fr : Frame} {frs : List Frame} {F Fs : List Key}
    (hr : HR C.W.heap.size μ h w) (hg : GR E μ) (he : Ext C.W.heap.size C.W w) (hf : FrR E μ L todo fi fr F) (hm : fr.mode = .run) (hs : StR E μ cs frs Fs) (hk : Kept1 μ h (F ++ Fs))
    (hj : (jump = none ∧ fr.todo = []) ∨ (jump = some .ret ∧ ∃ k, fr.todo = .code .ret :: k) ∨ (∃ id k, jump = some (.exit id) ∧ fr.todo = .code (.exit id) :: k ∧ exitTo id k = none) ∨
      (∃ l k, jump = some (.goto l) ∧ fr.todo = .code (.goto l) :: k ∧ gotoIn l k = none)) :
    Good E P C (leave E jump rest L fi cs h nx) (lone fr (frs ++ C.cs0) w) := by
  obtain ⟨fn, ds, md, dd, rnd⟩ := fi
  cases hf with
  | mk hfi hb =>
    obtain ⟨X, x1, x2⟩ := hb.res
    unfold leave
    cases rnd with
    | none =>
      simp only
      cases hret : isRet jump with
      | false => trivial
      | true =>
        simp only [cond_true]
        have htd : (∃ k, fr.todo = [] ∨ fr.todo = .code .ret :: k) := by
          rcases hj with ⟨_, h1⟩ | ⟨_, k, h1⟩ | ⟨id, k, h0, _⟩ | ⟨l, k, h0, _⟩
          · exact ⟨[], .inl h1⟩
          · exact ⟨k, .inr h1⟩
          · subst h0; cases hret
          · subst h0; cases hret
        obtain ⟨k, htd⟩ := htd
        cases hfi with
        | mk g1 g2 g3 g4 g5 g6 g7 =>
          refine ⟨_, .one (s_ret hm g5 htd), Sim.mk (F := []) (Fs := Fs) hr hg he (.mk (.mk g1 g2 rfl g4 g5 g6 g7) (.out trivial x1 x2)) hs hk.tail⟩
    | some l =>
      simp only
      have hfi' := hfi
      cases hfi with
      | mk g1 g2 g3 g4 g5 g6 g7 =>
        obtain ⟨bk, hl, hrd⟩ := g5
        unfold endRound
        split
        · rename_i st pend f t ps a b df x ho
          simp only [opt_some]
          obtain ⟨r, e1, e2, e3, e4, e5, e6, e7, e8⟩ := hr.loopOb (P := P) ho hl
          have hst : (if jump.isNone = true then LoopState.ready else .done) = jst jump := by cases jump <;> rfl
          have hrun : (Instr.endRound bk jump).run P w = .ok (.bool jump.isNone) (World.put w bk (.loop { r with state := jst jump, pending := jump })) := by
            unfold Instr.endRound
            simp only [Sem.run_bind, e5, Result.andThen_ok, e6, Sem.run_pure]
            rw [← hst]
          refine retV_good (fr := fr) hfi' (v := .bool jump.isNone) (by simp only [VR]) (e8 _ _) hg (he.trans (Ext.put e7)) hs (hk.tail.kp (Kp.set rfl)) (fun g cs' w' hd => ?_)
          exact .one (next_of (by rw [s_leaveRound hm hrd hj hrun]; exact hd))
        · trivial
theorem resV_sound {fn : Nat} {X : Nat → Prop} {L : Lo} {tmps : Array Value} {rf : ResultVar → Sem Value} (hrf1 : ∀ t, rf (.tmp t) = pure (tmps.getD t undef)) (hrf2 : ∀ a t, rf (.cell a t) = do loadVar t (← asAddr (tmps.getD a undef))) (hE : EnvOk E P) (hr : HR B μ h w) (hn : NeedR (cxOf E fn).nd X μ L.tm tmps) (hX : ∀ t, inM (cxOf E fn).res t = true → ¬ X t) : ∀ (rs : List ResultVar) (l : List AV),
    resV h L (rs.map (rvOf E (cxOf E fn))) = some l → ∃ vs : List Value, (rs.mapM rf).run P w = .ok vs w ∧ VRs μ l vs
  | [], l, hl => by cases hl; exact ⟨[], rfl, .nil⟩
  | r :: rs, l, hl => by
    simp only [List.map_cons] at hl
    unfold resV at hl
    split at hl
    · rename_i a m h1 h2
      cases hl
      obtain ⟨vs, k1, k2⟩ := resV_sound hrf1 hrf2 hE hr hn hX rs m h2
      have slotv : ∀ t, (inNd (cxOf E fn).nd t && inM (cxOf E fn).res t) = true → VR μ (getT t L.tm) (tmps.getD t undef) := fun t ht => by
        simp only [Bool.and_eq_true] at ht
        exact hn t ht.1 (hX t ht.2)
      cases r with
      | tmp t =>
        simp only [rvOf] at h1
        cases hc : inNd (cxOf E fn).nd t && inM (cxOf E fn).res t with
        | false => rw [hc] at h1; cases h1
        | true =>
          rw [hc] at h1
          cases h1
          refine ⟨tmps.getD t undef :: vs, ?_, .cons (slotv t hc) k2⟩
          simp only [List.mapM_cons, hrf1, hrf2, Sem.run_bind, Sem.run_pure, Result.andThen_ok, k1]
      | cell t ty =>
        simp only [rvOf] at h1
        cases hc : inNd (cxOf E fn).nd t && inM (cxOf E fn).res t with
        | false => rw [hc] at h1; cases h1
        | true =>
          rw [hc] at h1
          simp only [cond_true] at h1
          cases hsa : E.szA ty with
          | none => rw [hsa] at h1; cases h1
          | some p =>
            obtain ⟨n, ag⟩ := p
            rw [hsa] at h1
            obtain ⟨f, g, o, hp, h1⟩ := asPtr_some (show asPtr (getT t L.tm) none (fun f gn o => cnd ag (opt (getCells h f gn o n) none fun l => some (.agg l)) (getCell h f gn o)) = some a from h1)
            have hs := slotv t hc
            rw [hp] at hs
            simp only [VR] at hs
            obtain ⟨b, s, mm, hm, hso, hv⟩ := hs
            obtain ⟨ds, hu, hsz, hag⟩ := szA_some hsa
            have ha : (asAddr (tmps.getD t undef)).run P w = .ok ⟨b, o - s, none⟩ w := by rw [hv]; rfl
            cases ag with
            | true =>
              obtain ⟨lc, hlc, h1⟩ := opt_inv h1
              cases h1
              obtain ⟨hlen, us, hus, hcell⟩ := getCells_sound hr hm hso hlc
              refine ⟨.agg us.toArray :: vs, ?_, .cons (by simp only [VR]; exact ⟨_, rfl, by simpa using hus⟩) k2⟩
              have hrun := run_loadCells_list (P := P) w ⟨b, o - s, none⟩ us (fun j v hj => by rw [add_zero_spot]; exact hcell j v hj)
              have hl2 : us.length = n := by rw [← hus.length, hlen]
              rw [hl2] at hrun
              simp only [List.mapM_cons, hrf1, hrf2, Sem.run_bind, ha, Result.andThen_ok, loadVar, hE.runAgg hu, hag, if_true, hE.runSize hsz, hrun, Sem.run_pure, k1]
            | false =>
              obtain ⟨v, hcv, hvr⟩ := getCell_sound hr hm hso h1
              refine ⟨v :: vs, ?_, .cons hvr k2⟩
              simp only [List.mapM_cons, hrf1, hrf2, Sem.run_bind, ha, Result.andThen_ok, loadVar, hE.runAgg hu, hag, Bool.false_eq_true, if_false, run_load, hcv, k1, Sem.run_pure]
    · cases hl
def resF (tmps : Array Value) : ResultVar → Sem Value
  | .tmp t => pure (tmps.getD t undef)
  | .cell a t => do loadVar t (← asAddr (tmps.getD a undef))
theorem results_eq (fu : Func) (tmps : Array Value) : Go.results fu tmps = (do
    let vs ← fu.results.mapM (resF tmps)
    pure (if h : vs.size = 1 then vs[0] else .tuple vs)) := by
  have : (fun r : ResultVar => (match r with
    | .tmp t => pure (tmps.getD t undef)
    | .cell a t => do loadVar t (← asAddr (tmps.getD a undef)) : Sem Value)) = resF tmps := by
    funext r; cases r <;> rfl
  rw [← this]
  rfl
include hE in
theorem results_run {fn : Nat} {X : Nat → Prop} {L : Lo} {tmps : Array Value} {l : List AV} (hr : HR B μ h w) (hn : NeedR (cxOf E fn).nd X μ L.tm tmps) (hX : ∀ t, inM (cxOf E fn).res t = true → ¬ X t) (hl : resV h L (compRes E fn) = some l) :
    ∃ fu v, P.funcs[fn]? = some fu ∧ (Go.results fu tmps).run P w = .ok v w ∧ VR μ (one l) v := by
  unfold compRes at hl
  split at hl
  · rename_i fu hfu
    obtain ⟨vs, h1, h2⟩ := resV_sound (rf := resF tmps) (fun _ => rfl) (fun _ _ => rfl) hE hr hn hX fu.results.toList l hl
    refine ⟨fu, (if h : vs.toArray.size = 1 then vs.toArray[0] else .tuple vs.toArray), hE.fs _ _ hfu, ?_, ?_⟩
    · rw [results_eq]
      have hmm : ∀ (f : ResultVar → Sem Value), (fu.results.mapM f).run P w = ((fu.results.toList.mapM f).run P w).andThen fun a w' => .ok a.toArray w' := by
        intro f
        conv => lhs; rw [← Array.toArray_toList (xs := fu.results)]
        simp only [List.mapM_toArray, Sem.run_map]
      simp only [Sem.run_bind]
      rw [hmm, h1]
      simp only [Result.andThen_ok, Sem.run_pure]
    · have hlv := h2.length
      cases l with
      | nil => rw [h2.nil_inv]; simp only [one]; simp; simp only [VR]; exact ⟨#[], rfl, .nil⟩
      | cons a l =>
        obtain ⟨v, r, rfl, h3, h4⟩ := h2.cons_inv
        cases l with
        | nil => rw [h4.nil_inv]; simpa [one] using h3
        | cons b l =>
          obtain ⟨u, r2, rfl, h5, h6⟩ := h4.cons_inv
          simp only [one]
          rw [dif_neg (by simp)]
          simp only [VR]
          exact ⟨_, rfl, .cons h3 (.cons h5 h6)⟩
  · cases hl
include hE in
theorem results_good {L : Lo} {fn : Nat} {ds : List Df} {md : Md} {dd : Bool} {rnd : Option Key} {cs : List Fr} {nx : Key} {fr : Frame} {frs : List Frame} {todo : List Ci} {F Fs : List Key}
    (hr : HR C.W.heap.size μ h w) (hg : GR E μ) (he : Ext C.W.heap.size C.W w) (hfi : FiR E μ (.mk fn ds md dd rnd) fr) (hb : BodyR E fn μ L fr.tmps md todo fr.todo F) (hm : fr.mode = .returning) (hd : fr.defers = []) (hs : StR E μ cs frs Fs) (hk : Kept1 μ h Fs) :
    Good E P C (results E (.mk fn ds md dd rnd) L cs h nx) (lone fr (frs ++ C.cs0) w) := by
  obtain ⟨X, x1, x2⟩ := hb.res
  cases cs with
  | nil =>
    show Good E P C (opt (resV h L (compRes E fn)) .fail fun l => cnd dd .fail (cnd (Nat.beq fn E.root) (.done (one l)) .fail)) _
    cases hl : resV h L (compRes E fn) with
    | none => trivial
    | some l =>
      obtain ⟨fu, v, hfu, hrun, hv⟩ := results_run hE hr x1 x2 hl
      cases hfi with
      | mk g1 g2 g3 g4 g5 g6 g7 =>
        have hfu' : P.funcs[fr.fn]? = some fu := by rw [g1]; exact hfu
        cases dd with
        | true => trivial
        | false =>
          cases hs
          cases hroot : Nat.beq fn E.root with
          | false => trivial
          | true => exact ⟨fr, w, v, μ, .refl _ _, ⟨hm, hd, g4, fu, hfu', hrun⟩, hv, he, g1.trans (Nat.eq_of_beq_eq_true hroot)⟩
  | cons c rest =>
    show Good E P C (opt (resV h L (compRes E fn)) .fail fun l => retV (.mk fn ds md dd rnd) (one l) (c :: rest) h nx) _
    cases hl : resV h L (compRes E fn) with
    | none => trivial
    | some l =>
      obtain ⟨fu, v, hfu, hrun, hv⟩ := results_run hE hr x1 x2 hl
      have hfi' := hfi
      cases hfi with
      | mk g1 g2 g3 g4 g5 g6 g7 =>
        have hfu' : P.funcs[fr.fn]? = some fu := by rw [g1]; exact hfu
        exact retV_good hfi' hv hr hg he hs hk (fun g cs' w' hh => .one (next_of (by rw [u_results hm hd hfu' hrun]; exact hh)))
theorem PEsR.append {a b : List PE} {c d : List PanicEntry} (h : PEsR μ a c) (k : PEsR μ b d) : PEsR μ (a ++ b) (c ++ d) := by
  induction a generalizing c with
  | nil => have h : c = [] := h; subst h; exact k
  | cons e a ih =>
    obtain ⟨v, r⟩ := e
    obtain ⟨u, l', rfl, h1, h2⟩ := h
    exact ⟨u, l' ++ d, rfl, h1, ih h2⟩
theorem DfsR.append {a b : List Df} {c d : List Deferred} (h : DfsR μ a c) (k : DfsR μ b d) : DfsR μ (a ++ b) (c ++ d) := by
  induction a generalizing c with
  | nil => simp only [DfsR] at h; subst h; exact k
  | cons e a ih =>
    simp only [DfsR] at h
    obtain ⟨x, r, rfl, h1, h2⟩ := h
    show DfsR μ (e :: (a ++ b)) (x :: (r ++ d))
    simp only [DfsR]
    exact ⟨x, r ++ d, rfl, h1, ih h2⟩
include hE in
theorem unwind_good {L : Lo} {todo : List Ci} {fi : FI} {cs : List Fr} {nx : Key} {fr : Frame} {frs : List Frame} {F Fs : List Key}
    (hr : HR C.W.heap.size μ h w) (hg : GR E μ) (he : Ext C.W.heap.size C.W w) (hf : FrR E μ L todo fi fr F) (hm : fr.mode ≠ .run) (hs : StR E μ cs frs Fs) (hk : Kept1 μ h (F ++ Fs)) :
    Good E P C (unwind E L todo fi cs h nx) (lone fr (frs ++ C.cs0) w) := by
  obtain ⟨fn, ds, md, dd, rnd⟩ := fi
  cases hf with
  | mk hfi hb =>
    have hfi' := hfi
    cases hfi with
    | mk g1 g2 g3 g4 g5 g6 g7 =>
      have hmd : fr.mode = .returning ∨ ∃ c, fr.mode = .panicking c := by
        cases hh : fr.mode with
        | run => exact absurd hh hm
        | returning => exact .inl rfl
        | panicking c => exact .inr ⟨c, rfl⟩
      have hF : F = [] := by
        cases md with
        | run => exact absurd g3 hm
        | returning => cases hb with | out z1 z2 z3 => rfl
        | panicking ch => cases hb with | out z1 z2 z3 => rfl
      subst hF
      unfold unwind
      cases ds with
      | nil =>
        have hd : fr.defers = [] := by simpa only [DfsR] using g2
        cases md with
        | run => exact absurd g3 hm
        | returning => exact results_good hE hr hg he hfi' hb g3 hd hs hk.tail
        | panicking ch =>
          simp only
          cases cs with
          | nil => trivial
          | cons c rest =>
            obtain ⟨t, td, f⟩ := c
            simp only
            cases hs with
            | @cons _ _ _ fc _ frs F1 Fs1 hfc hs =>
              obtain ⟨fn1, ds1, md1, dd1, rnd1⟩ := f
              cases hfc with
              | mk hfi1 hb1 =>
                cases hfi1 with
                | mk k1 k2 k3 k4 k5 k6 k7 =>
                  obtain ⟨ch', e1, e2⟩ := g3
                  obtain ⟨fu, hfu⟩ := g7
                  have hPf : P.funcs[fr.fn]? = some fu := by rw [g1]; exact hE.fs _ _ hfu
                  obtain ⟨X, x1, x2⟩ := hb1.res
                  have hk' : Kept1 μ h ([] ++ Fs1) := ⟨(by have := hk.1; simp only [List.nil_append] at this ⊢; exact (List.nodup_append.1 this).2.1), fun f hf => hk.2 f (by simp only [List.nil_append] at hf ⊢; exact List.mem_append_right _ hf)⟩
                  refine ⟨_, .one (u_raise e1 hd hPf), ?_⟩
                  have ht : (fc.raise ch').tmps = fc.tmps := by unfold Frame.raise; split <;> rfl
                  have main : ∀ md2, MdR μ md2 (fc.raise ch').mode → (match md2 with | .run => False | _ => True) → Sim E P C (.mk t td (.mk fn1 ds1 md2 dd1 rnd1) rest h nx) (lone (fc.raise ch') (frs ++ C.cs0) w) := by
                    intro md2 h1 h2
                    refine Sim.mk hr hg he (.mk (.mk ?_ ?_ h1 ?_ ?_ (by rw [ht]; exact k6) k7) (.out h2 (by rw [ht]; exact x1) x2)) hs hk'
                    · unfold Frame.raise; split <;> exact k1
                    · unfold Frame.raise; split <;> exact k2
                    · unfold Frame.raise; split <;> exact k4
                    · unfold Frame.raise; split <;> exact k5
                  cases md1 with
                  | run =>
                    have k3 : fc.mode = .run := k3
                    exact main (.panicking ch) ⟨ch', by unfold Frame.raise; rw [k3], e2⟩ trivial
                  | returning =>
                    have k3 : fc.mode = .returning := k3
                    exact main (.panicking ch) ⟨ch', by unfold Frame.raise; rw [k3], e2⟩ trivial
                  | panicking ch0 =>
                    obtain ⟨ch0', e3, e4⟩ := k3
                    exact main (.panicking (ch ++ ch0)) ⟨ch' ++ ch0', by unfold Frame.raise; rw [e3], e2.append e4⟩ trivial
      | cons d ds =>
        simp only [DfsR] at g2
        obtain ⟨dv, dvs, hdv, g2a, g2b⟩ := g2
        cases d with
        | collected r =>
          simp only
          split
          · rename_i xs ho
            simp only [DfR] at g2a
            obtain ⟨bk, s, n, hmr, rfl⟩ := g2a
            have hO := hr.obj r
            rw [ho] at hO
            obtain ⟨h1, h2⟩ := hO
            obtain ⟨hB, ds', hheap, l', hds, hR⟩ := h2 bk s n hmr
            subst hds
            have hrun : (Instr.takeDeferred bk).run P w = .ok l' (World.put w bk (.deferred none)) := by
              simp only [Instr.takeDeferred, getObj, setObj, Sem.run_bind, Sem.run, hheap, Result.andThen_ok, Sem.run_pure]; rfl
            have hh : HR C.W.heap.size μ (hset r (.deferred none) h) (World.put w bk (.deferred none)) := by
              refine hr.turn hmr hB rfl ⟨h1, fun b1 s1 n1 hm1 => ?_⟩
              rw [hmr] at hm1
              simp only [Option.some.injEq, Prod.mk.injEq] at hm1
              obtain ⟨rfl, rfl, rfl⟩ := hm1
              exact ⟨hB, none, put_get (hr.lt _ _ _ _ _ hmr), rfl⟩
            exact ⟨_, .one (u_collected hmd hdv hrun), Sim.mk (F := []) hh hg (he.trans (Ext.put hB)) (.mk (.mk g1 (hR.append g2b) g3 g4 g5 g6 g7) hb) hs (hk.kp (Kp.set rfl))⟩
          · trivial
        | fn f cap args =>
          simp only
          simp only [DfR] at g2a
          obtain ⟨G, cps, vs, rfl, hG, hc, ha⟩ := g2a
          have hst := u_defer (P := P) (cs := frs ++ C.cs0) (w := w) hmd hdv (fun r hh => by cases hh)
          refine invokeFn_good hE hr hG hc ha (s := invoke (.fn G cps) vs) rfl (fun g avs args' hva hrun => ?_) (fun _ _ _ _ _ _ _ _ _ _ _ _ => trivial)
          cases hcb : compBody E g with
          | none => rw [enter_none hcb]; trivial
          | some b =>
            have h1 := callFunc_run hE hcb args' w
            have hgo := callDeferred_enter (P := P) (fr := { fr with defers := dvs }) (cs := frs ++ C.cs0) (w := w) (d := { target := .fn G cps, args := vs }) (by intro hh; cases hh) (hrun.trans h1)
            rw [← hst] at hgo
            refine Good.next (next_of hgo) ?_
            exact enter_good hE (dfd := true) hva hr hg he (F := []) (.mk (.mk g1 g2b g3 g4 g5 g6 g7) hb) hs hk
        | del t m k =>
          simp only
          simp only [DfR] at g2a
          obtain ⟨ats, ty, cn, xs, v, w0, rfl, a0, a1, t0, hvm, hvk⟩ := g2a
          have hst := u_defer (P := P) (cs := frs ++ C.cs0) (w := w) hmd hdv (fun r hh => by cases hh)
          split
          · rename_i a h' nx' hev
            have hq0 : ∀ x, VR μ (getO ((fun _ : Operand => Opd.c .top) x) L) ((fun _ : Operand => undef) x) := fun x => by
              show VR μ (getO (.c .top) L) undef
              rw [getO_c]; simp only [VR]
            obtain ⟨_, w', r1, r2, r3, r4⟩ := e_del (P := P) (ty := ty) hE hr hq0 hvm hvk a0 a1 t0 hev
            have hrun : (invoke (.builtin .delete ats ty cn) xs).run P w = .ok (.value (.tuple #[])) w' := by
              show (builtin .delete ats ty cn xs).run P w = _
              have e1 : builtin .delete ats ty cn xs = (do pure (Next.value (← Builtin.delete_ ats ty xs)) : Sem Next) := rfl
              rw [e1]
              simp only [Sem.run_bind, r1, Result.andThen_ok, Sem.run_pure]
            have hgo := callDeferred_value (P := P) (fr := { fr with defers := dvs }) (cs := frs ++ C.cs0) (w := w) (d := { target := .builtin .delete ats ty cn, args := xs }) (by intro hh; cases hh) hrun
            rw [← hst] at hgo
            exact ⟨_, .one (next_of hgo), Sim.mk (F := []) r2 hg (he.trans r3) (.mk (.mk g1 g2b g3 g4 g5 g6 g7) hb) hs (hk.kp r4)⟩
          · trivial
        | bi b args => trivial
end
end
end Go.Ev
