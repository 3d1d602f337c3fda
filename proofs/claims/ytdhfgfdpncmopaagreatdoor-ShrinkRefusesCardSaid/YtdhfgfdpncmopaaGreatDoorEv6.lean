/- THE EVALUATOR, part 6 of 12: EvEff6 EvEff7 EvNamE EvEff8 EvSteps -/
import Derived.Test.YtdhfgfdpncmopaaGreatDoorEv5
import GoSem.Extern.Table
import Derived.KernelRfl
import Derived.Calls
import Derived.Listen
set_option linter.unusedVariables false
set_option linter.unusedSectionVars false
set_option linter.unusedSimpArgs false
namespace Go.Ev
set_option linter.unusedVariables false
set_option linter.unusedSectionVars false
set_option linter.unusedSimpArgs false
variable [Val] [Fk]
mutual
theorem aveq_eq : ∀ (a b : AV), aveq a b = true → a = b
  | .any, b, h => by cases b <;> first | rfl | cases h
  | .bool x, b, h => by
    cases b <;> first | (cases h; done) | skip
    rename_i y; cases x <;> cases y <;> first | rfl | cases h
  | .int k n, b, h => by
    cases b <;> first | (cases h; done) | skip
    rename_i l m
    have h : cnd (keq k l) (ieq n m) false = true := h
    rw [cnd_eq] at h
    split at h
    · rename_i hk
      rw [keq_true hk]
      rw [ieq_eq] at h
      rw [of_decide_eq_true h]
    · cases h
  | .str s, b, h => by
    cases b <;> first | (cases h; done) | skip
    rename_i t
    have h : leq s t = true := h
    rw [leq_eq] at h
    rw [of_decide_eq_true h]
  | .ptr0, b, h => by cases b <;> first | rfl | cases h
  | .ptr f g o, b, h => by
    cases b <;> first | (cases h; done) | skip
    rename_i f' g' o'
    have h : cnd (Key.beq f f') (cnd (Nat.beq g g') (Nat.beq o o') false) false = true := h
    simp only [cnd_eq] at h
    split at h
    · rename_i h1
      split at h
      · rename_i h2
        rw [Key.beq_eq h1, Nat.eq_of_beq_eq_true h2, Nat.eq_of_beq_eq_true h]
      · cases h
    · cases h
  | .slice0, b, h => by cases b <;> first | rfl | cases h
  | .slice f g o l c s x, b, h => by
    cases b <;> first | (cases h; done) | skip
    rename_i f' g' o' l' c' s' x'
    have h : cnd (Key.beq f f') (cnd (Nat.beq g g') (cnd (Nat.beq o o') (cnd (Nat.beq l l') (cnd (Nat.beq c c') (cnd (Nat.beq s s') (cnd x x' (bnot x')) false) false) false) false) false) false = true := h
    simp only [cnd_eq] at h
    split at h <;> first | (cases h; done) | skip
    rename_i h1
    split at h <;> first | (cases h; done) | skip
    rename_i h2
    split at h <;> first | (cases h; done) | skip
    rename_i h3
    split at h <;> first | (cases h; done) | skip
    rename_i h4
    split at h <;> first | (cases h; done) | skip
    rename_i h5
    split at h <;> first | (cases h; done) | skip
    rename_i h6
    rw [Key.beq_eq h1, Nat.eq_of_beq_eq_true h2, Nat.eq_of_beq_eq_true h3, Nat.eq_of_beq_eq_true h4, Nat.eq_of_beq_eq_true h5, Nat.eq_of_beq_eq_true h6]
    cases x <;> cases x' <;> first | rfl | simp [bnot_eq] at h
  | .map0, b, h => by cases b <;> first | rfl | cases h
  | .map a, b, h => by
    cases b <;> first | (cases h; done) | skip
    rename_i b
    rw [Key.beq_eq (show Key.beq a b = true from h)]
  | .nilFunc, b, h => by cases b <;> first | rfl | cases h
  | .func fn a c, b, h => by
    cases b <;> first | (cases fn <;> cases h; done) | skip
    all_goals first
      | (cases fn with
        | yield l => cases h
        | fn F => cases F <;> cases h; done)
      | skip
    rename_i fn' a' c'
    cases fn with
    | yield l => cases h
    | fn F =>
      cases F <;> first | (cases h; done) | skip
      rename_i f
      cases fn' with
      | yield l => cases h
      | fn F' =>
        cases F' <;> first | (cases h; done) | skip
        rename_i f'
        have h : cnd (Nat.beq f f') (cnd (aveqs a a') (aveqs c c') false) false = true := h
        simp only [cnd_eq] at h
        split at h <;> first | (cases h; done) | skip
        rename_i h1
        split at h <;> first | (cases h; done) | skip
        rename_i h2
        rw [Nat.eq_of_beq_eq_true h1, aveqs_eq _ _ h2, aveqs_eq _ _ h]
  | .iface t v, b, h => by
    cases b <;> first | (cases h; done) | skip
    rename_i u w
    have h : cnd (Nat.beq t u) (aveq v w) false = true := h
    simp only [cnd_eq] at h
    split at h <;> first | (cases h; done) | skip
    rename_i h1
    rw [Nat.eq_of_beq_eq_true h1, aveq_eq _ _ h]
  | .nilIface, b, h => by cases b <;> first | rfl | cases h
  | .agg a, b, h => by
    cases b <;> first | (cases h; done) | skip
    rename_i b
    rw [aveqs_eq a b h]
  | .tuple a, b, h => by
    cases b <;> first | (cases h; done) | skip
    rename_i b
    rw [aveqs_eq a b h]
  | .top, b, h => by cases h
  | .ub, b, h => by cases h
  | .rng k lo hi, b, h => by
    cases b <;> first | (cases h; done) | skip
    rename_i l lo' hi'
    have h : cnd (keq k l) (cnd (ieq lo lo') (ieq hi hi') false) false = true := h
    simp only [cnd_eq] at h
    split at h <;> first | (cases h; done) | skip
    rename_i h1
    split at h <;> first | (cases h; done) | skip
    rename_i h2
    rw [ieq_eq] at h2 h
    rw [keq_true h1, of_decide_eq_true h2, of_decide_eq_true h]
  | .md k m r, b, h => by
    cases b <;> first | (cases h; done) | skip
    rename_i l m' r'
    have h : cnd (keq k l) (cnd (Nat.beq m m') (Nat.beq r r') false) false = true := h
    simp only [cnd_eq] at h
    split at h <;> first | (cases h; done) | skip
    rename_i h1
    split at h <;> first | (cases h; done) | skip
    rename_i h2
    rw [keq_true h1, Nat.eq_of_beq_eq_true h2, Nat.eq_of_beq_eq_true h]
  | .sx k f c lo hi, b, h => by
    cases b <;> first | (cases h; done) | skip
    rename_i l f' c' lo' hi'
    have h : cnd (keq k l) (cnd (Key.beq f f') (cnd (ieq c c') (cnd (ieq lo lo') (ieq hi hi') false) false) false) false = true := h
    simp only [cnd_eq] at h
    split at h <;> first | (cases h; done) | skip
    rename_i h1
    split at h <;> first | (cases h; done) | skip
    rename_i h2
    split at h <;> first | (cases h; done) | skip
    rename_i h3
    split at h <;> first | (cases h; done) | skip
    rename_i h4
    rw [ieq_eq] at h3 h4 h
    rw [keq_true h1, Key.beq_eq h2, of_decide_eq_true h3, of_decide_eq_true h4, of_decide_eq_true h]
  | .le _ _ _, b, h => by cases h
  | .eqv _ _ _, b, h => by cases h
  | .stx a, b, h => by
    cases b <;> first | (cases h; done) | skip
    rename_i b
    rw [aveqs_eq a b h]
  | .sl _ _, b, h => by cases h
  | .nsl f g s k c q d m, b, h => by
    cases b <;> first | (cases h; done) | skip
    rename_i f' g' s' k' c' q' d' m'
    have h : cnd (Key.beq f f') (cnd (Nat.beq g g') (cnd (Nat.beq s s') (cnd (Key.beq k k') (cnd (ieq c c') (cnd (Key.beq q q') (cnd (ieq d d') (ieq m m') false) false) false) false) false) false) false = true := h
    simp only [cnd_eq] at h
    split at h <;> first | (cases h; done) | skip
    rename_i h1
    split at h <;> first | (cases h; done) | skip
    rename_i h2
    split at h <;> first | (cases h; done) | skip
    rename_i h3
    split at h <;> first | (cases h; done) | skip
    rename_i h4
    split at h <;> first | (cases h; done) | skip
    rename_i h5
    split at h <;> first | (cases h; done) | skip
    rename_i h6
    split at h <;> first | (cases h; done) | skip
    rename_i h7
    rw [ieq_eq] at h5 h7 h
    rw [Key.beq_eq h1, Nat.eq_of_beq_eq_true h2, Nat.eq_of_beq_eq_true h3, Key.beq_eq h4, of_decide_eq_true h5, Key.beq_eq h6, of_decide_eq_true h7, of_decide_eq_true h]
  | .nix f g s k c o, b, h => by
    cases b <;> first | (cases h; done) | skip
    rename_i f' g' s' k' c' o'
    have h : cnd (Key.beq f f') (cnd (Nat.beq g g') (cnd (Nat.beq s s') (cnd (Key.beq k k') (cnd (ieq c c') (Nat.beq o o') false) false) false) false) false = true := h
    simp only [cnd_eq] at h
    split at h <;> first | (cases h; done) | skip
    rename_i h1
    split at h <;> first | (cases h; done) | skip
    rename_i h2
    split at h <;> first | (cases h; done) | skip
    rename_i h3
    split at h <;> first | (cases h; done) | skip
    rename_i h4
    split at h <;> first | (cases h; done) | skip
    rename_i h5
    rw [ieq_eq] at h5
    rw [Key.beq_eq h1, Nat.eq_of_beq_eq_true h2, Nat.eq_of_beq_eq_true h3, Key.beq_eq h4, of_decide_eq_true h5, Nat.eq_of_beq_eq_true h]
  | .stq q, b, h => by
    cases b <;> first | (cases h; done) | skip
    rw [Key.beq_eq h]
  | .nv q s, b, h => by
    cases b <;> first | (cases h; done) | skip
    rename_i q' s'
    obtain ⟨h1, h2⟩ := cnd_true_inv (show cnd (Key.beq q q') (cnd s s' (bnot s')) false = true from h)
    rw [Key.beq_eq h1]
    cases s <;> cases s' <;> first | rfl | cases h2
theorem aveqs_eq : ∀ (a b : List AV), aveqs a b = true → a = b
  | [], b, h => by cases b <;> first | rfl | cases h
  | x :: a, b, h => by
    cases b with
    | nil => cases h
    | cons y b =>
      have h : cnd (aveq x y) (aveqs a b) false = true := h
      simp only [cnd_eq] at h
      split at h <;> first | (cases h; done) | skip
      rename_i h1
      rw [aveq_eq _ _ h1, aveqs_eq _ _ h]
end
theorem detC_bits {μ : Mu} {X : AV} {u v : Value} (n : Nat) (hd : detC X = true) (hu : VR μ X u) (hv : VR μ X v) : Instr.sameBits n u v = true := by
  cases X <;> first | (cases hd; done) | skip
  · simp only [VR] at hu hv; subst hu hv; simp [Instr.sameBits]
  · simp only [VR] at hu hv; subst hu hv; simp [Instr.sameBits]
  · simp only [VR] at hu hv
    obtain ⟨x, rfl, h1⟩ := hu
    obtain ⟨y, rfl, h2⟩ := hv
    have : x = y := by
      cases x; cases y
      simp only [ByteArray.mk.injEq]
      apply Array.toList_inj.1
      exact map_inj (h1.trans h2.symm)
    subst this
    simp only [Instr.sameBits]
    show (x.data == x.data) = true
    simp
  · simp only [VR] at hu hv; subst hu hv; simp [Instr.sameBits]
  · simp only [VR] at hu hv
    obtain ⟨b, s, m, h1, _, rfl⟩ := hu
    obtain ⟨b', s', m', h2, _, rfl⟩ := hv
    rw [h1] at h2
    cases h2
    simp [Instr.sameBits]
theorem keyBits_sound {μ : Mu} {X Y : AV} {u v : Value} (hk : keyBits X Y = true) (hu : VR μ X u) (hv : VR μ Y v) : Instr.sameBits 10000 v u = true := by
  replace hk : cnd (aveq X Y) (cnd (detC X) true (asAgg X false allDet)) false = true := hk
  simp only [cnd_eq] at hk
  split at hk <;> first | (cases hk; done) | skip
  rename_i h1
  have := aveq_eq _ _ h1
  subst this
  split at hk
  · rename_i h2; exact detC_bits _ h2 hv hu
  · rcases (by cases X <;> first | exact .inl ⟨_, rfl⟩ | exact .inr (fun l h => by cases h) : (∃ l, X = .agg l) ∨ ∀ l, X ≠ .agg l) with ⟨l, rfl⟩ | hn
    · have hk : allDet l = true := hk
      simp only [VR] at hu hv
      obtain ⟨us, rfl, hu⟩ := hu
      obtain ⟨vs, rfl, hv⟩ := hv
      have key : ∀ (l : List AV) (us vs : List Value), allDet l = true → VRs μ l us → VRs μ l vs → us.length = vs.length ∧ ((vs.zip us).all fun (x, y) => Instr.sameBits 9999 x y) = true := by
        intro l
        induction l with
        | nil => intro us vs _ h1 h2; rw [h1.nil_inv, h2.nil_inv]; simp
        | cons a l ih =>
          intro us vs hd h1 h2
          obtain ⟨u, us, rfl, h1, h1'⟩ := h1.cons_inv
          obtain ⟨v, vs, rfl, h2, h2'⟩ := h2.cons_inv
          have hd : cnd (detC a) (allDet l) false = true := hd
          simp only [cnd_eq] at hd
          split at hd <;> first | (cases hd; done) | skip
          rename_i hd1
          obtain ⟨e1, e2⟩ := ih us vs hd h1' h2'
          refine ⟨by simp [e1], ?_⟩
          simp only [List.zip_cons_cons, List.all_cons, Bool.and_eq_true]
          exact ⟨detC_bits 9999 hd1 h2 h1, e2⟩
      obtain ⟨e1, e2⟩ := key l us.toList vs.toList hk hu hv
      show (vs.size == us.size && _) = true
      simp only [Bool.and_eq_true, beq_iff_eq]
      exact ⟨by simpa using e1.symm, e2⟩
    · exfalso
      have : asAgg X false allDet = false := by cases X <;> first | rfl | exact absurd rfl (hn _)
      rw [this] at hk; cases hk
section
variable {μ : Mu}
theorem EnsR.append : ∀ {es fs : List En} {xs ys : List MapEntry}, EnsR μ es xs → EnsR μ fs ys → EnsR μ (es ++ fs) (xs ++ ys)
  | [], fs, xs, ys, h, k => by simp only [EnsR] at h; subst h; exact k
  | e :: es, fs, xs, ys, h, k => by
    simp only [EnsR] at h
    obtain ⟨x, r, rfl, h1, h2⟩ := h
    show EnsR μ (e :: (es ++ fs)) (x :: (r ++ ys))
    simp only [EnsR]
    exact ⟨x, _, rfl, h1, h2.append k⟩
theorem EnsR.one {e : En} {x : MapEntry} (h : EnR μ e x) : EnsR μ [e] [x] := by
  simp only [EnsR]; exact ⟨x, [], rfl, h, rfl⟩
theorem EnsR.set : ∀ {es : List En} {xs : List MapEntry} (i : Nat) {e : En} {x : MapEntry}, EnsR μ es xs → EnR μ e x → EnsR μ (es.set i e) (xs.set i x)
  | [], xs, i, e, x, h, k => by simp only [EnsR] at h; subst h; simp [EnsR]
  | a :: es, xs, 0, e, x, h, k => by
    simp only [EnsR] at h
    obtain ⟨y, r, rfl, h1, h2⟩ := h
    simp only [List.set_cons_zero, EnsR]; exact ⟨x, r, rfl, k, h2⟩
  | a :: es, xs, i + 1, e, x, h, k => by
    simp only [EnsR] at h
    obtain ⟨y, r, rfl, h1, h2⟩ := h
    simp only [List.set_cons_succ, EnsR]; exact ⟨y, _, rfl, h1, h2.set i k⟩
theorem EnsR.erase : ∀ {es : List En} {xs : List MapEntry} (i : Nat), EnsR μ es xs → EnsR μ (es.eraseIdx i) (xs.eraseIdx i)
  | [], xs, i, h => by simp only [EnsR] at h; subst h; simp [EnsR]
  | a :: es, xs, 0, h => by
    simp only [EnsR] at h
    obtain ⟨y, r, rfl, h1, h2⟩ := h
    simpa using h2
  | a :: es, xs, i + 1, h => by
    simp only [EnsR] at h
    obtain ⟨y, r, rfl, h1, h2⟩ := h
    simp only [List.eraseIdx_cons_succ, EnsR]; exact ⟨y, _, rfl, h1, h2.erase i⟩
end
end Go.Ev

namespace Go.Ev
set_option linter.unusedVariables false
set_option linter.unusedSectionVars false
set_option linter.unusedSimpArgs false
variable [Val] [Fk]
theorem lenA_sound {P : Program} {μ : Mu} {X : AV} {v : Value} {n : Nat} (hx : VR μ X v) (hl : lenA X = some n) : ∀ w', (Builtin.lenOf v).run P w' = .ok n w' := by
  intro w'
  unfold lenA at hl
  split at hl
  · cases hl; simp only [VR] at hx; obtain ⟨b, s, m, x, c, _, rfl, _⟩ := hx; simp [Builtin.lenOf]
  · cases hl; simp only [VR] at hx; subst hx; simp [Builtin.lenOf]
  · cases hl; simp only [VR] at hx; obtain ⟨b, rfl, hb⟩ := hx; simp only [Builtin.lenOf, Sem.run_pure]; congr 1; rw [← hb]; simp
  · cases hl
section
variable {E : Env} {P : Program} (hE : EnvOk E P) {B : Nat} {μ : Mu} {h : Hp} {w : World} (hH : HR B μ h w) {nx : Key} (hB : B ≤ w.heap.size)
  {L : Lo} {ρ : Operand → Value} {q : Operand → Opd} (hq : ∀ x, VR μ (getO (q x) L) (ρ x))
variable {d : Option Tmp} {ty : TypeId} {pos : String} {af : Array Edge} {gd : Option (Nat × Bool)} {a : AV} {h' : Hp} {nx' : Key}
include hE hH hq in
theorem e_copyT {xs : Array Operand} {ats : Array TypeId} {st el : TypeId} {ts : List TypeId} {x y : Operand} {l : List Operand} {k : Nat} (hx : xs.toList = x :: y :: l) (ht : ats.toList = st :: ts)
    (hu : E.und st = some (.slice el)) (hsz : E.size el = some (k + 1)) {m n : Nat} {rows : List (List AV)} {vs : List Value} (hm1 : lenS (getO (q x) L) = some m) (hlen : ∀ w', (Builtin.lenOf (ρ y)).run P w' = .ok n w') (hnl : rows.length = Nat.min n m) (hnr : ∀ l ∈ rows, l.length = k + 1) (hvs : VRs μ (flat rows) vs)
    (hfc : ∀ w', w'.heap = w.heap → (Builtin.firstCells (k + 1) (Nat.min n m) (ρ y)).run P w' = .ok vs.toArray w') (hev : copyTail (k + 1) (getO (q x) L) (Nat.min n m) rows h nx = some (Tn.mk a h' nx')) :
    Turns P ρ B μ h w ⟨d, .call { callee := .builtin .copy, args := xs, argTypes := ats }, ty, pos, af, gd⟩ a h' := by
  have a0 : (xs.map ρ)[0]? = some (ρ x) := by rw [← Array.getElem?_toList]; simp [hx]
  have a1 : (xs.map ρ)[1]? = some (ρ y) := by rw [← Array.getElem?_toList]; simp [hx]
  have t0 : ats[0]? = some st := by rw [← Array.getElem?_toList]; simp [ht]
  unfold copyTail at hev
  have hvl : vs.length = Nat.min n m * (k + 1) := by rw [← hvs.length, flat_length rows hnr, hnl]
  have runs : ∀ {base : Option Addr} {c : Nat} {w' : World}, ρ x = .slice base m c → (match base with | some a => storeCells a vs | none => pure () : Sem Unit).run P w = .ok () w' →
      (execOp ρ ⟨d, .call { callee := .builtin .copy, args := xs, argTypes := ats }, ty, pos, af, gd⟩).run P w = .ok (.value (.int .i64 ((Nat.min n m : Nat) : Int))) w' := by
    intro base c w' hxx hst
    refine run_builtin (s := Builtin.copy_ ats ty (xs.map ρ)) rfl ?_
    rw [hxx] at a0
    unfold Builtin.copy_
    simp only [t0, a0, a1, Sem.run_bind, hE.runUnd hu, Result.andThen_ok, Sem.run_pure, hlen, hE.runSize hsz, hfc w rfl]
    cases base with
    | none => simp only [Sem.run_pure, Result.ok.injEq, true_and] at hst; subst hst; simp [goInt]
    | some ad => simp only [Sem.run_bind, hst, Result.andThen_ok, Sem.run_pure, goInt]
  have hxv := hq x
  by_cases hk0 : Nat.min n m = 0
  · have hb : Nat.beq (Nat.min n m) 0 = true := by rw [hk0]; rfl
    rw [hb] at hev
    cases hev
    have hv0 : vs = [] := List.length_eq_zero_iff.1 (by rw [hvl, hk0]; simp)
    have hsl : ∃ base c, ρ x = .slice base m c := by
      unfold lenS at hm1
      split at hm1
      · rename_i e; cases hm1; rw [e] at hxv; simp only [VR] at hxv; obtain ⟨b, s, q1, xo, c, _, hxv, _⟩ := hxv; exact ⟨_, _, hxv⟩
      · rename_i e; cases hm1; rw [e] at hxv; simp only [VR] at hxv; exact ⟨_, _, hxv⟩
      · cases hm1
    obtain ⟨base, c, hxx⟩ := hsl
    refine turns_val (runs (w' := w) hxx (by rw [hv0]; cases base <;> simp [storeCells])) ?_ (Mu.le_refl _) hH (Ext.refl _ _) (Kp.refl _ _)
    rw [hk0]; simp only [VR]; rfl
  · have hb : Nat.beq (Nat.min n m) 0 = false := Bool.eq_false_iff.2 fun hh => hk0 (Nat.eq_of_beq_eq_true hh)
    rw [hb] at hev
    simp only [cnd_false] at hev
    split at hev
    · rename_i f g o ln cp sz' ex e
      rw [e] at hxv hm1; simp only [VR] at hxv
      cases hm1
      obtain ⟨b, s, mm, xo, c, hm, hxv, v1, v2, v3, hpl⟩ := hxv
      replace hev := cnd_inv hev
      have hs' := Nat.eq_of_beq_eq_true hev.1
      subst hs'
      replace hev := asCells_some hev.2
      obtain ⟨ro, gen, zz, dp, ext, t, ho, hev⟩ := hev
      replace hev := cnd_inv' hev
      obtain ⟨hro, hev⟩ := hev
      subst hro
      replace hev := cnd_inv hev
      have hg := Nat.eq_of_beq_eq_true hev.1
      subst hg
      replace hev := cnd_inv hev.2
      have hzz := Nat.eq_of_beq_eq_true hev.1
      subst hzz
      replace hev := cnd_inv hev.2
      obtain ⟨hmod, hev⟩ := hev
      have hmod : o % (k + 1) = 0 := Nat.eq_of_beq_eq_true hmod
      obtain ⟨hsc, hev⟩ := cnd_inv hev
      obtain ⟨c', hov, hev⟩ := opt_inv hev
      cases hev
      have e1 : o / (k + 1) * (k + 1) + o % (k + 1) = o := Nat.div_add_mod' o (k + 1)
      obtain ⟨hwf, hgen, hblk⟩ := hH.cells ho
      obtain ⟨hBb, hs0, cs, ce, fz, hheap, hfz, hcsz, hrws⟩ := hblk g b s mm hm
      rcases hpl with ⟨p1, p2, p3⟩ | ⟨p1, p2⟩
      · have hrp : 0 < rows.length := by rw [hnl]; exact Nat.pos_of_ne_zero hk0
        obtain ⟨r1, r2⟩ := overRows_HR hH ho hm (start_le hs0 p1) hov hnr hrp (Nat.succ_pos k) hvs hheap
        have hpos : o / (k + 1) * (k + 1) - s = xo := by omega
        rw [hpos] at r1 r2
        subst p2
        refine turns_val (runs hxv (run_storeCells' vs 0 (o - s) cs w hheap hfz (by omega) (rowsScalar_of hsc hvs))) ?_ (Mu.le_refl _) r2 (Ext.put (hBb rfl)) (Kp.set rfl)
        simp only [VR]; rfl
      · exfalso
        apply hk0
        rw [p1]; exact Nat.min_zero n
    · cases hev
include hE hH hq in
theorem e_copy {xs : Array Operand} {ats : Array TypeId} {st el : TypeId} {ts : List TypeId} {x y : Operand} {l : List Operand} {k : Nat} (hx : xs.toList = x :: y :: l) (ht : ats.toList = st :: ts)
    (hu : E.und st = some (.slice el)) (hsz : E.size el = some (k + 1)) (hev : xCopy (k + 1) (q x) (q y) h nx L = some (Tn.mk a h' nx')) :
    Turns P ρ B μ h w ⟨d, .call { callee := .builtin .copy, args := xs, argTypes := ats }, ty, pos, af, gd⟩ a h' := by
  obtain ⟨m, hm1, hev⟩ := opt_inv hev
  obtain ⟨n, hn1, hev⟩ := opt_inv hev
  obtain ⟨rows, hrows, hev⟩ := opt_inv hev
  obtain ⟨hlen, hnl, hnr, vs, hvs, hfc⟩ := firstRows_sound (P := P) hH (hq y) hn1 (Nat.min_le_left _ _) hrows
  exact e_copyT hE hH hq hx ht hu hsz hm1 hlen hnl hnr hvs hfc hev
/-! ## maps -/
include hH in
theorem HR.mapTurn {f : Key} {es : List En} {clock : Nat} (ho : hget f h = .map es clock) {b s n : Nat} (hm : μ f 0 = some (b, s, n)) {es' : List En} {xs' : Array MapEntry} {clock' : Nat} (hR : EnsR μ es' xs'.toList) :
    HR B μ (hset f (.map es' clock') h) (World.put w b (.map xs' clock')) ∧ Ext B w (World.put w b (.map xs' clock')) := by
  have hO := hH.obj f
  rw [ho] at hO
  obtain ⟨h1, h2⟩ := hO
  obtain ⟨hb, _⟩ := h2 b s n hm
  refine ⟨hH.turn hm hb rfl ⟨h1, fun b1 s1 n1 hm1 => ?_⟩, Ext.put hb⟩
  rw [hm] at hm1
  simp only [Option.some.injEq, Prod.mk.injEq] at hm1
  obtain ⟨rfl, rfl, rfl⟩ := hm1
  exact ⟨hb, xs', put_get (hH.lt _ _ _ _ _ hm), hR⟩
theorem kTy_inv {t kt : TypeId} {el : TypeId} {X : AV} {es : List En} {r : Option (Nat × En)} (hu : E.und t = some (.map kt el)) (hf : findK E (kTy E t) X es = some r) : kTy E t = tyOf E 8 kt ∧ keyTy (tyOf E 8 kt) = true := by
  unfold kTy at hf ⊢
  rw [hu] at hf ⊢
  simp only at hf ⊢
  cases hk : keyTy (tyOf E 8 kt) with
  | true => exact ⟨rfl, rfl⟩
  | false =>
    rw [hk] at hf
    obtain ⟨h1, _⟩ := cnd_inv hf
    cases h1
theorem kTy_und {t : TypeId} {X : AV} {es : List En} {r : Option (Nat × En)} (hf : findK E (kTy E t) X es = some r) : ∃ kt el, E.und t = some (.map kt el) := by
  unfold kTy at hf
  split at hf
  · rename_i kt el hu; exact ⟨kt, el, hu⟩
  · obtain ⟨h1, _⟩ := cnd_inv hf; cases h1
include hE hH hq in
theorem e_mapUp {t : TypeId} {m k v : Operand} {ins : Bool} (hev : xMapUp E (kTy E t) (q m) (q k) (q v) h nx L = some (Tn.mk a h' nx')) :
    Turns P ρ B μ h w ⟨d, (if ins then .insert t m k v else .mapUpdate t m k v), ty, pos, af, gd⟩ a h' := by
  obtain ⟨f, hfm, hev⟩ : ∃ f, getO (q m) L = .map f ∧ _ := asMap_some hev
  obtain ⟨b, s, n, hm, hx⟩ := q_map hq hfm
  obtain ⟨es, clock, ho, hev⟩ := asMapO_some hev
  obtain ⟨r, hf, hev⟩ := opt_inv hev
  obtain ⟨kt, el, hu⟩ := kTy_und hf
  obtain ⟨hkt, hk⟩ := kTy_inv hu hf
  rw [hkt] at hf
  obtain ⟨hBb, xs, hxs, hR⟩ := hH.mapOb ho hm
  obtain ⟨r', g1, g2⟩ := findKey_sound hE hH (hq k) hR hf
  have g0 := checkK hE (w := w) false hk (hq k) hf
  have runs : ∀ {w' : World}, (Instr.mapUpdate t (ρ m) (ρ k) (ρ v)).run P w = .ok () w' → (execOp ρ ⟨d, (if ins then .insert t m k v else .mapUpdate t m k v), ty, pos, af, gd⟩).run P w = .ok .skip w' := by
    intro w' hr
    cases ins <;> exact run_unit hr
  cases r with
  | none =>
    cases hev
    simp only [FoundR] at g2; subst g2
    obtain ⟨z1, z2⟩ := hH.mapTurn ho hm (es' := es ++ [.mk (getO (q k) L) (getO (q v) L) clock]) (xs' := xs.push { key := ρ k, val := ρ v, born := clock }) (clock' := clock + 1) (by
      rw [Array.toList_push]; exact hR.append (.one ⟨hq k, hq v, rfl⟩))
    refine turns_skip (runs ?_) z1 z2 (Kp.set rfl)
    rw [hx]
    simp only [Instr.mapUpdate, Sem.run_bind, hE.runUnd hu, Result.andThen_ok, MapKept.run_getObj_map hxs, g0, g1, MapKept.run_setObj_map _ hxs]
    rfl
  | some p =>
    obtain ⟨i, e⟩ := p
    obtain ⟨hbits, hev⟩ := cnd_inv (show cnd _ _ none = some _ from hev)
    cases hev
    obtain ⟨y, _, g3, g4, g5, rfl⟩ := g2
    have hyi : xs[i]? = some y := by rw [← Array.getElem?_toList]; simpa using g4
    have hsb := keyBits_sound hbits (hq k) g5.1
    obtain ⟨z1, z2⟩ := hH.mapTurn ho hm (es' := es.set i (.mk (getO (q k) L) (getO (q v) L) e.b)) (xs' := xs.modify i fun e => { e with key := ρ k, val := ρ v }) (clock' := clock) (by
      have : (xs.modify i fun e => { e with key := ρ k, val := ρ v }).toList = xs.toList.set i { key := ρ k, val := ρ v, born := y.born } := by
        apply List.ext_getElem?
        intro j
        rw [Array.getElem?_toList, Array.getElem?_modify, List.getElem?_set]
        by_cases hj : i = j
        · subst hj
          obtain ⟨hlt, hye⟩ := Array.getElem?_eq_some_iff.1 hyi
          simp [hye, hlt]
        · simp [hj]
      rw [this]; exact hR.set i ⟨hq k, hq v, g5.2.2⟩)
    refine turns_skip (runs ?_) z1 z2 (Kp.set rfl)
    rw [hx]
    simp only [Instr.mapUpdate, Sem.run_bind, hE.runUnd hu, Result.andThen_ok, MapKept.run_getObj_map hxs, g0, g1, hyi, Option.map_some, Option.getD_some, Instr.keyThatStays, hsb, if_true, Sem.run_pure, MapKept.run_setObj_map _ hxs]
    rfl
include hE hH hq in
theorem e_mapEn {t kt el : TypeId} {m k : Operand} {z : AV} (hu : E.und t = some (.map kt el)) (hz : zeroA E el = some z) (hev : xMapEn E (kTy E t) z (q m) (q k) h nx L = some (Tn.mk a h' nx')) :
    Turns P ρ B μ h w ⟨d, .mapEntry t m k, ty, pos, af, gd⟩ a h' := by
  obtain ⟨f, hfm, hev⟩ : ∃ f, getO (q m) L = .map f ∧ _ := asMap_some hev
  obtain ⟨b, s, n, hm, hx⟩ := q_map hq hfm
  obtain ⟨es, clock, ho, hev⟩ := asMapO_some hev
  obtain ⟨r, hf, hev⟩ := opt_inv hev
  obtain ⟨hkt, hk⟩ := kTy_inv hu hf
  rw [hkt] at hf
  obtain ⟨hBb, xs, hxs, hR⟩ := hH.mapOb ho hm
  obtain ⟨r', g1, g2⟩ := findKey_sound hE hH (hq k) hR hf
  have g0 := checkK hE (w := w) false hk (hq k) hf
  obtain ⟨zv, hzv, rfl⟩ := hE.runZero hz w
  have runs : ∀ {v : Value} {w' : World}, (Instr.mapEntry t (ρ m) (ρ k)).run P w = .ok v w' → (execOp ρ ⟨d, .mapEntry t m k, ty, pos, af, gd⟩).run P w = .ok (.value v) w' := fun hr => run_val hr
  cases r with
  | none =>
    cases hev
    simp only [FoundR] at g2; subst g2
    obtain ⟨z1, z2⟩ := hH.mapTurn ho hm (es' := es ++ [.mk (getO (q k) L) (ofV zv) clock]) (xs' := xs.push { key := ρ k, val := zv, born := clock }) (clock' := clock + 1) (by
      rw [Array.toList_push]; exact hR.append (.one ⟨hq k, ofV_sound μ zv, rfl⟩))
    refine turns_val (v := .tuple #[zv, goInt clock]) (runs ?_) ?_ (Mu.le_refl _) z1 z2 (Kp.set rfl)
    · rw [hx]
      simp only [Instr.mapEntry, Sem.run_bind, hE.runUnd hu, Result.andThen_ok, MapKept.run_getObj_map hxs, g0, g1, hzv, MapKept.run_setObj_map _ hxs, Sem.run_pure]
      rfl
    · simp only [VR]; exact ⟨_, rfl, .cons (ofV_sound μ zv) (.cons (by simp only [VR]; rfl) .nil)⟩
  | some p =>
    obtain ⟨i, e⟩ := p
    obtain ⟨hbits, hev⟩ := cnd_inv (show cnd _ _ none = some _ from hev)
    cases hev
    obtain ⟨y, _, g3, g4, g5, rfl⟩ := g2
    have hyi : xs[i]? = some y := by rw [← Array.getElem?_toList]; simpa using g4
    have hsb := keyBits_sound hbits (hq k) g5.1
    obtain ⟨z1, z2⟩ := hH.mapTurn ho hm (es' := es.set i (.mk (getO (q k) L) e.v e.b)) (xs' := xs.modify i fun e => { e with key := ρ k }) (clock' := clock) (by
      have : (xs.modify i fun e => { e with key := ρ k }).toList = xs.toList.set i { key := ρ k, val := y.val, born := y.born } := by
        apply List.ext_getElem?
        intro j
        rw [Array.getElem?_toList, Array.getElem?_modify, List.getElem?_set]
        by_cases hj : i = j
        · subst hj
          obtain ⟨hlt, hye⟩ := Array.getElem?_eq_some_iff.1 hyi
          simp [hye, hlt]
        · simp [hj]
      rw [this]; exact hR.set i ⟨hq k, g5.2.1, g5.2.2⟩)
    refine turns_val (v := .tuple #[y.val, goInt y.born]) (runs ?_) ?_ (Mu.le_refl _) z1 z2 (Kp.set rfl)
    · rw [hx]
      simp only [Instr.mapEntry, Sem.run_bind, hE.runUnd hu, Result.andThen_ok, MapKept.run_getObj_map hxs, g0, g1, hyi, Option.map_some, Option.getD_some, Instr.keyThatStays, hsb, if_true, Sem.run_pure, MapKept.run_setObj_map _ hxs]
      rfl
    · simp only [VR]; exact ⟨_, rfl, .cons g5.2.1 (.cons (by simp only [VR, goInt]; rw [← g5.2.2]; rfl) .nil)⟩
theorem setE_sound {b : Nat} {X : AV} {v : Value} (hv : VR μ X v) : ∀ (es : List En) (xs : List MapEntry) (l : List En), EnsR μ es xs → setE b X es = some l →
    ∃ i x, xs.findIdx? (fun e => (e.born : Int) == (b : Int)) = some i ∧ xs[i]? = some x ∧ EnsR μ l (xs.set i { x with val := v })
  | [], xs, l, hes, hs => by cases hs
  | .mk x y c :: es, xs, l, hes, hs => by
    simp only [EnsR] at hes
    obtain ⟨e, r, rfl, h1, h2⟩ := hes
    unfold setE at hs
    rw [cnd_eq] at hs
    split at hs
    · rename_i hb
      cases hs
      have hb := Nat.eq_of_beq_eq_true hb
      have hborn : e.born = c := h1.2.2.symm
      refine ⟨0, e, ?_, rfl, ?_⟩
      · rw [List.findIdx?_cons, if_pos]; simp [hborn, hb]
      · simp only [List.set_cons_zero, EnsR]
        exact ⟨_, r, rfl, ⟨h1.1, hv, h1.2.2⟩, h2⟩
    · rename_i hb
      split at hs
      · rename_i l' hl
        cases hs
        obtain ⟨i, x', g1, g2, g3⟩ := setE_sound hv es r l' h2 hl
        have hborn : e.born = c := h1.2.2.symm
        refine ⟨i + 1, x', ?_, by simpa using g2, ?_⟩
        · rw [List.findIdx?_cons, if_neg, g1]
          · rfl
          · simp only [hborn, beq_iff_eq]
            intro hh
            have : b = c := by omega
            rw [this] at hb; simp at hb
        · simp only [List.set_cons_succ, EnsR]
          exact ⟨e, _, rfl, h1, g3⟩
      · cases hs
include hE hH hq in
theorem e_enStore {t : TypeId} {m s v : Operand} (hev : xEnStore (q m) (q s) (q v) h nx L = some (Tn.mk a h' nx')) : Turns P ρ B μ h w ⟨d, .entryStore t m s v, ty, pos, af, gd⟩ a h' := by
  obtain ⟨f, hfm, hev⟩ : ∃ f, getO (q m) L = .map f ∧ _ := asMap_some hev
  obtain ⟨b, st, n, hm, hx⟩ := q_map hq hfm
  obtain ⟨kk, i0, hs, hev⟩ := idx_q hq hev
  obtain ⟨es, clock, ho, hev⟩ := asMapO_some hev
  obtain ⟨l, hl, hev⟩ := opt_inv hev
  cases hev
  obtain ⟨hBb, xs, hxs, hR⟩ := hH.mapOb ho hm
  obtain ⟨i, y, g1, g2, g3⟩ := setE_sound (hq v) es xs.toList l hR hl
  have hyi : xs[i]? = some y := by rw [← Array.getElem?_toList]; exact g2
  obtain ⟨z1, z2⟩ := hH.mapTurn ho hm (es' := l) (xs' := xs.modify i fun e => { e with val := ρ v }) (clock' := clock) (by
    have : (xs.modify i fun e => { e with val := ρ v }).toList = xs.toList.set i { y with val := ρ v } := by
      apply List.ext_getElem?
      intro j
      rw [Array.getElem?_toList, Array.getElem?_modify, List.getElem?_set]
      by_cases hj : i = j
      · subst hj
        obtain ⟨hlt, hye⟩ := Array.getElem?_eq_some_iff.1 hyi
        simp [hye, hlt]
      · simp [hj]
    rw [this]; exact g3)
  refine turns_skip (run_unit (s := Instr.entryStore t (ρ m) (ρ s) (ρ v)) ?_) z1 z2 (Kp.set rfl)
  rw [hx, hs]
  have hfi : xs.findIdx? (fun e => (e.born : Int) == (i0 : Int)) = some i := by obtain ⟨xl⟩ := xs; rw [List.findIdx?_toArray]; exact g1
  simp only [Instr.entryStore, Sem.run_bind, Result.andThen_ok, MapKept.run_getObj_map hxs, Go.asInt, asIntOf, Sem.run_pure, hfi, MapKept.run_setObj_map _ hxs]
  rfl
include hE hH hq in
theorem e_del {t : TypeId} {mv kv : AV} {m k : Value} (hm' : VR μ mv m) (hk' : VR μ kv k) {xs : Array Value} {ats : Array TypeId} (a0 : xs[0]? = some m) (a1 : xs[1]? = some k) (t0 : ats[0]? = some t)
    (hev : delM E (kTy E t) mv kv h nx = some (Tn.mk a h' nx')) : a = undefA ∧ ∃ w', (Builtin.delete_ ats ty xs).run P w = .ok (.tuple #[]) w' ∧ HR B μ h' w' ∧ Ext B w w' ∧ Kp h μ h' μ := by
  unfold delM at hev
  split at hev
  · obtain ⟨r, hf, hev⟩ := opt_inv hev
    cases hev
    simp only [VR] at hm'
    obtain ⟨kt, el, hu⟩ := kTy_und hf
    obtain ⟨hkt, hk⟩ := kTy_inv hu hf
    rw [hkt] at hf
    have g0 := checkK hE (w := w) true hk hk' hf
    refine ⟨rfl, w, ?_, hH, Ext.refl _ _, Kp.refl _ _⟩
    subst hm'
    simp only [Builtin.delete_, t0, a0, a1, Sem.run_bind, hE.runUnd hu, Result.andThen_ok, g0, Sem.run_pure]
  · rename_i f
    simp only [VR] at hm'
    obtain ⟨b, s, n, hm, rfl⟩ := hm'
    obtain ⟨es, clock, ho, hev⟩ := asMapO_some hev
    obtain ⟨r, hf, hev⟩ := opt_inv hev
    obtain ⟨kt, el, hu⟩ := kTy_und hf
    obtain ⟨hkt, hk⟩ := kTy_inv hu hf
    rw [hkt] at hf
    obtain ⟨hBb, xs', hxs, hR⟩ := hH.mapOb ho hm
    obtain ⟨r', g1, g2⟩ := findKey_sound hE hH hk' hR hf
    have g0 := checkK hE (w := w) xs'.isEmpty hk hk' hf
    cases r with
    | none =>
      cases hev
      simp only [FoundR] at g2; subst g2
      obtain ⟨z1, z2⟩ := hH.mapTurn ho hm (es' := es) (xs' := xs') (clock' := clock) hR
      refine ⟨rfl, World.put w b (.map xs' clock), ?_, ?_, z2, Kp.refl _ _⟩
      · simp only [Builtin.delete_, t0, a0, a1, Sem.run_bind, hE.runUnd hu, Result.andThen_ok, MapKept.run_getObj_map hxs, g0, g1, MapKept.run_setObj_map _ hxs, Sem.run_pure]
        rfl
      · refine hH.world ?_
        obtain ⟨hlt, he⟩ := Array.getElem?_eq_some_iff.1 hxs
        show w.heap.setIfInBounds b (.map xs' clock) = w.heap
        apply Array.ext_getElem?
        intro j
        rw [Array.getElem?_setIfInBounds]
        by_cases hj : b = j
        · subst hj; simp [hlt, he]
        · simp [hj]
    | some p =>
      obtain ⟨i, e⟩ := p
      cases hev
      obtain ⟨y, _, g3, g4, g5, rfl⟩ := g2
      have hyi : xs'[i]? = some y := by rw [← Array.getElem?_toList]; simpa using g4
      obtain ⟨hlt, hye⟩ := Array.getElem?_eq_some_iff.1 hyi
      obtain ⟨z1, z2⟩ := hH.mapTurn ho hm (es' := es.eraseIdx i) (xs' := xs'.eraseIdxIfInBounds i) (clock' := clock) (by
        have : (xs'.eraseIdxIfInBounds i).toList = xs'.toList.eraseIdx i := by
          rw [Array.eraseIdxIfInBounds, dif_pos hlt, Array.toList_eraseIdx]
        rw [this]; exact hR.erase i)
      refine ⟨rfl, World.put w b (.map (xs'.eraseIdxIfInBounds i) clock), ?_, z1, z2, Kp.set rfl⟩
      simp only [Builtin.delete_, t0, a0, a1, Sem.run_bind, hE.runUnd hu, Result.andThen_ok, MapKept.run_getObj_map hxs, g0, g1, MapKept.run_setObj_map _ hxs, Sem.run_pure]
      rfl
  · cases hev
include hE hH hq in
theorem e_delete {xs : Array Operand} {ats : Array TypeId} {t : TypeId} {ts : List TypeId} {x y : Operand} {l : List Operand} (hx : xs.toList = x :: y :: l) (ht : ats.toList = t :: ts)
    (hev : xDel E (kTy E t) (q x) (q y) h nx L = some (Tn.mk a h' nx')) : Turns P ρ B μ h w ⟨d, .call { callee := .builtin .delete, args := xs, argTypes := ats }, ty, pos, af, gd⟩ a h' := by
  have a0 : (xs.map ρ)[0]? = some (ρ x) := by rw [← Array.getElem?_toList]; simp [hx]
  have a1 : (xs.map ρ)[1]? = some (ρ y) := by rw [← Array.getElem?_toList]; simp [hx]
  have t0 : ats[0]? = some t := by rw [← Array.getElem?_toList]; simp [ht]
  obtain ⟨rfl, w', r1, r2, r3, r4⟩ := e_del (P := P) (ty := ty) hE hH hq (hq x) (hq y) a0 a1 t0 hev
  refine turns_val (v := .tuple #[]) (run_builtin (s := Builtin.delete_ ats ty (xs.map ρ)) rfl ?_) vr_undef (Mu.le_refl _) r2 r3 r4
  have : (Builtin.delete_ ats ty (xs.map ρ)).run P w = .ok (.tuple #[]) w' := r1
  exact this
include hE hH hq in
theorem e_clearM {xs : Array Operand} {ats : Array TypeId} {t kt el : TypeId} {ts : List TypeId} {x : Operand} {l : List Operand} (hx : xs.toList = x :: l) (ht : ats.toList = t :: ts)
    (hu : E.und t = some (.map kt el)) (hev : xClearM (q x) h nx L = some (Tn.mk a h' nx')) : Turns P ρ B μ h w ⟨d, .call { callee := .builtin .clear, args := xs, argTypes := ats }, ty, pos, af, gd⟩ a h' := by
  have a0 : (xs.map ρ)[0]? = some (ρ x) := head_args hx
  have t0 : ats[0]? = some t := head_types ht
  have hxv := hq x
  unfold xClearM at hev
  split at hev
  · rename_i e
    rw [e] at hxv; simp only [VR] at hxv
    cases hev
    refine turns_val (v := .tuple #[]) (run_builtin (s := Builtin.clear_ ats ty (xs.map ρ)) rfl (w' := w) ?_) vr_undef (Mu.le_refl _) hH (Ext.refl _ _) (Kp.refl _ _)
    simp [Builtin.clear_, t0, a0, hE.runUnd hu, hxv]
  · rename_i f e
    rw [e] at hxv; simp only [VR] at hxv
    obtain ⟨b, s, n, hm, hxv⟩ := hxv
    obtain ⟨es, clock, ho, hev⟩ := asMapO_some hev
    cases hev
    obtain ⟨hBb, xs', hxs, hR⟩ := hH.mapOb ho hm
    obtain ⟨z1, z2⟩ := hH.mapTurn ho hm (es' := []) (xs' := #[]) (clock' := clock) (by simp [EnsR])
    refine turns_val (v := .tuple #[]) (run_builtin (s := Builtin.clear_ ats ty (xs.map ρ)) rfl (w' := World.put w b (.map #[] clock)) ?_) vr_undef (Mu.le_refl _) z1 z2 (Kp.set rfl)
    simp only [Builtin.clear_, t0, a0, Sem.run_bind, hE.runUnd hu, Result.andThen_ok, hxv, MapKept.run_getObj_map hxs, MapKept.run_setObj_map _ hxs, Sem.run_pure]
    rfl
  · cases hev
include hE hH hq in
theorem e_clearS {xs : Array Operand} {ats : Array TypeId} {t el : TypeId} {ts : List TypeId} {x : Operand} {l : List Operand} {z : AV} (hx : xs.toList = x :: l) (ht : ats.toList = t :: ts)
    (hu : E.und t = some (.slice el)) (hz : zeroA E el = some z) (hev : xClearS z.cells (q x) h nx L = some (Tn.mk a h' nx')) : Turns P ρ B μ h w ⟨d, .call { callee := .builtin .clear, args := xs, argTypes := ats }, ty, pos, af, gd⟩ a h' := by
  have a0 : (xs.map ρ)[0]? = some (ρ x) := head_args hx
  have t0 : ats[0]? = some t := head_types ht
  have hxv := hq x
  obtain ⟨zv, hzv, rfl⟩ := hE.runZero hz w
  unfold xClearS at hev
  split at hev
  · rename_i e
    rw [e] at hxv; simp only [VR] at hxv
    cases hev
    refine turns_val (v := .tuple #[]) (run_builtin (s := Builtin.clear_ ats ty (xs.map ρ)) rfl (w' := w) ?_) vr_undef (Mu.le_refl _) hH (Ext.refl _ _) (Kp.refl _ _)
    simp [Builtin.clear_, t0, a0, hE.runUnd hu, hxv]
  · rename_i f g o n cp sz ex e
    rw [e] at hxv; simp only [VR] at hxv
    obtain ⟨b, s, mm, xo, c, hm, hxv, v1, v2, v3, hpl⟩ := hxv
    by_cases hn0 : n = 0
    · subst hn0
      cases hev
      refine turns_val (v := .tuple #[]) (run_builtin (s := Builtin.clear_ ats ty (xs.map ρ)) rfl (w' := w) ?_) vr_undef (Mu.le_refl _) hH (Ext.refl _ _) (Kp.refl _ _)
      simp [Builtin.clear_, t0, a0, hE.runUnd hu, hxv]
    · have hb : Nat.beq n 0 = false := Bool.eq_false_iff.2 fun hh => hn0 (Nat.eq_of_beq_eq_true hh)
      rw [hb] at hev
      obtain ⟨hzl, hev⟩ := cnd_inv (show cnd _ _ none = some _ from hev)
      have hzl := Nat.eq_of_beq_eq_true hzl
      obtain ⟨h2, hst, hev⟩ := opt_inv hev
      cases hev
      have hzc := ofV_cells (μ := μ) zv
      have hzs : (ofV zv).cells.length = zv.cells.size := by have := hzc.length; simpa using this
      rcases hpl with ⟨p1, rfl, p3⟩ | ⟨p1, _⟩
      · unfold storeTo at hst
        have hz0 : n * (ofV zv).cells.length ≠ 0 ∨ n * (ofV zv).cells.length = 0 := by omega
        rcases hz0 with hz0 | hz0
        · have hvs := zeros_sound hzc n hz0
          have hnb : Nat.beq (repL (ofV zv).cells n).length 0 = false := Bool.eq_false_iff.2 fun hh => hz0 (by rw [← repL_length]; exact Nat.eq_of_beq_eq_true hh)
          rw [hnb] at hst
          obtain ⟨hsc, hst⟩ := cnd_inv (show cnd _ _ none = some _ from hst)
          obtain ⟨w', r1, r2, r3, r4⟩ := storeC_sound (P := P) hH hm p1 hst rfl (by rw [repL_length]; omega) hvs (allScalar_of hsc hvs)
          refine turns_val (v := .tuple #[]) (run_builtin (s := Builtin.clear_ ats ty (xs.map ρ)) rfl (w' := w') ?_) vr_undef (Mu.le_refl _) r2 r3 r4
          obtain ⟨k, rfl⟩ : ∃ k, n = k + 1 := ⟨n - 1, by omega⟩
          have e5 : (Builtin.zeroCells zv.cells (k + 1)).toList = ((Array.range ((k + 1) * (ofV zv).cells.length)).map (zv.cells[· % zv.cells.size]!)).toList := by rw [hzs]; rfl
          simp only [Builtin.clear_, t0, a0, Sem.run_bind, hE.runUnd hu, Result.andThen_ok, hxv, hzv, e5, r1, Sem.run_pure]
        · have hnb : Nat.beq (repL (ofV zv).cells n).length 0 = true := by rw [repL_length, hz0]; rfl
          rw [hnb] at hst
          cases hst
          refine turns_val (v := .tuple #[]) (run_builtin (s := Builtin.clear_ ats ty (xs.map ρ)) rfl (w' := w) ?_) vr_undef (Mu.le_refl _) hH (Ext.refl _ _) (Kp.refl _ _)
          obtain ⟨k, rfl⟩ : ∃ k, n = k + 1 := ⟨n - 1, by omega⟩
          have e5 : (Builtin.zeroCells zv.cells (k + 1)).toList = [] := by
            have : (Builtin.zeroCells zv.cells (k + 1)).size = 0 := by simp only [Builtin.zeroCells, Array.size_map, Array.size_range]; rw [← hzs]; exact hz0
            exact List.length_eq_zero_iff.1 (by simpa using this)
          simp only [Builtin.clear_, t0, a0, Sem.run_bind, hE.runUnd hu, Result.andThen_ok, hxv, hzv, e5, storeCells, Sem.run_pure]
      · omega
  · cases hev
end
end Go.Ev

namespace Go.Ev
set_option linter.unusedVariables false
set_option linter.unusedSectionVars false
set_option linter.unusedSimpArgs false
variable [Val] [Fk]
def Cont (μ : Mu) (get : Nat → Option Value) (sz : Nat) (l : List (List Value)) (sfx : List (List AV)) : Prop :=
  (∀ (r : Nat) row, l[r]? = some row → ∀ (j : Nat) v, row[j]? = some v → get (r * sz + j) = some v) ∧
  ∀ (i : Nat) x, sfx[i]? = some x → ∀ (j : Nat) a, x[j]? = some a → ∃ v, get ((l.length + i) * sz + j) = some v ∧ VR μ a v
theorem Cont.of {μ : Mu} {cs : Array Value} {s sz : Nat} {l : List (List Value)} {sfx : List (List AV)} (h1 : LstAt cs s sz l) (h2 : SfxAt μ cs s sz l.length sfx) : Cont μ (fun i => cs[s + i]?) sz l sfx :=
  ⟨fun r row hr j v hj => by have := h1 r row hr j v hj; rwa [Nat.add_assoc] at this, fun i x hi j a hj => by
    obtain ⟨v, e1, e2⟩ := h2 i x hi j a hj
    exact ⟨v, by rwa [Nat.add_assoc] at e1, e2⟩⟩
theorem Cont.lst {μ : Mu} {cs : Array Value} {s sz : Nat} {l : List (List Value)} {sfx : List (List AV)} (h : Cont μ (fun i => cs[s + i]?) sz l sfx) : LstAt cs s sz l :=
  fun r row hr j v hj => by have : cs[s + (r * sz + j)]? = some v := h.1 r row hr j v hj; rwa [← Nat.add_assoc] at this
theorem Cont.sfx {μ : Mu} {cs : Array Value} {s sz : Nat} {l : List (List Value)} {sfx : List (List AV)} (h : Cont μ (fun i => cs[s + i]?) sz l sfx) : SfxAt μ cs s sz l.length sfx :=
  fun i x hi j a hj => by obtain ⟨v, e1, e2⟩ := h.2 i x hi j a hj; exact ⟨v, by have e1 : cs[s + ((l.length + i) * sz + j)]? = some v := e1; rwa [← Nat.add_assoc] at e1, e2⟩
theorem Cont.mono {μ ν : Mu} (h : μ.le ν) {get : Nat → Option Value} {sz : Nat} {l : List (List Value)} {sfx : List (List AV)} (k : Cont μ get sz l sfx) : Cont ν get sz l sfx :=
  ⟨k.1, fun i x hi j a hj => by obtain ⟨v, e1, e2⟩ := k.2 i x hi j a hj; exact ⟨v, e1, VR.mono h _ _ e2⟩⟩
theorem row_lt {n r j sz : Nat} (hr : r < n) (hj : j < sz) : r * sz + j < n * sz := by
  have : (r + 1) * sz ≤ n * sz := Nat.mul_le_mul_right sz hr
  rw [Nat.add_mul] at this; omega
theorem Cont.congr {μ : Mu} {get get' : Nat → Option Value} {sz n : Nat} {l : List (List Value)} {sfx : List (List AV)} (k : Cont μ get sz l sfx) (h1 : ∀ row ∈ l, row.length = sz) (h2 : ∀ x ∈ sfx, x.length = sz)
    (hn : l.length + sfx.length ≤ n) (h : ∀ i, i < n * sz → get' i = get i) : Cont μ get' sz l sfx := by
  refine ⟨fun r row hr j v hj => ?_, fun i x hi j a hj => ?_⟩
  · have a1 := (List.getElem?_eq_some_iff.1 hr).1
    have a2 := (List.getElem?_eq_some_iff.1 hj).1
    rw [h1 row (List.mem_of_getElem? hr)] at a2
    rw [h _ (row_lt (by omega) a2)]
    exact k.1 r row hr j v hj
  · have a1 := (List.getElem?_eq_some_iff.1 hi).1
    have a2 := (List.getElem?_eq_some_iff.1 hj).1
    rw [h2 x (List.mem_of_getElem? hi)] at a2
    obtain ⟨v, e1, e2⟩ := k.2 i x hi j a hj
    exact ⟨v, by rw [h _ (row_lt (by omega) a2)]; exact e1, e2⟩
theorem flatL_get {sz : Nat} : ∀ {ls : List (List AV)}, (∀ l ∈ ls, l.length = sz) → ∀ {i : Nat} {x : List AV} {j : Nat} {a : AV}, ls[i]? = some x → x[j]? = some a → (flat ls)[i * sz + j]? = some a
  | [], _, i, x, j, a, hi, _ => by simp at hi
  | l :: ls, h, 0, x, j, a, hi, hj => by
    simp at hi; subst hi
    have := (List.getElem?_eq_some_iff.1 hj).1
    simp only [flat, Nat.zero_mul, Nat.zero_add]
    rw [List.getElem?_append_left this]; exact hj
  | l :: ls, h, i + 1, x, j, a, hi, hj => by
    simp at hi
    have hl : l.length = sz := h l (List.mem_cons_self ..)
    simp only [flat]
    rw [List.getElem?_append_right (by rw [Nat.add_mul]; omega)]
    have := flatL_get (sz := sz) (fun y hy => h y (List.mem_cons_of_mem _ hy)) hi hj
    rw [← this]
    congr 1
    rw [Nat.add_mul]; omega
theorem Cont.more {μ : Mu} {get : Nat → Option Value} {sz : Nat} {l : List (List Value)} {sfx new : List (List AV)} (k : Cont μ get sz l sfx) (h3 : ∀ x ∈ new, x.length = sz) {vs : List Value} (hv : VRs μ (flat new) vs)
    (h : ∀ j v, vs[j]? = some v → get ((l.length + sfx.length) * sz + j) = some v) : Cont μ get sz l (sfx ++ new) := by
  refine ⟨k.1, fun i x hi j a hj => ?_⟩
  by_cases hlt : i < sfx.length
  · rw [List.getElem?_append_left hlt] at hi
    exact k.2 i x hi j a hj
  · rw [List.getElem?_append_right (by omega)] at hi
    obtain ⟨v, e1, e2⟩ := hv.get (flatL_get h3 hi hj)
    refine ⟨v, ?_, e2⟩
    rw [← h _ v e1]
    congr 1
    have : (l.length + i) * sz = (l.length + sfx.length) * sz + (i - sfx.length) * sz := by rw [← Nat.add_mul]; congr 1; omega
    omega
section
variable {E : Env} {P : Program} (hE : EnvOk E P) {B : Nat} {μ : Mu} {h : Hp} {w : World} (hH : HR B μ h w) {nx : Key} (hB : B ≤ w.heap.size)
  {L : Lo} {ρ : Operand → Value} {q : Operand → Opd} (hq : ∀ x, VR μ (getO (q x) L) (ρ x))
variable {d : Option Tmp} {ty : TypeId} {pos : String} {af : Array Edge} {gd : Option (Nat × Bool)} {a : AV} {h' : Hp} {nx' : Key}
include hH in
theorem nsl_first {f : Key} {g sz : Nat} {k : Key} {c : Int} {q' : Key} {d' m : Int} {y : Value} {n : Nat} {rows : List (List AV)} (hy : VR μ (.nsl f g sz k c q' d' m) y) (hle : nz k + c + n ≤ nz q' + d')
    (hr : rowsN h f g sz k c n = some rows) :
    rows.length = n ∧ (∀ l ∈ rows, l.length = sz) ∧ ∃ vs : List Value, VRs μ (flat rows) vs ∧ ∀ w', w'.heap = w.heap → (Builtin.firstCells sz n y).run P w' = .ok vs.toArray w' := by
  simp only [VR] at hy
  obtain ⟨base, len, cp, rfl, h1, h2, h3, h4⟩ := hy
  rcases h4 with h4 | ⟨b, s, nn, r, hm, hrr, hb, hl⟩
  · have hn : n = 0 := by omega
    subst hn
    cases hr
    refine ⟨rfl, by simp, [], .nil, fun w' _ => ?_⟩
    cases base with
    | none => rfl
    | some ad => show (loadCells ad (0 * sz)).run P w' = _; rw [Nat.zero_mul]; rfl
  · obtain ⟨r1, r2, r3⟩ := rowsN_sound hH hm n c r rows hrr hr
    by_cases hn : n = 0
    · subst hn
      cases hr
      refine ⟨rfl, by simp, [], .nil, fun w' _ => ?_⟩
      rw [hb]
      show (loadCells _ (0 * sz)).run P w' = _; rw [Nat.zero_mul]; rfl
    · obtain ⟨cs, e, fz, hheap, hcs⟩ : ∃ cs e fz, w.heap[b]? = some (.cells cs e fz) ∧ cs.size = nn := by
        obtain ⟨cs, e, fz, e1, e2, _⟩ := r3 0 (rows[0]'(by omega)) (List.getElem?_eq_getElem (by omega))
        exact ⟨cs, e, fz, e1, e2⟩
      have fl := flat_length rows r2
      obtain ⟨vs, v1, v2⟩ := vals_of' (μ := μ) (cs := cs) (flat rows) (s + r * sz) (fun j a' hj => by
        have hjl := (List.getElem?_eq_some_iff.1 hj).1
        rw [fl, r1] at hjl
        have hz : 0 < sz := by
          rcases Nat.eq_zero_or_pos sz with h0 | h0
          · subst h0; simp at hjl
          · exact h0
        have hi : j / sz < n := Nat.div_lt_of_lt_mul (by rw [Nat.mul_comm]; exact hjl)
        obtain ⟨cs', e', fz', e1, e2, e3⟩ := r3 (j / sz) (rows[j / sz]'(by omega)) (List.getElem?_eq_getElem (by omega))
        rw [hheap] at e1
        cases e1
        have hlr : (rows[j / sz]'(by omega)).length = sz := r2 _ (List.getElem_mem _)
        have hjm : j % sz < (rows[j / sz]'(by omega)).length := by rw [hlr]; exact Nat.mod_lt _ hz
        have e4 := flatL_get r2 (List.getElem?_eq_getElem (by omega : j / sz < rows.length)) (List.getElem?_eq_getElem hjm)
        have e5 : j / sz * sz + j % sz = j := Nat.div_add_mod' j sz
        rw [e5, hj] at e4
        obtain ⟨v, e6, e7⟩ := e3 (j % sz) a' (by rw [List.getElem?_eq_getElem hjm]; exact e4.symm)
        refine ⟨v, ?_, e7⟩
        rw [← e6]; congr 1
        rw [Nat.add_mul]; omega)
      have hvl : vs.length = n * sz := by rw [← v1.length, fl, r1]
      refine ⟨r1, r2, vs, v1, fun w' hw' => ?_⟩
      rw [hb]
      show (loadCells ⟨b, s + r * sz, none⟩ (n * sz)).run P w' = _
      rw [← hvl]
      exact run_load_block (by rw [hw']; exact hheap) v2
include hH hq in
theorem rowsY_sound {y : Operand} {sz : Nat} {new : List (List AV)} (hr : rowsY h sz (getO (q y) L) = some new) : ∃ n, (∀ w', (Builtin.lenOf (ρ y)).run P w' = .ok n w') ∧ new.length = n ∧ (∀ l ∈ new, l.length = sz) ∧
    ∃ vs : List Value, VRs μ (flat new) vs ∧ ∀ w', w'.heap = w.heap → (Builtin.firstCells sz n (ρ y)).run P w' = .ok vs.toArray w' := by
  rcases asNsl_some hr with ⟨f, g, sz', k, c, q', d', m, e, hr⟩ | ⟨_, hr⟩
  · have hy := hq y
    rw [e] at hy
    replace hr := cnd_inv hr
    obtain ⟨hz, hr⟩ := hr
    obtain rfl := Nat.eq_of_beq_eq_true hz
    obtain ⟨n, hd, hr⟩ := opt_inv hr
    rw [icase_eq] at hr
    have hdd := disX_sound hH.fk hd
    cases n with
    | negSucc n => cases hr
    | ofNat n =>
      obtain ⟨r1, r2, vs, r3, r4⟩ := nsl_first (P := P) hH hy (n := n) (by rw [hdd]; exact Int.le_refl _) hr
      have hlen : ∀ w', (Builtin.lenOf (ρ y)).run P w' = .ok n w' := fun w' => by
        obtain ⟨base, len, cp, ex, h1, h2, h3, h4⟩ := q_nsl hq e
        have : len = n := by simp only [Int.ofNat_eq_natCast] at hdd; omega
        rw [ex, this]; simp [Builtin.lenOf]
      exact ⟨n, hlen, r1, r2, vs, r3, r4⟩
  · obtain ⟨n, hl, hr⟩ := opt_inv hr
    obtain ⟨h1, h2, h3, vs, h4, h5⟩ := firstRows_sound (P := P) hH (hq y) hl (Nat.le_refl _) hr
    exact ⟨n, h1, h2, h3, vs, h4, h5⟩
include hH in
theorem HR.lstIn {f : Key} {gen sz : Nat} {q' : Key} {sfx new : List (List AV)} {b s n : Nat} {cs : Array Value} {e : TypeId} {vs : List Value} (ho : hget f h = .lst false gen sz q' sfx) (hm : μ f gen = some (b, s, n))
    (hheap : w.heap[b]? = some (.cells cs e (0, 0))) (hg : gen + 1 < strGen) (hnr : ∀ l ∈ new, l.length = sz) (hv : VRs μ (flat new) vs) (hroom : s + ((Val.l q').length + sfx.length) * sz + vs.length ≤ cs.size) :
    HR B (μ.ins f (gen + 1) (b, s, n)) (hset f (.lst false (gen + 1) sz q' (sfx ++ new)) h) (World.put w b (.cells (spliceA cs (s + ((Val.l q').length + sfx.length) * sz) vs) e (0, 0))) ∧ μ.le (μ.ins f (gen + 1) (b, s, n)) := by
  obtain ⟨⟨⟨k0, k1⟩, k2⟩, ⟨k3, k4⟩, k5⟩ := hH.lst ho
  have hle : μ.le (μ.ins f (gen + 1) (b, s, n)) := Mu.ins_le (k3 _ (Nat.lt_succ_self _)) _
  have hbl := hH.lt _ _ _ _ _ hm
  have hBb : B ≤ b := (k5 _ _ _ _ hm).1.1 rfl
  have same : ∀ i, i < ((Val.l q').length + sfx.length) * sz → (spliceA cs (s + ((Val.l q').length + sfx.length) * sz) vs)[s + i]? = cs[s + i]? := by
    intro i hi
    rw [spliceA_get _ _ _ _ hroom, if_neg (by omega)]
  refine ⟨⟨?_, ?_, ?_, ?_, hH.fk, fun f1 b1 s1 n1 h1 => (Mu.ins_inv h1).elim (fun h => by obtain ⟨_, h2, h3⟩ := h; first | omega | (cases h3; rfl)) fun h => hH.start _ _ _ _ h⟩, hle⟩
  · intro f1 g1 b1 s1 m1 f2 g2 s2 m2 h1 h2 hc
    rcases Mu.ins_inv h1 with ⟨i1, _, e1⟩ | c1 <;> rcases Mu.ins_inv h2 with ⟨i2, _, e2⟩ | c2
    · cases e1; cases e2; exact ⟨i1.trans i2.symm, rfl, rfl⟩
    · cases e1; subst i1; exact hH.inj _ _ _ _ _ _ _ _ _ hm c2 (.inr hBb)
    · cases e2; subst i2; exact hH.inj _ _ _ _ _ _ _ _ _ c1 hm (.inr hBb)
    · exact hH.inj _ _ _ _ _ _ _ _ _ c1 c2 hc
  · intro f1 g1 b1 s1 m1 h1
    simp only [World.put, Array.size_setIfInBounds]
    rcases Mu.ins_inv h1 with ⟨rfl, rfl, e1⟩ | c1
    · cases e1; exact hbl
    · exact hH.lt _ _ _ _ _ c1
  · intro f1
    by_cases hff : f = f1
    · subst hff
      rw [hget_hset]
      refine ⟨⟨⟨k0, k1⟩, fun l hl => ?_⟩, ⟨fun g hgg => ?_, fun _ => hg⟩, fun g b1 s1 n1 hm1 => ?_⟩
      · rcases List.mem_append.1 hl with hl | hl
        · exact k2 l hl
        · exact hnr l hl
      · rw [Mu.ins_other _ (.inr (by omega))]; exact k3 g (by omega)
      · obtain ⟨_, cs0, e0, fz0, j1, j2, j3, j4, j5⟩ := k5 gen b s n hm
        rw [hheap] at j1
        cases j1
        have ct := Cont.of j4 (j5 rfl)
        rcases Mu.ins_inv hm1 with ⟨_, rfl, e1⟩ | c1
        · cases e1
          have ct' : Cont μ (fun i => (spliceA cs (s + ((Val.l q').length + sfx.length) * sz) vs)[s + i]?) sz (Val.l q') (sfx ++ new) := by
            refine (ct.congr k1 k2 (Nat.le_refl _) same).more hnr hv (fun j v hj => ?_)
            have hjl := (List.getElem?_eq_some_iff.1 hj).1
            show (spliceA cs (s + ((Val.l q').length + sfx.length) * sz) vs)[s + (((Val.l q').length + sfx.length) * sz + j)]? = some v
            rw [spliceA_get _ _ _ _ hroom, if_pos (by omega), ← hj]
            congr 1; omega
          have ct'' := ct'.mono hle
          exact ⟨⟨fun _ => hBb, fun hh => by cases hh⟩, _, e, (0, 0), put_get hbl, fun _ => rfl, by rw [spliceA_size]; exact j3, ct''.lst, fun _ => ct''.sfx⟩
        · have hgl : g ≤ gen := Nat.le_of_not_lt fun hh => by rw [k3 g hh] at c1; cases c1
          obtain ⟨a0, cs1, e1, fz1, a1, a2, a3, a4, a5⟩ := k5 g b1 s1 n1 c1
          by_cases hb : b1 = b
          · subst hb
            obtain ⟨_, rfl, rfl⟩ := hH.inj _ _ _ _ _ _ _ _ _ hm c1 (.inr hBb)
            have ct1 : Cont μ (fun i => (spliceA cs (s + ((Val.l q').length + sfx.length) * sz) vs)[s + i]?) sz (Val.l q') sfx := ct.congr k1 k2 (Nat.le_refl _) same
            refine ⟨a0, _, e, (0, 0), put_get hbl, fun _ => rfl, by rw [spliceA_size]; exact j3, ct1.lst, fun hh => by omega⟩
          · refine ⟨a0, cs1, e1, fz1, ?_, a2, a3, a4, fun hh => by omega⟩
            simp only [World.put]; rw [Array.getElem?_setIfInBounds_ne (Ne.symm hb)]; exact a1
    · rw [hget_hset_ne hff]
      refine OR.mono hle (fun g => Mu.ins_other _ (.inl hff) _) (fun g b1 s1 m1 hm1 => ?_) (hH.obj f1)
      have hne : b ≠ b1 := fun hb => by subst hb; exact hff (hH.inj _ _ _ _ _ _ _ _ _ hm hm1 (.inr hBb)).1
      simp only [World.put]
      rw [Array.getElem?_setIfInBounds_ne hne]
  · intro f1 g1 g2 b1 s1 m1 s2 m2 h1 h2 hgg
    rcases Mu.ins_inv h1 with ⟨i0, i1, e1⟩ | c1 <;> rcases Mu.ins_inv h2 with ⟨j0, i2, e2⟩ | c2
    · omega
    · omega
    · cases e2
      subst j0
      have := hH.side _ g1 gen _ _ _ _ _ c1 hm hgg
      omega
    · exact hH.side _ _ _ _ _ _ _ _ c1 c2 hgg
include hH hB in
theorem HR.lstNew {f : Key} {gen sz : Nat} {q' : Key} {sfx new : List (List AV)} {cs : Array Value} {e : TypeId} {w' : World} (ho : hget f h = .lst false gen sz q' sfx)
    (hw : w'.heap = w.heap.push (.cells cs e (0, 0))) (hg : gen + 1 < strGen) (hnr : ∀ l ∈ new, l.length = sz) (hc : Cont μ (fun i => cs[0 + i]?) sz (Val.l q') (sfx ++ new)) :
    HR B (μ.ins f (gen + 1) (w.heap.size, 0, cs.size)) (hset f (.lst false (gen + 1) sz q' (sfx ++ new)) h) w' ∧ μ.le (μ.ins f (gen + 1) (w.heap.size, 0, cs.size)) := by
  obtain ⟨⟨⟨k0, k1⟩, k2⟩, ⟨k3, k4⟩, k5⟩ := hH.lst ho
  have hle : μ.le (μ.ins f (gen + 1) (w.heap.size, 0, cs.size)) := Mu.ins_le (k3 _ (Nat.lt_succ_self _)) _
  refine ⟨⟨?_, ?_, ?_, ?_, hH.fk, fun f1 b1 s1 n1 h1 => (Mu.ins_inv h1).elim (fun h => by obtain ⟨_, h2, h3⟩ := h; first | omega | (cases h3; rfl)) fun h => hH.start _ _ _ _ h⟩, hle⟩
  · intro f1 g1 b1 s1 m1 f2 g2 s2 m2 h1 h2 hcc
    rcases Mu.ins_inv h1 with ⟨i1, _, e1⟩ | c1 <;> rcases Mu.ins_inv h2 with ⟨i2, _, e2⟩ | c2
    · cases e1; cases e2; exact ⟨i1.trans i2.symm, rfl, rfl⟩
    · cases e1; exact absurd (hH.lt _ _ _ _ _ c2) (Nat.lt_irrefl _)
    · cases e2; exact absurd (hH.lt _ _ _ _ _ c1) (Nat.lt_irrefl _)
    · exact hH.inj _ _ _ _ _ _ _ _ _ c1 c2 hcc
  · intro f1 g1 b1 s1 m1 h1
    rw [hw, Array.size_push]
    rcases Mu.ins_inv h1 with ⟨rfl, rfl, e1⟩ | c1
    · cases e1; omega
    · have := hH.lt _ _ _ _ _ c1; omega
  · intro f1
    by_cases hff : f = f1
    · subst hff
      rw [hget_hset]
      refine ⟨⟨⟨k0, k1⟩, fun l hl => ?_⟩, ⟨fun g hgg => ?_, fun _ => hg⟩, fun g b1 s1 n1 hm1 => ?_⟩
      · rcases List.mem_append.1 hl with hl | hl
        · exact k2 l hl
        · exact hnr l hl
      · rw [Mu.ins_other _ (.inr (by omega))]; exact k3 g (by omega)
      · rcases Mu.ins_inv hm1 with ⟨_, rfl, e1⟩ | c1
        · cases e1
          have ct := hc.mono hle
          exact ⟨⟨fun _ => hB, fun hh => by cases hh⟩, cs, e, (0, 0), by rw [hw]; simp, fun _ => rfl, rfl, ct.lst, fun _ => ct.sfx⟩
        · have hgl : g ≤ gen := Nat.le_of_not_lt fun hh => by rw [k3 g hh] at c1; cases c1
          obtain ⟨a0, cs1, e1, fz1, a1, a2, a3, a4, a5⟩ := k5 g b1 s1 n1 c1
          refine ⟨a0, cs1, e1, fz1, ?_, a2, a3, a4, fun hh => by omega⟩
          rw [hw, Array.getElem?_push, if_neg (by have := hH.lt _ _ _ _ _ c1; omega)]; exact a1
    · rw [hget_hset_ne hff]
      refine OR.mono hle (fun g => Mu.ins_other _ (.inl hff) _) (fun g b1 s1 m1 hm1 => ?_) (hH.obj f1)
      rw [hw, Array.getElem?_push, if_neg (by have := hH.lt _ _ _ _ _ hm1; omega)]
  · intro f1 g1 g2 b1 s1 m1 s2 m2 h1 h2 hgg
    rcases Mu.ins_inv h1 with ⟨i0, i1, e1⟩ | c1 <;> rcases Mu.ins_inv h2 with ⟨j0, i2, e2⟩ | c2
    · omega
    · omega
    · cases e2; exact absurd (hH.lt _ _ _ _ _ c1) (Nat.lt_irrefl _)
    · exact hH.side _ _ _ _ _ _ _ _ c1 c2 hgg
include hH hB in
theorem HR.lstFresh {sz : Nat} {q' : Key} {cs : Array Value} {e : TypeId} {w' : World} (hnx : (hget nx h).isNone = true) (hn : nz q' = (Val.l q').length) (hrl : ∀ row ∈ Val.l q', row.length = sz)
    (hw : w'.heap = w.heap.push (.cells cs e (0, 0))) (hc : LstAt cs 0 sz (Val.l q')) :
    HR B (μ.ins nx 0 (w.heap.size, 0, cs.size)) (hset nx (.lst false 0 sz q' []) h) w' ∧ μ.le (μ.ins nx 0 (w.heap.size, 0, cs.size)) := by
  refine hH.alloc hnx hw ⟨⟨⟨hn, hrl⟩, by simp⟩, ⟨fun g hgg => ?_, fun _ => by decide⟩, fun g b1 s1 n1 hm1 => ?_⟩
  · rw [Mu.ins_other _ (.inr (by omega))]; exact hH.noneAt hnx g
  · rcases Mu.ins_inv hm1 with ⟨_, rfl, e1⟩ | c1
    · cases e1
      exact ⟨⟨fun _ => hB, fun hh => by cases hh⟩, cs, e, (0, 0), by rw [hw]; simp, fun _ => rfl, rfl, hc, fun _ i l hi => by simp at hi⟩
    · rw [hH.noneAt hnx g] at c1; cases c1
theorem isEmptyS_sound {sz : Nat} {X : AV} {v : Value} (hv : VR μ X v) (h : isEmptyS sz X = true) : ∃ base, v = .slice base 0 0 := by
  unfold isEmptyS at h
  split at h
  · simp only [VR] at hv; exact ⟨none, hv⟩
  · obtain ⟨h1, h⟩ := cnd_true_inv h
    obtain ⟨h2, h⟩ := cnd_true_inv h
    obtain ⟨h3, h⟩ := cnd_true_inv h
    have h1 := Nat.eq_of_beq_eq_true h1
    have h2 := Nat.eq_of_beq_eq_true h2
    simp only [VR] at hv
    obtain ⟨b, s, n, x, c, _, e, _, _, hx, _⟩ := hv
    have hc := hx h
    subst h1 h2
    exact ⟨_, by rw [e, hc]⟩
  · cases h
include hE hH hB hq in
theorem e_appendX {xs : Array Operand} {ats : Array TypeId} {st xt el : TypeId} {ts : List TypeId} {x y : Operand} {l : List Operand} {dx : TypeDesc} {k : Nat} {z : AV} (hx : xs.toList = x :: y :: l) (ht : ats.toList = st :: xt :: ts)
    (hu : E.und st = some (.slice el)) (hxt : E.und xt = some dx) (hn : ∀ kk, dx ≠ .int kk) (hsz : E.size el = some (k + 1)) (hz : zeroA E el = some z)
    (hz1 : Nat.beq z.cells.length (k + 1) = true) (hby : Nat.ble (bytesO E el) 1000000 = true) (hev : xAppendX (k + 1) (q x) (q y) h nx L = some (Tn.mk a h' nx')) :
    Turns P ρ B μ h w ⟨d, .call { callee := .builtin .append, args := xs, argTypes := ats }, ty, pos, af, gd⟩ a h' := by
  unfold xAppendX at hev
  cases hns : cnd (isNsl (getO (q x) L)) true (isNsl (getO (q y) L)) with
  | false => rw [hns] at hev; exact e_append hE hH hB hq hx ht hu hxt hn hsz hz hz1 hby hev
  | true =>
  rw [hns] at hev
  replace hev : appN (k + 1) (getO (q x) L) (getO (q y) L) h nx = some (Tn.mk a h' nx') := hev
  -- what the model needs
  have hz1' := Nat.eq_of_beq_eq_true hz1
  have hby' := Nat.le_of_ble_eq_true hby
  obtain ⟨i, zv, hi, hiz, hzv⟩ := hE.zero hz
  have hisz : i.size = k + 1 := by obtain ⟨i', h1, h2⟩ := hE.size hsz; rw [hi] at h1; cases h1; exact h2
  have hiby : i.bytes ≤ 1000000 := by
    unfold bytesO at hby'
    split at hby'
    · rename_i i' hi'
      have := hE.ts _ _ hi'
      rw [hi] at this; cases this; exact hby'
    · omega
  have hzs : zv.cells.size = k + 1 := by
    have := (ofV_cells (μ := μ) zv).length
    rw [← hzv, hz1'] at this; simpa using this.symm
  have a0 : (xs.map ρ)[0]? = some (ρ x) := by rw [← Array.getElem?_toList]; simp [hx]
  have a1 : (xs.map ρ)[1]? = some (ρ y) := by rw [← Array.getElem?_toList]; simp [hx]
  have t0 : ats[0]? = some st := by rw [← Array.getElem?_toList]; simp [ht]
  have t1 : ats[1]? = some xt := by rw [← Array.getElem?_toList]; simp [ht]
  have up := hE.und hu
  have uxp := hE.und hxt
  have runval : ∀ {v : Value} {w' : World}, (Builtin.append_ ats ty (xs.map ρ)).run P w = .ok v w' → (execOp ρ ⟨d, .call { callee := .builtin .append, args := xs, argTypes := ats }, ty, pos, af, gd⟩).run P w = .ok (.value v) w' :=
    fun hr => run_builtin rfl hr
  have extNew : ∀ {o : Obj}, Ext B w (w.drew.alloc o) := fun {o} => ⟨rfl, rfl, rfl, by show w.heap.size ≤ (w.heap.push o).size; simp, fun kk hkk => by
    show (w.heap.push o)[kk]? = _
    rw [Array.getElem?_push, if_neg (by omega)]⟩
  unfold appN at hev
  cases hry : rowsY h (k + 1) (getO (q y) L) with
  | some new =>
    rw [hry] at hev
    obtain ⟨n, hlen, hnl, hnr, vs, hvs, hfc⟩ := rowsY_sound (P := P) hH hq hry
    rw [opt_some] at hev
    rcases asNsl_some hev with ⟨f, g, sz', kk, c, q', d', m, e, hev⟩ | ⟨_, hev⟩
    · have hxv := hq x
      obtain ⟨base, len, cp, ex, e1, e2, e3, e4⟩ := q_nsl hq e
      by_cases hn0 : new.length = 0
      · have : Nat.beq new.length 0 = true := by rw [hn0]; rfl
        rw [this] at hev
        cases hev
        have hvs0 : vs = [] := List.length_eq_zero_iff.1 (by rw [← hvs.length, flat_length new hnr, hn0]; simp)
        have hn00 : n = 0 := by omega
        subst hn00
        refine turns_val (runval (run_append_in (P := P) (w := w) t0 t1 (by rw [a0, ex]) a1 up uxp hn hi (hlen w) e1 (by rw [hisz]; exact hfc w rfl) (w' := w) (by rw [hvs0]; cases base <;> simp [storeCells]))) ?_ (Mu.le_refl _) hH (Ext.refl _ _) (Kp.refl _ _)
        rw [e, ex] at hxv
        exact hxv
      · have : Nat.beq new.length 0 = false := Bool.eq_false_iff.2 fun hh => hn0 (Nat.eq_of_beq_eq_true hh)
        rw [this] at hev
        replace hev := cnd_inv (show cnd _ _ none = some _ from hev)
        obtain ⟨hzz, hev⟩ := hev
        obtain rfl := Nat.eq_of_beq_eq_true hzz
        replace hev := cnd_inv hev
        obtain ⟨h0, hev⟩ := hev
        obtain ⟨rfl, rfl, h0⟩ := at0_sound h0
        -- the list itself
        replace hev := asLst_some hev
        obtain ⟨ro, gen, zz, q'', sfx, ho, hev⟩ := hev
        replace hev := cnd_inv' hev
        obtain ⟨rfl, hev⟩ := hev
        replace hev := cnd_inv hev
        obtain ⟨hzz, hev⟩ := hev
        obtain rfl := Nat.eq_of_beq_eq_true hzz
        replace hev := cnd_inv hev
        obtain ⟨hqq, hev⟩ := hev
        obtain rfl := Key.beq_eq hqq
        replace hev := cnd_inv hev
        obtain ⟨hgg, hev⟩ := hev
        obtain rfl := Nat.eq_of_beq_eq_true hgg
        replace hev := cnd_inv hev
        obtain ⟨hdd, hev⟩ := hev
        rw [ieq_eq] at hdd
        have hdd := of_decide_eq_true hdd
        replace hev := cnd_inv hev
        obtain ⟨hgl, hev⟩ := hev
        have hgl : g + 1 < strGen := Nat.le_of_ble_eq_true hgl
        obtain ⟨p, hp, hev⟩ := opt_inv hev
        obtain ⟨hbd, hev⟩ := cnd_inv hev
        obtain ⟨hb1, hev⟩ := cnd_inv hev
        obtain ⟨hsc, hev⟩ := cnd_inv hev
        cases hev
        have hp := relOf_sound hH.fk hp
        rw [ile_eq] at hbd hb1
        have hbd := of_decide_eq_true hbd
        have hb1 := of_decide_eq_true hb1
        simp only [iadd_eq] at hbd hb1 ⊢
        rw [nz_kZ] at hp
        obtain ⟨⟨⟨k0, k1⟩, k2⟩, ⟨k3, k4⟩, k5⟩ := hH.lst ho
        simp only [Int.ofNat_eq_natCast] at hdd hbd ⊢
        have hlenE : len = (Val.l q').length + sfx.length := by omega
        have hle : len + n ≤ 1000000 := by omega
        have hvl : vs.length = n * (k + 1) := by rw [← hvs.length, flat_length new hnr, hnl]
        have vrNew : ∀ {ν : Mu} {bb nn cc : Nat} {ss : Nat}, ν f (g + 1) = some (bb, ss, nn) → len + n ≤ cc → ss + cc * (k + 1) ≤ nn →
            VR ν (.nsl f (g + 1) (k + 1) kZ 0 q' (d' + (new.length : Int)) (d' + (new.length : Int))) (.slice (some ⟨bb, ss, none⟩) (len + n) cc) := by
          intro ν bb nn cc ss j1 j2 j3
          simp only [VR]
          refine ⟨_, _, _, rfl, j2, by omega, by omega, .inr ⟨bb, ss, nn, 0, j1, by omega, by simp, by simpa using j3⟩⟩
        -- what is there
        have old : ∃ os : List Value, os.length = len * (k + 1) ∧ (∀ w', w'.heap = w.heap → (Builtin.firstCells i.size len (.slice base len cp)).run P w' = .ok os.toArray w') ∧ Cont μ (fun j => os[j]?) (k + 1) (Val.l q') sfx ∧
            (cp = 0 ∨ ∃ b s nn cs ce, μ f g = some (b, s, nn) ∧ base = some ⟨b, s, none⟩ ∧ s + cp * (k + 1) ≤ nn ∧ w.heap[b]? = some (.cells cs ce (0, 0)) ∧ cs.size = nn ∧ B ≤ b) := by
          rcases e4 with e4 | ⟨b, s, nn, r, hm, hr, hb, hl⟩
          · have hz0 : len = 0 := by omega
            have hl0 : (Val.l q').length = 0 := by omega
            have hs0 : sfx.length = 0 := by omega
            refine ⟨[], by rw [hz0]; simp, fun w' _ => ?_, ?_, .inl e4⟩
            · rw [hz0]
              cases base with
              | none => rfl
              | some ad => show (loadCells ad (0 * i.size)).run P w' = _; rw [Nat.zero_mul]; rfl
            · have a1 := List.length_eq_zero_iff.1 hl0
              have a2 := List.length_eq_zero_iff.1 hs0
              rw [a1, a2]
              exact ⟨fun r row hh => by simp at hh, fun r row hh => by simp at hh⟩
          · have hr0 : r = 0 := by omega
            subst hr0
            obtain ⟨⟨hBb, _⟩, cs, ce, fz, hheap, hfz, hcs, hl1, hl2⟩ := k5 g b s nn hm
            have hfz := hfz rfl
            subst hfz
            have hsz' : s + len * (k + 1) ≤ cs.size := by
              have := Nat.mul_le_mul_right (k + 1) e1
              rw [hcs]
              rw [Nat.zero_add] at hl
              omega
            have hget : ∀ j, j < len * (k + 1) → ((cs.toList.drop s).take (len * (k + 1)))[j]? = cs[s + j]? := by
              intro j hj
              rw [List.getElem?_take, if_pos hj, List.getElem?_drop, Array.getElem?_toList]
            refine ⟨(cs.toList.drop s).take (len * (k + 1)), by simp; omega, fun w' hw' => ?_, ?_, .inr ⟨b, s, nn, cs, ce, hm, by rw [hb]; simp, by rw [Nat.zero_add] at hl; exact hl, hheap, hcs, hBb rfl⟩⟩
            · rw [hb]
              show (loadCells ⟨b, s + 0 * (k + 1), none⟩ (len * i.size)).run P w' = _
              rw [hisz]
              have hll : ((cs.toList.drop s).take (len * (k + 1))).length = len * (k + 1) := by simp; omega
              have := run_load_block (P := P) (w := w') (b := b) (x := s + 0 * (k + 1)) (vs := (cs.toList.drop s).take (len * (k + 1))) (by rw [hw']; exact hheap) (fun j v hj => by
                have hjl := (List.getElem?_eq_some_iff.1 hj).1
                rw [hll] at hjl
                rw [hget j hjl] at hj
                rw [← hj]; congr 1; omega)
              rw [hll] at this
              exact this
            · have ct := Cont.of hl1 (hl2 rfl)
              exact ct.congr k1 k2 (Nat.le_of_eq hlenE.symm) (fun j hj => hget j hj)
        obtain ⟨os, o1, o2, o3, o4⟩ := old
        by_cases hcap : len + n ≤ cp
        · rcases o4 with o4 | ⟨b, s, nn, cs, ce, hm, hb, hl, hheap, hcs, hBb⟩
          · omega
          · have hroom : s + len * (k + 1) + vs.length ≤ cs.size := by
              have := Nat.mul_le_mul_right (k + 1) hcap
              rw [Nat.add_mul] at this
              rw [hcs, hvl]; omega
            have hrun := run_append_in (P := P) (w := w) (ty := ty) t0 t1 (by rw [a0, ex]) a1 up uxp hn hi (hlen w) hcap (by rw [hisz]; exact hfc w rfl) (w' := World.put w b (.cells (spliceA cs (s + len * (k + 1)) vs) ce (0, 0))) (by
              rw [hb]
              show (storeCells ((⟨b, s, none⟩ : Addr).add (len * i.size)) vs).run P w = _
              rw [add_zero_spot, hisz]
              exact run_storeCells' (g := 0) vs 0 (s + len * (k + 1)) cs w hheap (.inl rfl) (by omega) (rowsScalar_of hsc hvs))
            rw [hlenE] at hroom hrun
            obtain ⟨r1, r2⟩ := HR.lstIn hH ho hm hheap hgl hnr hvs hroom
            refine turns_val (runval hrun) ?_ r2 r1 (Ext.put hBb) (Kp.setIns rfl hm)
            rw [hb, ← hlenE]
            refine vrNew (Mu.ins_same _ _ _ _) hcap (by omega)
        · obtain ⟨cp', hcp, hrun⟩ := run_append_new (P := P) (w := w) (ty := ty) (ats := ats) (args := xs.map ρ) (base := base) (sLen := len) (sCap := cp) (n := n) (y := ρ y) (os := os.toArray) (vs := vs.toArray) t0 t1 (by rw [a0, ex]) a1 up uxp hn hi hiz (hlen w) (by omega) hle hiby
            (by rw [hisz]; exact hfc w.drew rfl) (o2 w.drew rfl)
          have hcsz : (os.toArray ++ vs.toArray ++ Builtin.zeroCells zv.cells (cp' - (len + n))).size = cp' * (k + 1) := by
            simp only [Array.size_append, List.size_toArray, Builtin.zeroCells, Array.size_map, Array.size_range, hzs, hvl, o1]
            rw [← Nat.add_mul, ← Nat.add_mul]; congr 1; omega
          have hget : ∀ j, j < os.length + vs.length → (os.toArray ++ vs.toArray ++ Builtin.zeroCells zv.cells (cp' - (len + n)))[0 + j]? = (os ++ vs)[j]? := by
            intro j hj
            rw [Nat.zero_add, Array.getElem?_append_left (by simpa using hj), List.append_toArray, List.getElem?_toArray]
          have ct : Cont μ (fun j => (os.toArray ++ vs.toArray ++ Builtin.zeroCells zv.cells (cp' - (len + n)))[0 + j]?) (k + 1) (Val.l q') (sfx ++ new) := by
            refine (o3.congr k1 k2 (Nat.le_of_eq hlenE.symm) (fun j hj => ?_)).more hnr hvs (fun j v hj => ?_)
            · show (os.toArray ++ vs.toArray ++ Builtin.zeroCells zv.cells (cp' - (len + n)))[0 + j]? = os[j]?
              rw [hget j (by omega), List.getElem?_append_left (by omega)]
            · have hjl := (List.getElem?_eq_some_iff.1 hj).1
              show (os.toArray ++ vs.toArray ++ Builtin.zeroCells zv.cells (cp' - (len + n)))[0 + (((Val.l q').length + sfx.length) * (k + 1) + j)]? = some v
              rw [← hlenE, ← o1, hget _ (by omega), List.getElem?_append_right (by omega), ← hj]
              congr 1; omega
          obtain ⟨r1, r2⟩ := HR.lstNew (hH.world (w' := w.drew) rfl) hB ho (w' := w.drew.alloc (.cells (os.toArray ++ vs.toArray ++ Builtin.zeroCells zv.cells (cp' - (len + n))) el)) rfl hgl hnr ct
          obtain ⟨x0, hm0⟩ : ∃ x, μ f g = some x := by
            rcases o4 with o4 | ⟨b, s, nn, cs, ce, hm, _⟩
            · omega
            · exact ⟨_, hm⟩
          refine turns_val (runval hrun) ?_ r2 r1 extNew (Kp.setIns rfl hm0)
          exact vrNew (Mu.ins_same _ _ _ _) hcp (by rw [hcsz]; omega)
    · exact e_appendT hE hH hB hq hx ht hu hxt hn hsz hz hz1 hby (n := new.length) (by rw [hnl]; exact hlen) rfl hnr hvs (by rw [hnl]; exact hfc) hev
  | none =>
    rw [hry] at hev
    rw [opt_none] at hev
    rcases asNsl_some hev with ⟨f, g, sz', kk, c, q', d', m, e, hev⟩ | ⟨_, hev⟩
    · replace hev := cnd_inv hev
      obtain ⟨hem, hev⟩ := hev
      replace hev := cnd_inv hev
      obtain ⟨hzz, hev⟩ := hev
      obtain rfl := Nat.eq_of_beq_eq_true hzz
      replace hev := cnd_inv hev
      obtain ⟨h0, hev⟩ := hev
      obtain ⟨rfl, rfl, h0⟩ := at0_sound h0
      replace hev := cnd_inv hev
      obtain ⟨h1, hev⟩ := hev
      rw [ieq_eq] at h1
      obtain rfl := of_decide_eq_true h1
      replace hev := asLst_some hev
      obtain ⟨ro, gen, zz, q'', sfx, ho, hev⟩ := hev
      replace hev := cnd_inv hev
      obtain ⟨hzz, hev⟩ := hev
      obtain rfl := Nat.eq_of_beq_eq_true hzz
      replace hev := cnd_inv hev
      obtain ⟨hqq, hev⟩ := hev
      obtain rfl := Key.beq_eq hqq
      obtain ⟨p, hp, hev⟩ := opt_inv hev
      obtain ⟨hbd, hev⟩ := cnd_inv hev
      obtain ⟨hbd2, hev⟩ := cnd_inv hev
      obtain ⟨hfree, hev⟩ := fresh_inv hev
      cases hev
      have hp := relOf_sound hH.fk hp
      rw [nz_kZ] at hp
      rw [ile_eq] at hbd hbd2
      have hbd := of_decide_eq_true hbd
      have hbd2 := of_decide_eq_true hbd2
      obtain ⟨⟨⟨k0, k1⟩, k2⟩, _, k5⟩ := hH.lst ho
      obtain ⟨base, len, cp, ey, e1, e2, e3, e4⟩ := q_nsl hq e
      obtain ⟨bx, ex⟩ := isEmptyS_sound (hq x) hem
      have hlenE : len = (Val.l q').length := by omega
      rcases e4 with e4 | ⟨b, s, nn, r, hm, hr, hb, hl⟩
      · omega
      · have hr0 : r = 0 := by omega
        subst hr0
        obtain ⟨_, cs, ce, fz, hheap, hfz, hcs, hl1, hl2⟩ := k5 g b s nn hm
        have hsz' : s + len * (k + 1) ≤ cs.size := by
          have := Nat.mul_le_mul_right (k + 1) e1
          rw [hcs]
          rw [Nat.zero_add] at hl
          omega
        have hget : ∀ j, j < len * (k + 1) → ((cs.toList.drop s).take (len * (k + 1)))[j]? = cs[s + j]? := by
          intro j hj
          rw [List.getElem?_take, if_pos hj, List.getElem?_drop, Array.getElem?_toList]
        have hll : ((cs.toList.drop s).take (len * (k + 1))).length = len * (k + 1) := by simp; omega
        have hfc : ∀ w', w'.heap = w.heap → (Builtin.firstCells i.size len (ρ y)).run P w' = .ok ((cs.toList.drop s).take (len * (k + 1))).toArray w' := by
          intro w' hw'
          rw [ey, hb]
          show (loadCells ⟨b, s + 0 * (k + 1), none⟩ (len * i.size)).run P w' = _
          rw [hisz]
          have := run_load_block (P := P) (w := w') (b := b) (x := s + 0 * (k + 1)) (vs := (cs.toList.drop s).take (len * (k + 1))) (by rw [hw']; exact hheap) (fun j v hj => by
            have hjl := (List.getElem?_eq_some_iff.1 hj).1
            rw [hll] at hjl
            rw [hget j hjl] at hj
            rw [← hj]; congr 1; omega)
          rw [hll] at this
          exact this
        obtain ⟨cp', hcp, hrun⟩ := run_append_new (P := P) (w := w) (ty := ty) (ats := ats) (args := xs.map ρ) (base := bx) (sLen := 0) (sCap := 0) (n := len) (y := ρ y) (os := #[]) (vs := ((cs.toList.drop s).take (len * (k + 1))).toArray) t0 t1 (by rw [a0, ex]) a1 up uxp hn hi hiz
          (by rw [ey]; simp [Builtin.lenOf]) (by omega) (by omega) hiby (hfc w.drew rfl) (by
            cases bx with
            | none => rfl
            | some ad => show (loadCells ad (0 * i.size)).run P w.drew = _; rw [Nat.zero_mul]; rfl)
        have hcsz : (#[] ++ ((cs.toList.drop s).take (len * (k + 1))).toArray ++ Builtin.zeroCells zv.cells (cp' - (0 + len)) : Array Value).size = cp' * (k + 1) := by
          simp only [Array.size_append, List.size_toArray, Builtin.zeroCells, Array.size_map, Array.size_range, hzs, hll, List.size_toArray, List.length_nil]
          simp only [Array.size_empty, Nat.zero_add] 
          rw [← Nat.add_mul]; congr 1; omega
        have hat : LstAt (#[] ++ ((cs.toList.drop s).take (len * (k + 1))).toArray ++ Builtin.zeroCells zv.cells (cp' - (0 + len)) : Array Value) 0 (k + 1) (Val.l q') := by
          intro r row hr j v hj
          have a1 := (List.getElem?_eq_some_iff.1 hr).1
          have a2 := (List.getElem?_eq_some_iff.1 hj).1
          rw [k1 row (List.mem_of_getElem? hr)] at a2
          have hlt : r * (k + 1) + j < len * (k + 1) := by rw [hlenE]; exact row_lt a1 a2
          rw [Array.empty_append, Array.getElem?_append_left (by rw [List.size_toArray, hll]; omega), List.getElem?_toArray, show 0 + r * (k + 1) + j = r * (k + 1) + j by omega, hget _ hlt]
          have := hl1 r row hr j v hj
          rwa [Nat.add_assoc] at this
        obtain ⟨r1, r2⟩ := HR.lstFresh (hH.world (w' := w.drew) rfl) hB hfree k0 k1 (w' := w.drew.alloc (.cells (#[] ++ ((cs.toList.drop s).take (len * (k + 1))).toArray ++ Builtin.zeroCells zv.cells (cp' - (0 + len))) el)) rfl hat
        refine turns_val (runval hrun) ?_ r2 r1 extNew (Kp.new hfree)
        simp only [VR]
        refine ⟨_, _, _, rfl, hcp, by omega, by omega, .inr ⟨_, 0, _, 0, Mu.ins_same _ _ _ _, by omega, by rw [Nat.zero_mul]; rfl, ?_⟩⟩
        rw [hcsz, Nat.zero_add, Nat.zero_add]; exact Nat.le_refl _
    · cases hev
theorem cntN_sound (hF : FkOk) {m n : Nat} {k : Key} {c : Int} {q' : Key} {d' : Int} {len : Nat} (hl : nz q' + d' = nz k + c + len) (h : cntN m k c q' d' = some n) : n = Nat.min len m := by
  unfold cntN at h
  cases h1 : leX k (iadd c (.ofNat m)) q' d' with
  | true =>
    rw [h1] at h
    cases h
    have := leX_sound hF h1
    rw [iadd_eq] at this
    simp only [Int.ofNat_eq_natCast] at this
    exact (Nat.min_eq_right (by omega)).symm
  | false =>
    rw [h1] at h
    obtain ⟨x, hd, h⟩ := opt_inv (show opt (disX k c q' d') none _ = some n from h)
    rw [icase_eq] at h
    have := disX_sound hF hd
    cases x with
    | negSucc x => cases h
    | ofNat x =>
      obtain ⟨h2, h⟩ := cnd_inv h
      cases h
      have := Nat.le_of_ble_eq_true h2
      simp only [Int.ofNat_eq_natCast] at *
      have e1 : len = n := by omega
      rw [e1]
      exact (Nat.min_eq_left (by omega)).symm
include hE hH hq in
theorem e_copyX {xs : Array Operand} {ats : Array TypeId} {st el : TypeId} {ts : List TypeId} {x y : Operand} {l : List Operand} {k : Nat} (hx : xs.toList = x :: y :: l) (ht : ats.toList = st :: ts)
    (hu : E.und st = some (.slice el)) (hsz : E.size el = some (k + 1)) (hev : xCopyX (k + 1) (q x) (q y) h nx L = some (Tn.mk a h' nx')) :
    Turns P ρ B μ h w ⟨d, .call { callee := .builtin .copy, args := xs, argTypes := ats }, ty, pos, af, gd⟩ a h' := by
  rcases asNsl_some hev with ⟨f, g, sz', kk, c, q', d', m0, e, hev⟩ | ⟨_, hev⟩
  · replace hev := cnd_inv hev
    obtain ⟨hzz, hev⟩ := hev
    obtain rfl := Nat.eq_of_beq_eq_true hzz
    obtain ⟨m, hm1, hev⟩ := opt_inv (show opt (lenS (getO (q x) L)) none _ = some _ from hev)
    obtain ⟨n, hc, hev⟩ := opt_inv hev
    obtain ⟨rows, hr, hev⟩ := opt_inv hev
    obtain ⟨base, len, cp, ey, e1, e2, e3, e4⟩ := q_nsl hq e
    have hy := hq y
    rw [e] at hy
    have hn := cntN_sound hH.fk e2 hc
    subst hn
    obtain ⟨r1, r2, vs, r3, r4⟩ := nsl_first (P := P) hH hy (by have := Nat.min_le_left len m; rw [e2]; have : Nat.min len m ≤ len := this; omega) hr
    exact e_copyT hE hH hq hx ht hu hsz hm1 (n := len) (fun w' => by rw [ey]; simp [Builtin.lenOf]) r1 r2 r3 r4 hev
  · exact e_copy hE hH hq hx ht hu hsz hev
end
end Go.Ev

namespace Go.Ev
set_option linter.unusedVariables false
set_option linter.unusedSectionVars false
set_option linter.unusedSimpArgs false
variable [Val] [Fk]
theorem clone_next : Extern.allNextRows.lookup "maps.clone" = none := by kernel_rfl
theorem clone_next0 : Extern.allNextRows.lookup "" = none := by kernel_rfl
theorem clone_typed : Extern.allTypedRows.lookup "maps.clone" = none := by kernel_rfl
theorem clone_gen : Extern.allGenericRows.lookup "maps.clone" = none := by kernel_rfl
theorem clone_is : Extern.allRows.lookup "maps.clone" = some Extern.MapsClone.clone := by kernel_rfl
section
variable {E : Env} {P : Program} (hE : EnvOk E P) {B : Nat} {μ : Mu} {h : Hp} {w : World} (hH : HR B μ h w) {nx : Key} (hB : B ≤ w.heap.size)
  {L : Lo} {ρ : Operand → Value} {q : Operand → Opd} (hq : ∀ x, VR μ (getO (q x) L) (ρ x)) (hF : ∀ f, ρ (.func f) = .func (.func f) #[] #[])
variable {d : Option Tmp} {ty : TypeId} {pos : String} {af : Array Edge} {gd : Option (Nat × Bool)} {a : AV} {h' : Hp} {nx' : Key}
include hE hF in
theorem run_extern_clone {f : Operand} {xs : Array Operand} {ats : Array TypeId} (hc : isClone E f = true) :
    ∀ w, (execOp ρ ⟨d, .call { callee := .value f, args := xs, argTypes := ats }, ty, pos, af, gd⟩).run P w = (do pure (Next.value (← Extern.MapsClone.clone (xs.map ρ))) : Sem Next).run P w := by
  intro w
  unfold isClone at hc
  split at hc
  · rename_i g
    split at hc
    · rename_i fn hfn
      simp only [Bool.and_eq_true, Option.isNone_iff_eq_none, decide_eq_true_eq, Bool.or_eq_true] at hc
      obtain ⟨⟨hb, hn⟩, ho⟩ := hc
      have hf := hE.fs _ _ hfn
      have h1 : Extern.findNext fn = none := by
        unfold Extern.findNext
        simp only [hn, clone_next, Option.map_none]
        rcases ho with ho | ho <;> simp [ho, clone_next, clone_next0]
      have h2 : Extern.find fn = some Extern.MapsClone.clone := by
        unfold Extern.find
        simp only [hn, clone_typed, clone_gen, clone_is, Option.map_none]
        rfl
      show (do let d ← resolve ρ { callee := .value (.func g), args := xs, argTypes := ats } ty; invoke d.target d.args).run P w = _
      have hr : resolve ρ { callee := .value (.func g), args := xs, argTypes := ats } ty = pure { target := .fn (.func g) #[], args := xs.map ρ } := by
        simp only [resolve, hF, Deferred.ofValue]
        simp
      rw [hr]
      simp only [Sem.run_bind, Sem.run_pure, Result.andThen_ok, invoke, callFunc, run_program, hf]
      have hnm : (fn.name == "runtime.NumGoroutine") = false := by rw [hn]; decide
      simp only [hnm, Bool.false_eq_true, if_false, hb, Option.isNone_none, if_true, Sem.run_bind, run_mark, Result.andThen_ok, h1, h2, Array.append_empty, Sem.run_pure]
    · cases hc
  · cases hc
include hE hH hB hq hF in
theorem e_clone {f : Operand} {xs : Array Operand} {ats : Array TypeId} {x : Operand} (hx : xs.toList = [x]) (hc : isClone E f = true) (hev : xClone (q x) h nx L = some (Tn.mk a h' nx')) :
    Turns P ρ B μ h w ⟨d, .call { callee := .value f, args := xs, argTypes := ats }, ty, pos, af, gd⟩ a h' := by
  obtain ⟨t, v, e1, hev⟩ := asIface_some hev
  obtain ⟨m, e2, hev⟩ := asMap_some hev
  obtain ⟨es, clock, ho, hev⟩ := asMapO_some hev
  obtain ⟨hfree, hev⟩ := fresh_inv hev
  cases hev
  obtain ⟨y, hxx, hv⟩ := q_iface hq e1
  rw [e2] at hv
  simp only [VR] at hv
  obtain ⟨b, s, n, hm, rfl⟩ := hv
  obtain ⟨hBb, xs', hxs, hR⟩ := hH.mapOb ho hm
  have hargs : xs.map ρ = #[.iface t (.map (some b))] := by
    have : xs = #[x] := by apply Array.toList_inj.1; rw [hx]
    subst this; simp [hxx]
  have hrun : (execOp ρ ⟨d, .call { callee := .value f, args := xs, argTypes := ats }, ty, pos, af, gd⟩).run P w = .ok (.value (.iface t (.map (some w.heap.size)))) (w.alloc (.map xs' clock)) := by
    rw [run_extern_clone hE hF hc, hargs]
    refine run_val ?_
    have e3 : Extern.MapsClone.clone #[.iface t (.map (some b))] = (do
        let .map entries clock ← getObj b | stuck "maps.clone: a map expected"
        pure (.iface t (.map (some (← newObj (.map entries clock))))) : Sem Value) := rfl
    rw [e3]
    simp only [Sem.run_bind, MapKept.run_getObj_map hxs, Result.andThen_ok, run_newObj_alloc, Sem.run_pure]
  have hno := hH.noneAt hfree
  obtain ⟨r1, r2⟩ := hH.alloc (gen := 0) (n := 0) hfree (w' := w.alloc (.map xs' clock)) rfl (ob := .map es clock) ⟨fun g hg => by rw [Mu.ins_other _ (.inr (by omega))]; exact hno g, fun b1 s1 n1 hm1 => by
    rcases Mu.ins_inv hm1 with ⟨_, _, e3⟩ | k1
    · cases e3
      exact ⟨hB, xs', heap_new, hR.mono (Mu.ins_le (hno 0) _)⟩
    · rw [hno 0] at k1; cases k1⟩
  refine turns_val hrun ?_ r2 r1 ⟨rfl, rfl, rfl, by show w.heap.size ≤ (w.heap.push _).size; simp, fun kk hkk => by show (w.heap.push _)[kk]? = _; rw [Array.getElem?_push, if_neg (by omega)]⟩ (Kp.new hfree)
  simp only [VR]
  exact ⟨_, rfl, _, _, _, Mu.ins_same _ _ _ _, rfl⟩
include hH in
theorem HR.freeze {f : Key} {g gen sz dp ext b s n : Nat} {c : Tr Row} (ho : hget f h = .cells false gen sz dp ext c) (hm : μ f g = some (b, s, n)) (hg : strGen ≤ g) {cs : Array Value} {e : TypeId} {fz : Nat × Nat} (hheap : w.heap[b]? = some (.cells cs e fz))
    {w' : World} (hw : w'.heap = w.heap.setIfInBounds b (.cells cs e (cs.size, cs.size + 1))) : HR B μ h w' := by
  have hbl := hH.lt _ _ _ _ _ hm
  have hBb : B ≤ b := ((hH.cells ho).2.2 g b s n hm).1 rfl
  refine ⟨hH.inj, fun f1 g1 b1 s1 m1 h1 => by rw [hw, Array.size_setIfInBounds]; exact hH.lt _ _ _ _ _ h1, fun f1 => ?_, hH.side, hH.fk, hH.start⟩
  by_cases hff : f = f1
  · subst hff
    obtain ⟨hwf, hgen, hblk⟩ := hH.cells ho
    rw [ho]
    refine ⟨hwf, hgen, fun g1 b1 s1 n1 hm1 => ?_⟩
    obtain ⟨a1, a2, cs1, e1, fz1, a3, a4, a5, a6⟩ := hblk g1 b1 s1 n1 hm1
    by_cases hb : b1 = b
    · subst hb
      rw [hheap] at a3
      simp only [Option.some.injEq, Obj.cells.injEq] at a3
      obtain ⟨rfl, rfl, rfl⟩ := a3
      refine ⟨a1, a2, cs, e, _, by rw [hw, Array.getElem?_setIfInBounds_self]; simp [hbl], .inr ⟨hH.side _ _ _ _ _ _ _ _ hm hm1 hg, rfl⟩, a5, a6⟩
    · exact ⟨a1, a2, cs1, e1, fz1, by rw [hw, Array.getElem?_setIfInBounds_ne (Ne.symm hb)]; exact a3, a4, a5, a6⟩
  · refine OR.mono (Mu.le_refl μ) (fun _ => rfl) (fun g1 b1 s1 m1 hm1 => ?_) (hH.obj f1)
    have hne : b ≠ b1 := fun hb => by subst hb; exact hff (hH.inj _ _ _ _ _ _ _ _ _ hm hm1 (.inr hBb)).1
    rw [hw, Array.getElem?_setIfInBounds_ne hne]
include hE hH hq in
theorem e_mark {s t : TypeId} {x : Operand} (hc : convM E s t = true) (hev : xMark (q x) h nx L = some (Tn.mk a h' nx')) :
    Turns P ρ B μ h w ⟨d, .convert s t x, ty, pos, af, gd⟩ a h' := by
  unfold convM at hc
  rw [Bool.and_eq_true] at hc
  obtain ⟨hst, hc⟩ := hc
  have hst := Nat.eq_of_beq_eq_true hst
  subst hst
  split at hc
  · rename_i el hu
    have he : E.und el = some (.int .u8) := by
      unfold isU8 at hc
      split at hc
      · assumption
      · cases hc
    obtain ⟨f, g, o, len, cap, sz, ex, hs, hev⟩ := asSlice_some hev
    obtain ⟨ro, gen, sz', dp, ext, c, ho, hev⟩ := asCells_some hev
    obtain ⟨hro, hev⟩ := cnd_inv' hev
    subst hro
    obtain ⟨hg, hev⟩ := cnd_inv hev
    obtain ⟨hgg, hev⟩ := cnd_inv hev
    cases hev
    have hg : strGen ≤ g := Nat.le_of_ble_eq_true hg
    have hx := hq x
    rw [hs] at hx
    have hx0 := hx
    simp only [VR] at hx
    obtain ⟨b, s0, n, xo, cp, hm, hxv, _⟩ := hx
    obtain ⟨hwf, hgen, hblk⟩ := hH.cells ho
    obtain ⟨hBb, _, cs, e, fz, hheap, hfz, hcsz, _⟩ := hblk g b s0 n hm
    have hbl := hH.lt _ _ _ _ _ hm
    have hw : (w.freeze ⟨b, cs.size, none⟩ 1).heap = w.heap.setIfInBounds b (.cells cs e (cs.size, cs.size + 1)) := by
      simp only [World.freeze, Nat.one_ne_zero, if_false]
      apply Array.ext_getElem?
      intro i
      rw [Array.getElem?_modify, Array.getElem?_setIfInBounds]
      by_cases hi : b = i
      · subst hi
        simp only [if_true, hheap, Option.map_some, hbl]
        obtain ⟨lo, hi⟩ := fz
        rcases hfz with h0 | ⟨_, h0⟩
        · cases h0; rfl
        · cases h0; simp
      · simp only [hi, if_false]
    have hrun : (execOp ρ ⟨d, .convert s s x, ty, pos, af, gd⟩).run P w = .ok (.value (ρ x)) (w.freeze ⟨b, cs.size, none⟩ 1) := by
      refine run_val (s := convert s s (ρ x)) ?_
      rw [hxv]
      simp only [convert, Sem.run_bind, hE.runUnd hu, hE.runUnd he, Result.andThen_ok, beq_self_eq_true, markStringish, run_shape]
      have hshape : w.shape? b = some (e, cs.size) := by unfold World.shape?; rw [hheap]
      simp only [hshape, Sem.run_bind, run_freeze, Result.andThen_ok, Sem.run_pure]
    exact turns_val hrun hx0 (Mu.le_refl _) (hH.freeze ho hm hg hheap hw) ⟨rfl, rfl, rfl, by rw [hw]; simp, fun k hk => by
      rw [hw, Array.getElem?_setIfInBounds_ne (by have := hBb rfl; omega)]⟩ (Kp.refl _ _)
  · cases hc
include hE hH hB hq hF in
theorem eff_sound {op : Op} (hev : (effI q E op).ev E h nx L = some (Tn.mk a h' nx')) : Turns P ρ B μ h w ⟨d, op, ty, pos, af, gd⟩ a h' := by
  unfold effI at hev
  split at hev
  · rename_i x
    obtain ⟨v, hv, hev⟩ := opt_inv (show opt (getO (q x) L).some none (fun v => some (Tn.mk v h nx)) = some (Tn.mk a h' nx') from hev)
    rw [AV.some_eq] at hv
    cases hv; cases hev
    exact turns_val (v := ρ x) rfl (hq x) (Mu.le_refl _) hH (Ext.refl _ _) (Kp.refl _ _)
  · rename_i s t x
    cases hc : convM E s t with
    | false => rw [hc] at hev; cases hev
    | true => rw [hc] at hev; exact e_mark hE hH hq hc hev
  · split at hev
    · rename_i n hn; exact e_store hE hH hq hn hev
    · cases hev
  · exact e_mapUp hE hH hq (ins := false) hev
  · exact e_mapUp hE hH hq (ins := true) hev
  · split at hev
    · rename_i kt el hu
      split at hev
      · rename_i z hz; exact e_mapEn hE hH hq hu hz hev
      · cases hev
    · cases hev
  · exact e_enStore hE hH hq hev
  · rename_i c
    obtain ⟨callee, args, ats⟩ := c
    simp only at hev
    split at hev
    · rename_i st xt ts x y l h2 h3
      split at hev
      · cases hev
      · rename_i el dx hn hu hxt
        split at hev
        · rename_i n z hsz hz
          cases hb : Nat.beq z.cells.length (n + 1) && Nat.ble (bytesO E el) 1000000 with
          | false => rw [hb] at hev; cases hev
          | true =>
            rw [hb] at hev
            simp only [Bool.and_eq_true] at hb
            exact e_appendX hE hH hB hq h3 h2 hu hxt (fun kk hk => by subst hk; exact hn _ rfl) hsz hz hb.1 hb.2 hev
        · cases hev
      · cases hev
    · rename_i st ts x y l h2 h3
      split at hev
      · rename_i el hu
        split at hev
        · rename_i n hn; exact e_copyX hE hH hq h3 h2 hu hn hev
        · cases hev
      · cases hev
    · rename_i t ts m k l h2 h3
      exact e_delete hE hH hq h3 h2 hev
    · rename_i t ts x l h2 h3
      split at hev
      · rename_i kt el hu; exact e_clearM hE hH hq h3 h2 hu hev
      · rename_i el hu
        split at hev
        · rename_i z hz; exact e_clearS hE hH hq h3 h2 hu hz hev
        · cases hev
      · cases hev
    · rename_i f x h3
      cases hc : isClone E f with
      | false => rw [hc] at hev; cases hev
      | true => rw [hc] at hev; exact e_clone hE hH hB hq hF h3 hc hev
    · cases hev
  · cases hev
end
end Go.Ev

namespace Go.Ev
set_option linter.unusedVariables false
set_option linter.unusedSectionVars false
set_option linter.unusedSimpArgs false
variable [Val] [Fk]
/-! ## steps of the machine, of frames of any kind -/
def Frame.to (fr : Frame) (k : List Item) : Frame := { fr with todo := k }
abbrev gor (fr : Frame) (cs : List Frame) : Goroutine := { frame := fr, callers := cs, status := .running, dying := none }
section
variable {P : Program} {fr : Frame} {cs : List Frame} {w : World} {k : List Item}
theorem s_skip (hm : fr.mode = .run) (ht : fr.todo = .code .skip :: k) : Go.step P (lone fr cs w) = Stepped.next (lone (Frame.to fr k) cs w) := by
  obtain ⟨fn, tmps, todo, ds, md, kd, rnd⟩ := fr; simp only at hm ht; subst hm ht
  exact step_lone_go (by simp [stepG, stepG.exec, Frame.to])
theorem s_label {l : Nat} (hm : fr.mode = .run) (ht : fr.todo = .code (.label l) :: k) : Go.step P (lone fr cs w) = Stepped.next (lone (Frame.to fr k) cs w) := by
  obtain ⟨fn, tmps, todo, ds, md, kd, rnd⟩ := fr; simp only at hm ht; subst hm ht
  exact step_lone_go (by simp [stepG, stepG.exec, Frame.to])
theorem s_inBlock {id : Nat} (hm : fr.mode = .run) (ht : fr.todo = .inBlock id :: k) : Go.step P (lone fr cs w) = Stepped.next (lone (Frame.to fr k) cs w) := by
  obtain ⟨fn, tmps, todo, ds, md, kd, rnd⟩ := fr; simp only at hm ht; subst hm ht
  exact step_lone_go (by simp [stepG, stepG.exec, Frame.to])
theorem s_inScope {c : Code} (hm : fr.mode = .run) (ht : fr.todo = .inScope c :: k) : Go.step P (lone fr cs w) = Stepped.next (lone (Frame.to fr k) cs w) := by
  obtain ⟨fn, tmps, todo, ds, md, kd, rnd⟩ := fr; simp only at hm ht; subst hm ht
  exact step_lone_go (by simp [stepG, stepG.exec, Frame.to])
theorem s_seq {x y : Code} (hm : fr.mode = .run) (ht : fr.todo = .code (.seq x y) :: k) : Go.step P (lone fr cs w) = Stepped.next (lone (Frame.to fr (.code x :: .code y :: k)) cs w) := by
  obtain ⟨fn, tmps, todo, ds, md, kd, rnd⟩ := fr; simp only at hm ht; subst hm ht
  exact step_lone_go (by simp [stepG, stepG.exec, Frame.to])
theorem s_cond {c : Operand} {x y : Code} {t : Bool} (hm : fr.mode = .run) (ht : fr.todo = .code (.cond c x y) :: k) (hc : fr.eval c = .bool t) :
    Go.step P (lone fr cs w) = Stepped.next (lone (Frame.to fr (.code (if t then x else y) :: k)) cs w) := by
  obtain ⟨fn, tmps, todo, ds, md, kd, rnd⟩ := fr; simp only at hm ht; subst hm ht
  exact step_lone_go (by simp [stepG, stepG.exec, Frame.to, hc])
theorem s_block {id : Nat} {c : Code} (hm : fr.mode = .run) (ht : fr.todo = .code (.block id c) :: k) : Go.step P (lone fr cs w) = Stepped.next (lone (Frame.to fr (.code c :: .inBlock id :: k)) cs w) := by
  obtain ⟨fn, tmps, todo, ds, md, kd, rnd⟩ := fr; simp only at hm ht; subst hm ht
  exact step_lone_go (by simp [stepG, stepG.exec, Frame.to])
theorem s_loop {c : Code} (hm : fr.mode = .run) (ht : fr.todo = .code (.loop c) :: k) : Go.step P (lone fr cs w) = Stepped.next (lone (Frame.to fr (.code c :: .inLoop c :: k)) cs w) := by
  obtain ⟨fn, tmps, todo, ds, md, kd, rnd⟩ := fr; simp only at hm ht; subst hm ht
  exact step_lone_go (by simp [stepG, stepG.exec, Frame.to])
theorem s_inLoop {c : Code} (hm : fr.mode = .run) (ht : fr.todo = .inLoop c :: k) : Go.step P (lone fr cs w) = Stepped.next (lone (Frame.to fr (.code c :: .inLoop c :: k)) cs w) := by
  obtain ⟨fn, tmps, todo, ds, md, kd, rnd⟩ := fr; simp only at hm ht; subst hm ht
  exact step_lone_go (by simp [stepG, stepG.exec, Frame.to])
theorem s_scope {c : Code} (hm : fr.mode = .run) (ht : fr.todo = .code (.scope c) :: k) : Go.step P (lone fr cs w) = Stepped.next (lone (Frame.to fr (.code c :: .inScope c :: k)) cs w) := by
  obtain ⟨fn, tmps, todo, ds, md, kd, rnd⟩ := fr; simp only at hm ht; subst hm ht
  exact step_lone_go (by simp [stepG, stepG.exec, Frame.to])
theorem s_exit {id : Nat} {k' : List Item} (hm : fr.mode = .run) (ht : fr.todo = .code (.exit id) :: k) (he : exitTo id k = some k') : Go.step P (lone fr cs w) = Stepped.next (lone (Frame.to fr k') cs w) := by
  obtain ⟨fn, tmps, todo, ds, md, kd, rnd⟩ := fr; simp only at hm ht; subst hm ht
  exact step_lone_go (by simp [stepG, stepG.exec, Frame.to, he])
theorem s_goto {l : Nat} {k' : List Item} (hm : fr.mode = .run) (ht : fr.todo = .code (.goto l) :: k) (he : gotoIn l k = some k') : Go.step P (lone fr cs w) = Stepped.next (lone (Frame.to fr k') cs w) := by
  obtain ⟨fn, tmps, todo, ds, md, kd, rnd⟩ := fr; simp only at hm ht; subst hm ht
  exact step_lone_go (by simp [stepG, stepG.exec, Frame.to, he])
theorem s_ret (hm : fr.mode = .run) (hr : fr.roundOf = none) (ht : fr.todo = [] ∨ fr.todo = .code .ret :: k) : Go.step P (lone fr cs w) = Stepped.next (lone { fr with mode := .returning } cs w) := by
  obtain ⟨fn, tmps, todo, ds, md, kd, rnd⟩ := fr; simp only at hm hr ht; subst hm hr
  rcases ht with ht | ht <;> subst ht <;> exact step_lone_go (by simp [stepG, stepG.exec])
theorem s_region {id : Nat} {ops : Array Oper} (hm : fr.mode = .run) (ht : fr.todo = .code (.region id ops false) :: k) :
    Go.step P (lone fr cs w) = Stepped.next (lone (Frame.to fr (.inRegion ops (List.range ops.size) :: k)) cs w) := by
  obtain ⟨fn, tmps, todo, ds, md, kd, rnd⟩ := fr; simp only at hm ht; subst hm ht
  exact step_lone_go (by simp [stepG, stepG.exec, Frame.to])
theorem s_regionDraw {id : Nat} {ops : Array Oper} (hm : fr.mode = .run) (ht : fr.todo = .code (.region id ops true) :: k) :
    ∃ t, Go.step P (lone fr cs w) = Stepped.next (lone (Frame.to fr (.inRegion ops (Region.schedule (P.follows .mixedOrders) ops t) :: k)) cs { w with drawn := w.drawn + 1 }) := by
  obtain ⟨fn, tmps, todo, ds, md, kd, rnd⟩ := fr; simp only at hm ht; subst hm ht
  exact ⟨w.tape w.drawn (.order fn id), step_lone_go (by simp [stepG, stepG.exec, choose, Sem.run, Question.forced, Question.cut, Frame.to])⟩
theorem s_regionEnd {ops : Array Oper} (hm : fr.mode = .run) (ht : fr.todo = .inRegion ops [] :: k) : Go.step P (lone fr cs w) = Stepped.next (lone (Frame.to fr k) cs w) := by
  obtain ⟨fn, tmps, todo, ds, md, kd, rnd⟩ := fr; simp only at hm ht; subst hm ht
  exact step_lone_go (by simp [stepG, stepG.exec, Frame.to])
variable {ops : Array Oper} {i : Nat} {is : List Nat} {o : Oper}
theorem s_opSkip (hm : fr.mode = .run) (ht : fr.todo = .inRegion ops (i :: is) :: k) (ho : ops[i]? = some o) (hw : Region.wanted o (yielded ops fr.tmps) = false) :
    Go.step P (lone fr cs w) = Stepped.next (lone (fr.finish undef) cs w) := by
  obtain ⟨fn, tmps, todo, ds, md, kd, rnd⟩ := fr; simp only at hm ht hw; subst hm ht
  exact step_lone_go (by simp [stepG, stepG.exec, ho, hw])
theorem stepG_oper (hm : fr.mode = .run) (ht : fr.todo = .inRegion ops (i :: is) :: k) (ho : ops[i]? = some o) (hw : Region.wanted o (yielded ops fr.tmps) = true)
    (hd : fr.roundOf = none ∨ ∀ c, o.op ≠ .defer c) : stepG P true (gor fr cs) w = stepG.apply P true fr cs none (execOp fr.eval o) w := by
  obtain ⟨fn, tmps, todo, ds, md, kd, rnd⟩ := fr; simp only at hm ht hw hd; subst hm ht
  simp only [gor, stepG, stepG.exec, ho, Option.map_some, hw, Option.getD_some, if_true, stepG.oper, Frame.oper?]
  rcases hd with rfl | hd
  · rfl
  · cases rnd with
    | none => rfl
    | some l =>
      obtain ⟨dst, op, ty, pos, af, gd⟩ := o
      simp only at hd
      cases op <;> first | rfl | exact absurd rfl (hd _)
theorem stepG_operRound {l : Nat} {c : Call} (hm : fr.mode = .run) (ht : fr.todo = .inRegion ops (i :: is) :: k) (ho : ops[i]? = some o) (hw : Region.wanted o (yielded ops fr.tmps) = true)
    (hr : fr.roundOf = some l) (hop : o.op = .defer c) : stepG P true (gor fr cs) w = stepG.apply P true fr cs none (do Instr.deferInRound l (← resolve fr.eval c o.type); pure .skip) w := by
  obtain ⟨fn, tmps, todo, ds, md, kd, rnd⟩ := fr; simp only at hm ht hw hr; subst hm ht hr
  obtain ⟨dst, op, ty, pos, af, gd⟩ := o
  simp only at hop; subst hop
  simp only [gor, stepG, stepG.exec, ho, Option.map_some, hw, Option.getD_some, if_true, stepG.oper, Frame.oper?]
theorem apply_value {s : Sem Next} {v : Value} {w' : World} (hr : s.run P w = .ok (.value v) w') : (stepG.apply P true fr cs none s w).bare = .go (gor (fr.finish v) cs) w' := by
  simp [stepG.apply, Sem.runT_eq, hr]
theorem apply_skip {s : Sem Next} {w' : World} (hr : s.run P w = .ok .skip w') : (stepG.apply P true fr cs none s w).bare = .go (gor (fr.finish undef) cs) w' := by
  simp [stepG.apply, Sem.runT_eq, hr]
theorem apply_defer {s : Sem Next} {d : Deferred} {w' : World} (hr : s.run P w = .ok (.defer d) w') : (stepG.apply P true fr cs none s w).bare = .go (gor ({ fr with defers := d :: fr.defers }.finish undef) cs) w' := by
  simp [stepG.apply, Sem.runT_eq, hr]
theorem apply_panic {s : Sem Next} {v : Value} {w' : World} (hr : s.run P w = .halt (.panic v) w') : (stepG.apply P true fr cs none s w).bare = .go (gor (fr.raise [{ v, recovered := false }]) cs) w' := by
  simp [stepG.apply, Sem.runT_eq, hr]
def plainTop (k : List Item) : Prop := ∀ d b r s k', k ≠ .call d b r s :: k'
theorem apply_enter {s : Sem Next} {f : FuncId} {args : Array Value} {w' : World} (hp : plainTop fr.todo) (hr : s.run P w = .ok (.enter f args) w') :
    (stepG.apply P true fr cs none s w).bare = .go (gor (Frame.enter P f args .normal) (fr :: cs)) w' := by
  obtain ⟨fn, tmps, todo, ds, md, kd, rnd⟩ := fr
  cases todo with
  | nil => simp [stepG.apply, Sem.runT_eq, hr]
  | cons x k => cases x <;> first | exact absurd rfl (hp _ _ _ _ _) | simp [stepG.apply, Sem.runT_eq, hr]
theorem apply_round {s : Sem Next} {l : Nat} {f : FuncId} {tmps : Array Value} {a b : Code} {w' : World} (hr : s.run P w = .ok (.round l f tmps a b) w') :
    (stepG.apply P true fr cs none s w).bare = .go (gor (Frame.round l f tmps a b .normal) (fr :: cs)) w' := by
  simp [stepG.apply, Sem.runT_eq, hr]
theorem apply_recover {s : Sem Next} {w' : World} (hn : fr.roundOf = none) (hr : s.run P w = .ok .recover w') :
    (stepG.apply P true fr cs none s w).bare = (match tryRecover fr cs with | some (v, cs') => .go (gor (fr.finish v) cs') w' | none => .go (gor (fr.finish .nilIface) cs) w') := by
  simp only [stepG.apply, Sem.runT_eq, hr, hn, GStep.bare_after, if_true]
  cases tryRecover fr cs with
  | none => rfl
  | some p => rfl
theorem next_of {g : Frame} {cs' : List Frame} {w' : World} (h : (stepG P true (gor fr cs) w).bare = .go (gor g cs') w') : Go.step P (lone fr cs w) = Stepped.next (lone g cs' w') := step_lone_go h
/-! rounds of a range over a function -/
theorem s_rangeFunc {f : Operand} {ps : Array Tmp} {a b : Code} {l : Nat} {mark : List Deferred} {w' : World} (hm : fr.mode = .run) (ht : fr.todo = .code (.rangeFunc f ps a b) :: k)
    (hr : (Instr.enterLoop fr.fn fr.tmps ps a b fr.roundOf).run P w = .ok (l, mark) w') :
    (stepG P true (gor fr cs) w).bare = (stepG.apply P true { fr with todo := .inRangeFunc l :: k, defers := mark ++ fr.defers } cs none
      (do let d ← resolve ({ fr with todo := .inRangeFunc l :: k, defers := mark ++ fr.defers } : Frame).eval { callee := .value f, args := #[.const (.func (.yield l) #[] #[])], argTypes := #[] } 0; invoke d.target d.args) w').bare := by
  obtain ⟨fn, tmps, todo, ds, md, kd, rnd⟩ := fr; simp only at hm ht hr; subst hm ht
  simp only [gor, stepG, stepG.exec, Sem.runT_eq, hr, GStep.bare_after]
theorem s_endRange {l : Nat} {jump : Option Code} {w' : World} (hm : fr.mode = .run) (ht : fr.todo = .endRangeFunc l :: k) (hr : (Instr.endLoop l).run P w = .ok jump w') :
    Go.step P (lone fr cs w) = Stepped.next (lone (Frame.to fr ((jump.map Item.code).toList ++ k)) cs w') := by
  obtain ⟨fn, tmps, todo, ds, md, kd, rnd⟩ := fr; simp only at hm ht; subst hm ht
  exact step_lone_go (by simp only [stepG, stepG.exec, Sem.runT_eq, hr, GStep.bare_after]; rfl)
theorem s_beginRound {l : Nat} {w' : World} (hm : fr.mode = .run) (hrd : fr.roundOf = some l) (ht : fr.todo = .beginRound :: k) (hr : (Instr.beginRound l).run P w = .ok () w') :
    Go.step P (lone fr cs w) = Stepped.next (lone (Frame.to fr k) cs w') := by
  obtain ⟨fn, tmps, todo, ds, md, kd, rnd⟩ := fr; simp only at hm ht hrd; subst hm ht hrd
  refine step_lone_go ?_
  have h1 : (do (some l).elim (stuck "beginRound: no round") Instr.beginRound; pure Next.skip : Sem Next).run P w = .ok .skip w' := by
    simp only [Option.elim_some, Sem.run_bind, hr, Result.andThen_ok, Sem.run_pure]
  have := apply_skip (P := P) (fr := { fn, tmps, todo := .beginRound :: k, defers := ds, mode := .run, kind := kd, roundOf := some l }) (cs := cs) h1
  simp only [stepG, stepG.exec]
  exact this
theorem s_leaveRound {l : Nat} {jump : Option Code} {v : Value} {w' : World} (hm : fr.mode = .run) (hrd : fr.roundOf = some l)
    (ht : (jump = none ∧ fr.todo = []) ∨ (jump = some .ret ∧ ∃ k, fr.todo = .code .ret :: k) ∨ (∃ id k, jump = some (.exit id) ∧ fr.todo = .code (.exit id) :: k ∧ exitTo id k = none) ∨
      (∃ l k, jump = some (.goto l) ∧ fr.todo = .code (.goto l) :: k ∧ gotoIn l k = none))
    (hr : (Instr.endRound l jump).run P w = .ok v w') : (stepG P true (gor fr cs) w).bare = (doReturn P true fr cs none v w').bare := by
  obtain ⟨fn, tmps, todo, ds, md, kd, rnd⟩ := fr; simp only at hm hrd ht; subst hm hrd
  rcases ht with ⟨rfl, rfl⟩ | ⟨rfl, k, rfl⟩ | ⟨id, k, rfl, rfl, he⟩ | ⟨l', k, rfl, rfl, he⟩
  · simp only [gor, stepG, stepG.exec, Sem.runT_eq, hr, GStep.bare_after]
  · simp only [gor, stepG, stepG.exec, Sem.runT_eq, hr, GStep.bare_after]
  · simp only [gor, stepG, stepG.exec, he, Option.elim_none, Sem.runT_eq, hr, GStep.bare_after]
  · simp only [gor, stepG, stepG.exec, he, Option.elim_none, Sem.runT_eq, hr, GStep.bare_after]
/-! the end of frames -/
theorem doReturn_normal {c : Frame} {v : Value} {w : World} (hk : fr.kind = .normal) : doReturn P true fr (c :: cs) none v w = .go (gor (c.finish v) cs) w := by
  simp [doReturn, hk]
theorem doReturn_caught {c : Frame} {v x : Value} {older : List PanicEntry} {w : World} {g : Bool} (hk : fr.kind = .deferred) (hc : c.mode = .panicking ({ v := x, recovered := true, goexit := g } :: older)) (ho : ∀ e ∈ older, e.goexit = false) :
    doReturn P true fr (c :: cs) none v w = .go (gor { c with mode := .returning } cs) w := by
  have hd : older.dropWhile (fun x => !x.goexit) = [] := by
    clear hc
    induction older with
    | nil => rfl
    | cons e l ih =>
      rw [List.dropWhile_cons, ho e (by simp)]
      exact ih (fun e he => ho e (by simp [he]))
  simp [doReturn, hk, hc, hd]
theorem doReturn_uncaught {c : Frame} {v : Value} {w : World} (hk : fr.kind = .deferred) (hc : ∀ x g older, c.mode ≠ .panicking ({ v := x, recovered := true, goexit := g } :: older)) :
    doReturn P true fr (c :: cs) none v w = .go (gor c cs) w := by
  obtain ⟨fn, tmps, todo, ds, md, kd, rnd⟩ := c
  simp only at hc
  cases md with
  | run => simp [doReturn, hk]
  | returning => simp [doReturn, hk]
  | panicking ch =>
    cases ch with
    | nil => simp [doReturn, hk]
    | cons e older =>
      obtain ⟨x, r, g⟩ := e
      cases r with
      | true => exact absurd rfl (hc _ _ _)
      | false => simp [doReturn, hk]
theorem u_results {fn : Func} {v : Value} (hm : fr.mode = .returning) (hd : fr.defers = []) (hf : P.funcs[fr.fn]? = some fn) (hr : (Go.results fn fr.tmps).run P w = .ok v w) :
    (stepG P true (gor fr cs) w).bare = (doReturn P true fr cs none v w).bare := by
  simp only [gor, stepG, hm, Go.unwind, hd, hf, Sem.runT_eq, hr, GStep.bare_after]
theorem u_raise {c : Frame} {chain : List PanicEntry} {fn : Func} (hm : fr.mode = .panicking chain) (hd : fr.defers = []) (hf : P.funcs[fr.fn]? = some fn) :
    Go.step P (lone fr (c :: cs) w) = Stepped.next (lone (c.raise chain) cs w) :=
  step_lone_go (by simp [stepG, Go.unwind, Frame.catches, hm, hd, hf])
theorem u_collected {r : Nat} {args : Array Value} {ds calls : List Deferred} {w' : World} (hm : fr.mode = .returning ∨ ∃ c, fr.mode = .panicking c) (hd : fr.defers = { target := .collected r, args := args } :: ds)
    (hr : (Instr.takeDeferred r).run P w = .ok calls w') : Go.step P (lone fr cs w) = Stepped.next (lone { fr with defers := calls ++ ds } cs w') := by
  refine step_lone_go ?_
  rcases hm with hm | ⟨c, hm⟩ <;> simp only [stepG, hm, Go.unwind, hd, Sem.runT_eq, hr, GStep.bare_after] <;> rfl
theorem u_defer {d : Deferred} {ds : List Deferred} (hm : fr.mode = .returning ∨ ∃ c, fr.mode = .panicking c) (hd : fr.defers = d :: ds) (hn : ∀ r, d.target ≠ .collected r) :
    stepG P true (gor fr cs) w = callDeferred P { fr with defers := ds } cs none d w := by
  have h1 : Go.unwind P true fr cs none w = callDeferred P { fr with defers := ds } cs none d w := by
    unfold Go.unwind
    rw [hd]
    obtain ⟨tg, args⟩ := d
    cases tg <;> first | rfl | exact absurd rfl (hn _)
  rcases hm with hm | ⟨c, hm⟩ <;> simp only [gor, stepG, hm, h1]
theorem callDeferred_enter {d : Deferred} {f : FuncId} {args : Array Value} {w' : World} (hn : d.target ≠ .nil) (hr : (invoke d.target d.args).run P w = .ok (.enter f args) w') :
    (callDeferred P fr cs none d w).bare = .go (gor (Frame.enter P f args .deferred) (fr :: cs)) w' := by
  have h1 : (d.target matches .nil) = false := by cases ht : d.target <;> first | rfl | exact absurd ht hn
  simp only [callDeferred, h1, Bool.false_and, Bool.false_eq_true, if_false, Sem.runT_eq, hr, GStep.bare_after]; rfl
theorem callDeferred_value {d : Deferred} {v : Value} {w' : World} (hn : d.target ≠ .nil) (hr : (invoke d.target d.args).run P w = .ok (.value v) w') :
    (callDeferred P fr cs none d w).bare = .go (gor fr cs) w' := by
  have h1 : (d.target matches .nil) = false := by cases ht : d.target <;> first | rfl | exact absurd ht hn
  simp only [callDeferred, h1, Bool.false_and, Bool.false_eq_true, if_false, Sem.runT_eq, hr, GStep.bare_after]; rfl
end
end Go.Ev
