/- THE EVALUATOR, part 4 of 12: EvPure6 EvPure7 EvMapU EvPure8 EvNamP EvPure9 EvMem2 -/
import Derived.Test.YtdhfgfdpncmopaaGreatDoorEv3
import Derived.MapKept
import Derived.Laws.BytesString
set_option linter.unusedVariables false
set_option linter.unusedSectionVars false
set_option linter.unusedSimpArgs false
namespace Go.Ev
set_option linter.unusedVariables false
set_option linter.unusedSectionVars false
set_option linter.unusedSimpArgs false
variable [Val] [Fk]
section
variable {E : Env} {P : Program} (hE : EnvOk E P) {B : Nat} {μ : Mu} {h : Hp} {w : World} (hH : HR B μ h w)
  {L : Lo} {ρ : Operand → Value} {q : Operand → Opd} (hq : ∀ x, VR μ (getO (q x) L) (ρ x))
  {d : Option Tmp} {ty : TypeId} {pos : String} {af : Array Edge} {gd : Option (Nat × Bool)} {a : AV}
include hq in
theorem p_minmax {mx : Bool} {xs : Array Operand} {ats : Array TypeId} {x : Operand} {l : List Operand} (hx : xs.toList = x :: l)
    (hev : xMinmax mx (q x) (l.map q) h L = some a) : Gives P ρ w μ ⟨d, .call { callee := .builtin (if mx then .max else .min), args := xs, argTypes := ats }, ty, pos, af, gd⟩ a := by
  obtain ⟨k, n, hs, hev⟩ := asInt_some hev
  have ex := q_int hq hs
  have key : ∀ (l : List Operand) (n : Int) (a : AV), minA mx k n (getOs (l.map q) L) = some a →
      ∃ v, ((l.map ρ).foldlM (if mx then Builtin.max2 else Builtin.min2) (.int k n)).run P w = .ok v w ∧ VR μ a v := by
    intro l
    induction l with
    | nil =>
      intro n a hr
      change some _ = some a at hr
      cases hr
      exact ⟨_, rfl, by simp only [VR]⟩
    | cons y l ih =>
      intro n a hr
      change minA mx k n (getO (q y) L :: getOs (l.map q) L) = some a at hr
      unfold minA at hr
      split at hr
      · rename_i hnil; cases hnil
      · rename_i k' m r hcons
        simp only [List.cons.injEq] at hcons
        obtain ⟨hy, rfl⟩ := hcons
        replace hr := cnd_inv hr
        have hk := keq_true hr.1; subst hk
        have ey := q_int hq hy
        obtain ⟨v, hv, hvr⟩ := ih _ _ hr.2
        refine ⟨v, ?_, hvr⟩
        rw [List.map_cons, List.foldlM_cons, Sem.run_bind, ey]
        rw [← hv]
        cases mx <;> simp [Builtin.max2, Builtin.min2, cnd_eq, ilt_eq]
      · cases hr
  obtain ⟨v, hv, hr⟩ := key l n a hev
  refine ⟨v, ?_, hr⟩
  have hl : (xs.map ρ).toList = ρ x :: l.map ρ := by simp [hx]
  cases mx with
  | true =>
    exact run_builtin rfl (s := Builtin.max_ ats ty (xs.map ρ)) (by simp only [Builtin.max_, hl, ex]; exact hv)
  | false =>
    exact run_builtin rfl (s := Builtin.min_ ats ty (xs.map ρ)) (by simp only [Builtin.min_, hl, ex]; exact hv)
def viaEq : Value → Bool
  | .int .. => false
  | .float .. => false
  | .complex .. => false
  | .string _ => false
  | _ => true
theorem run_eql_via {t : TypeId} {u v : Value} {r : Bool} (hu : viaEq u = true) (hr : (Op.equal t u v).run P w = .ok r w) :
    (binOp .eql t u v).run P w = .ok (.bool r) w ∧ (binOp .neq t u v).run P w = .ok (.bool (!r)) w := by
  have e1 : binOp .eql t u v = (do pure (.bool (← Op.equal t u v))) := by
    cases u <;> first | (cases hu; done) | (cases v <;> rfl)
  have e2 : binOp .neq t u v = (do pure (.bool (!(← Op.equal t u v)))) := by
    cases u <;> first | (cases hu; done) | (cases v <;> rfl)
  rw [e1, e2]
  simp [hr]
theorem aeq_via {dd k : Nat} {t : TypeId} {X Y : AV} {u : Value} {r : Bool} (hr : aeq E dd (tyOf E k t) X Y = some r) (hx : VR μ X u)
    (h1 : ∀ kk, E.und t ≠ some (.int kk)) (h2 : E.und t ≠ some .string) : viaEq u = true := by
  cases dd with
  | zero => cases hr
  | succ dd =>
  cases k with
  | zero => cases hr
  | succ k =>
    unfold tyOf at hr
    split at hr
    · obtain ⟨b, rfl⟩ := bool_eqvL hr hx; rfl
    · rename_i kk hu; exact absurd hu (h1 kk)
    · rename_i hu; exact absurd hu h2
    · split at hr
      · unfold aeq at hr
        simp only at hr
        split at hr
        · simp only [VR] at hx; subst hx; rfl
        · simp only [VR] at hx; subst hx; rfl
        · simp only [VR] at hx; obtain ⟨_, _, _, _, _, rfl⟩ := hx; rfl
        · simp only [VR] at hx; obtain ⟨_, _, _, _, _, rfl⟩ := hx; rfl
        · cases hr
      · cases hr
    · unfold aeq at hr
      simp only at hr
      split at hr
      · simp only [VR] at hx; subst hx; rfl
      · simp only [VR] at hx; subst hx; rfl
      · simp only [VR] at hx; obtain ⟨_, rfl, _⟩ := hx; rfl
      · simp only [VR] at hx; obtain ⟨_, rfl, _⟩ := hx; rfl
      · cases hr
    · unfold aeq at hr
      simp only at hr
      split at hr
      · simp only [VR] at hx; subst hx; rfl
      · simp only [VR] at hx; subst hx; rfl
      · simp only [VR] at hx; obtain ⟨_, _, _, _, _, _, rfl, _⟩ := hx; rfl
      · cases hr
    · unfold aeq at hr
      simp only at hr
      split at hr
      · simp only [VR] at hx; subst hx; rfl
      · simp only [VR] at hx; subst hx; rfl
      · simp only [VR] at hx; obtain ⟨_, _, _, _, rfl⟩ := hx; rfl
      · cases hr
    · unfold aeq at hr
      simp only at hr
      split at hr
      · simp only [VR] at hx; subst hx; rfl
      · simp only [VR] at hx; subst hx; rfl
      · simp only [VR] at hx; obtain ⟨_, _, _, rfl, _⟩ := hx; rfl
      · cases hr
    · rename_i fs hu
      cases hst : E.P.stoodInHeld t with
      | true => rw [hst] at hr; cases hr
      | false =>
        rw [hst] at hr
        simp only [cond_false] at hr
        rcases tyFs_cases (E := E) (tyOf E k) fs.toList with h0 | ⟨a, b, c, t', r', h0⟩ | h0
        · rw [h0] at hr
          obtain ⟨xs, rfl, _⟩ := asAgg_some hr
          simp only [VR] at hx; obtain ⟨_, rfl, _⟩ := hx; rfl
        · rw [h0] at hr
          obtain ⟨xs, rfl, _⟩ := asAgg_some hr
          simp only [VR] at hx; obtain ⟨_, rfl, _⟩ := hx; rfl
        · rw [h0] at hr; cases hr
    · cases hr
theorem aeq_agg {dd k : Nat} {t : TypeId} {xs : List AV} {Y : AV} {r : Bool} (hr : aeq E dd (tyOf E k t) (.agg xs) Y = some r) : ∃ fs, E.und t = some (.struct fs) := by
  cases dd with
  | zero => cases hr
  | succ dd =>
  cases k with
  | zero => cases hr
  | succ k =>
    unfold tyOf at hr
    split at hr
    · cases hr
    · cases hr
    · cases hr
    · split at hr <;> cases hr
    · cases hr
    · cases hr
    · cases hr
    · cases hr
    · rename_i fs hu; exact ⟨fs, hu⟩
    · cases hr
theorem aeq_nil {dd k : Nat} {t : TypeId} {Y : AV} {r : Bool} (hr : aeq E dd (tyOf E k t) .nilIface Y = some r) : ∃ ms, E.und t = some (.interface ms) := by
  cases dd with
  | zero => cases hr
  | succ dd =>
  cases k with
  | zero => cases hr
  | succ k =>
    unfold tyOf at hr
    split at hr
    · cases hr
    · cases hr
    · cases hr
    · split at hr <;> cases hr
    · rename_i ms hu; exact ⟨ms, hu⟩
    · cases hr
    · cases hr
    · cases hr
    · rename_i fs hu
      cases hst : E.P.stoodInHeld t with
      | true => rw [hst] at hr; cases hr
      | false =>
        rw [hst] at hr
        simp only [cond_false] at hr
        rcases tyFs_cases (E := E) (tyOf E k) fs.toList with h0 | ⟨a, b, c, t', r', h0⟩ | h0
        · rw [h0] at hr; cases hr
        · rw [h0] at hr; cases hr
        · rw [h0] at hr; cases hr
    · cases hr
theorem vr_nil {X : AV} (hx : VR μ X .nilIface) (hb : X ≠ .top) (hb' : X ≠ .any) : X = .nilIface := by
  cases X <;> simp only [VR] at hx <;> first
    | rfl
    | exact absurd rfl hb
    | exact absurd rfl hb'
    | exact absurd rfl hx.1.2
    | (obtain ⟨h, _, _⟩ := hx; cases h; done)
    | (obtain ⟨_, h, _⟩ := hx; cases h; done)
    | (obtain ⟨_, h⟩ := hx; cases h; done)
    | (obtain ⟨_, _, _, _, _, h⟩ := hx; cases h; done)
    | (obtain ⟨_, _, _, _, _, _, h, _⟩ := hx; cases h; done)
    | (obtain ⟨_, _, _, _, h⟩ := hx; cases h; done)
    | (obtain ⟨_, _, _, h, _⟩ := hx; cases h; done)
    | (obtain ⟨_, _, _, _, _, _, h⟩ := hx; cases h; done)
    | cases hx
theorem vr_agg {X : AV} {us : Array Value} (hx : VR μ X (.agg us)) (hb : X ≠ .top) : ∃ l, X = .agg l := by
  cases X <;> simp only [VR, isScalar] at hx <;> first
    | exact ⟨_, rfl⟩
    | exact absurd rfl hb
    | (obtain ⟨h, _, _⟩ := hx; cases h; done)
    | (obtain ⟨_, h, _⟩ := hx; cases h; done)
    | (obtain ⟨_, h⟩ := hx; cases h; done)
    | (obtain ⟨_, _, _, _, _, h⟩ := hx; cases h; done)
    | (obtain ⟨_, _, _, _, _, _, h, _⟩ := hx; cases h; done)
    | (obtain ⟨_, _, _, _, h⟩ := hx; cases h; done)
    | (obtain ⟨_, _, _, h, _⟩ := hx; cases h; done)
    | (obtain ⟨_, _, _, _, _, _, h⟩ := hx; cases h; done)
    | cases hx
theorem aeq_top {dd k : Nat} {t : TypeId} {Y : AV} {r : Bool} (hr : aeq E dd (tyOf E k t) .top Y = some r) : False := by
  cases dd with
  | zero => cases hr
  | succ dd =>
  cases k with
  | zero => cases hr
  | succ k =>
    unfold tyOf at hr
    split at hr
    · cases hr
    · cases hr
    · cases hr
    · split at hr <;> cases hr
    · cases hr
    · cases hr
    · cases hr
    · cases hr
    · rename_i fs hu
      cases hst : E.P.stoodInHeld t with
      | true => rw [hst] at hr; cases hr
      | false =>
        rw [hst] at hr
        simp only [cond_false] at hr
        rcases tyFs_cases (E := E) (tyOf E k) fs.toList with h0 | ⟨a, b, c, t', r', h0⟩ | h0
        · rw [h0] at hr; cases hr
        · rw [h0] at hr; cases hr
        · rw [h0] at hr; cases hr
    · cases hr
theorem aeq_any {dd k : Nat} {t : TypeId} {Y : AV} {r : Bool} (hr : aeq E dd (tyOf E k t) .any Y = some r) : False := by
  cases dd with
  | zero => cases hr
  | succ dd =>
  cases k with
  | zero => cases hr
  | succ k =>
    unfold tyOf at hr
    split at hr
    · cases hr
    · cases hr
    · cases hr
    · split at hr <;> cases hr
    · cases hr
    · cases hr
    · cases hr
    · cases hr
    · rename_i fs hu
      cases hst : E.P.stoodInHeld t with
      | true => rw [hst] at hr; cases hr
      | false =>
        rw [hst] at hr
        simp only [cond_false] at hr
        rcases tyFs_cases (E := E) (tyOf E k) fs.toList with h0 | ⟨a, b, c, t', r', h0⟩ | h0
        · rw [h0] at hr; cases hr
        · rw [h0] at hr; cases hr
        · rw [h0] at hr; cases hr
    · cases hr
theorem run_guard_agg (op : BinOp) {t : TypeId} {x y : Operand} {us vs : Array Value} (hg : P.eqGuardType P.depth t = false) : (eqGuard op t x y (.agg us) (.agg vs)).run P w = .ok () w := by
  unfold eqGuard
  generalize Op.eqGuardIn Op.maxDepth t (.agg us) (.agg vs) = z
  by_cases ho : (!(match op with | .eql => true | .neq => true | _ => false)) = true
  · rw [if_pos (by cases op <;> first | rfl | cases ho)]; rfl
  · rw [if_neg (by cases op <;> first | exact ho | (intro hh; exact ho rfl))]
    simp only [Sem.run_bind, run_program, Result.andThen_ok]
    rw [hg]
    rfl
theorem run_guard_nil (op : BinOp) {t : TypeId} {x y : Operand} {b : Bool} (hg : (Op.eqGuardIn Op.maxDepth t .nilIface .nilIface).run P w = .ok (!b) w)
    (hc : isConstO x = true ∨ isConstO y = true ∨ b = true) : (eqGuard op t x y .nilIface .nilIface).run P w = .ok () w := by
  unfold eqGuard
  generalize Op.eqGuardIn Op.maxDepth t .nilIface .nilIface = z at *
  by_cases ho : (!(match op with | .eql => true | .neq => true | _ => false)) = true
  · rw [if_pos (by cases op <;> first | rfl | cases ho)]; rfl
  · rw [if_neg (by cases op <;> first | exact ho | (intro hh; exact ho rfl))]
    have key : ∀ bb : Bool, bb = true ∨ b = true → (if bb = true then (pure () : Sem Unit) else do
          let r ← z
          if r = true then unsupported (Unsupported.noEntry "binop/eql: two nil values of an interface type with methods, neither of them the literal nil") else pure ()).run P w = .ok () w := by
      intro bb hb
      cases bb with
      | true => simp only [if_true]; rfl
      | false =>
        rcases hb with hb | hb
        · cases hb
        · subst hb
          simp only [Bool.false_eq_true, if_false, Sem.run_bind, hg, Result.andThen_ok, Bool.not_true, Sem.run_pure]
    refine key _ ?_
    rcases hc with hc | hc | hc
    · left; cases x <;> first | (cases hc; done) | rfl
    · left; cases y <;> first | (cases hc; done) | (cases x <;> rfl)
    · exact .inr hc
include hE hH hq in
theorem p_eqv {neg : Bool} {t yt : TypeId} {x y : Operand} (h0 : isIntOrStr E t = false) (hev : xEqv E neg (eqTy E t) (eqSure E t x y) (q x) (q y) h L = some a) :
    Gives P ρ w μ ⟨d, .binOp (if neg then .neq else .eql) t x y yt, ty, pos, af, gd⟩ a := by
  obtain ⟨hs, hev⟩ := cnd_inv' hev
  obtain ⟨r, hr, hev⟩ := opt_inv hev
  rw [ev_bool_eq] at hev
  cases hev
  have hg : ∀ fs, E.und t = some (.struct fs) → P.eqGuardType P.depth t = false := by
    intro fs hu
    unfold eqTy at hr
    rw [hu] at hr
    simp only at hr
    cases hg : E.P.eqGuardType E.P.depth t with
    | true => rw [hg] at hr; cases hr
    | false => rw [← hE.prog]; exact hg
  have hty : aeq E 12 (tyOf E 8 t) (getO (q x) L) (getO (q y) L) = some r := by
    unfold eqTy at hr
    split at hr
    · cases hg : E.P.eqGuardType E.P.depth t with
      | true => rw [hg] at hr; cases hr
      | false => rw [hg] at hr; exact hr
    · cases hg : E.P.eqGuardType E.P.depth t with
      | true => rw [hg] at hr; cases hr
      | false => rw [hg] at hr; exact hr
    · exact hr
  have hX1 : getO (q x) L ≠ .top := fun hh => by rw [hh] at hty; exact aeq_top hty
  have hX2 : getO (q x) L ≠ .any := fun hh => by rw [hh] at hty; exact aeq_any hty
  have hint : ∀ kk, E.und t ≠ some (.int kk) := fun kk hu => by simp [isIntOrStr, hu] at h0
  have hstr : E.und t ≠ some .string := fun hu => by simp [isIntOrStr, hu] at h0
  have hrun := aeq_sound hE hH 12 8 t _ _ _ _ r 10000 hty (hq x) (hq y) (by omega)
  obtain ⟨e1, e2⟩ := run_eql_via (t := t) (u := ρ x) (v := ρ y) (aeq_via hty (hq x) hint hstr) hrun
  have guard : ∀ op, (eqGuard op t x y (ρ x) (ρ y)).run P w = .ok () w := by
    intro op
    by_cases hn : ρ x = .nilIface ∧ ρ y = .nilIface
    · obtain ⟨n1, n2⟩ := hn
      have hx := hq x
      have hy := hq y
      rw [n1] at hx
      rw [n2] at hy
      have eX := vr_nil hx hX1 hX2
      rw [eX] at hty hs
      obtain ⟨ms, hu⟩ := aeq_nil hty
      have eY : getO (q y) L = .nilIface := by
        unfold tyOf at hty
        rw [hu] at hty
        have hty' : (match AV.nilIface, getO (q y) L with | .nilIface, .nilIface => some true | .nilIface, .iface _ _ => some false | _, _ => none : Option Bool) = some r := by
          cases hY : getO (q y) L <;> rw [hY] at hty <;> first | exact hty | cases hty
        cases hY : getO (q y) L <;> rw [hY] at hty' hy <;> first
          | rfl
          | (simp only [VR] at hy; obtain ⟨_, h, _⟩ := hy; cases h; done)
          | (cases hty'; done)
      rw [eY] at hs
      have hsure : eqSure E t x y = true := by
        cases hh : eqSure E t x y with
        | true => rfl
        | false => rw [hh] at hs; cases hs
      rw [n1, n2]
      have hgi : (Op.eqGuardIn Op.maxDepth t .nilIface .nilIface).run P w = .ok (!ms.isEmpty) w := by
        have key : ∀ n, (Op.eqGuardIn (n + 1) t .nilIface .nilIface).run P w = .ok (!ms.isEmpty) w := by
          intro n
          simp [Op.eqGuardIn, hE.runUnd hu]
        exact key 9999
      unfold eqSure at hsure
      rw [hu] at hsure
      exact run_guard_nil op hgi (by
        cases x <;> first
          | exact .inl rfl
          | (cases y <;> first
              | exact .inr (.inl rfl)
              | (right; right; simpa [isConstO] using hsure)))
    · by_cases ha : ∃ c e, ρ x = .agg c ∧ ρ y = .agg e
      · obtain ⟨us, vs, n1, n2⟩ := ha
        have hx := hq x
        rw [n1] at hx
        obtain ⟨l, eX⟩ := vr_agg hx hX1
        rw [eX] at hty
        obtain ⟨fs, hu⟩ := aeq_agg hty
        have := hg fs hu
        rw [n1, n2]
        exact run_guard_agg op this
      · exact run_eqGuard_plain op t x y _ _ hn ha
  refine ⟨.bool (cnd neg (bnot r) r), run_val (s := do eqGuard (if neg then .neq else .eql) t x y (ρ x) (ρ y); binOp (if neg then .neq else .eql) t (ρ x) (ρ y)) ?_, by simp only [VR]⟩
  simp only [Sem.run_bind, guard, Result.andThen_ok]
  cases neg with
  | true => simp only [if_true]; rw [e2]; simp [cnd_true, bnot_eq]
  | false => simp only [Bool.false_eq_true, if_false]; rw [e1]; rfl
end
end Go.Ev

namespace Go.Ev
set_option linter.unusedVariables false
set_option linter.unusedSectionVars false
set_option linter.unusedSimpArgs false
variable [Val] [Fk]
section
variable {E : Env} {P : Program} (hE : EnvOk E P) {B : Nat} {μ : Mu} {h : Hp} {w : World} (hH : HR B μ h w)
  {L : Lo} {ρ : Operand → Value} {q : Operand → Opd} (hq : ∀ x, VR μ (getO (q x) L) (ρ x))
variable {d : Option Tmp} {ty : TypeId} {pos : String} {af : Array Edge} {gd : Option (Nat × Bool)} {a : AV}
/-! ## keys -/
include hE in
theorem checkFs_sound {dd N k : Nat} {em : Bool}
    (ih : ∀ (t : TypeId) (X : AV) (u : Value), aeq E dd (tyOf E k t) X X = some true → keyTy (tyOf E k t) = true → VR μ X u → (Instr.checkKey em N t u).run P w = .ok () w)
    {xs : List AV} {us : Array Value} (hx : VRs μ xs us.toList) : ∀ (fs : List Field), eqFs (aeq E dd) xs xs (tyFs E (tyOf E k) fs) = some true →
    keyTy (tyFs E (tyOf E k) fs) = true →
    (forIn fs PUnit.unit (fun f (_ : PUnit) => (if f.name ≠ "_" then (do Instr.checkKey em N f.type (← part f.type us f.offset); pure (ForInStep.yield PUnit.unit)) else pure (ForInStep.yield PUnit.unit) : Sem (ForInStep PUnit)))).run P w = .ok PUnit.unit w
  | [], hr, hk => by simp
  | f :: fs, hr, hk => by
    simp only [List.forIn_cons]
    unfold tyFs at hr hk
    by_cases hn : f.name = "_"
    · simp only [hn, decide_true, cond_true] at hr hk
      have := checkFs_sound ih hx fs hr hk
      simpa [hn] using this
    · simp only [hn, decide_false, cond_false] at hr hk
      cases hs : E.szA f.type with
      | none => rw [hs] at hr; cases hr
      | some p =>
        obtain ⟨n, ag⟩ := p
        rw [hs] at hr hk
        simp only [eqFs] at hr
        simp only [keyTy, Bool.and_eq_true] at hk
        split at hr
        · rename_i p1 p2 c1 c2
          rw [c1] at c2
          cases c2
          obtain ⟨ds, h1, h2, h3⟩ := szA_some hs
          obtain ⟨u, hu, hur⟩ := cut_sound (P := P) (w := w) h1 h2 h3 hE hx c1
          split at hr
          · rename_i he
            have i1 := ih f.type p1 u he hk.1 hur
            have := checkFs_sound ih hx fs hr hk.2
            simpa [hn, hu, i1] using this
          · cases hr
          · cases hr
        · cases hr
include hE in
theorem checkKey_sound (em : Bool) : ∀ (dd k : Nat) (t : TypeId) (X : AV) (u : Value) (N : Nat), aeq E dd (tyOf E k t) X X = some true → keyTy (tyOf E k t) = true → VR μ X u → dd ≤ N →
    (Instr.checkKey em N t u).run P w = .ok () w
  | 0, k, t, X, u, N, hr, _, _, _ => by cases hr
  | dd + 1, 0, t, X, u, N, hr, _, _, _ => by cases hr
  | dd + 1, k + 1, t, X, u, 0, hr, hk, hx, hN => by omega
  | dd + 1, k + 1, t, X, u, N + 1, hr, hk, hx, hN => by
    have hdN : dd ≤ N := by omega
    unfold tyOf at hr hk
    split at hr
    · rename_i hu
      simp [Instr.checkKey, hE.runUnd hu]
    · rename_i kk hu
      simp [Instr.checkKey, hE.runUnd hu]
    · rename_i hu
      simp [Instr.checkKey, hE.runUnd hu]
    · rename_i el hu
      simp [Instr.checkKey, hE.runUnd hu]
    · rename_i ms hu; rw [hu] at hk; cases hk
    · rename_i el hu; rw [hu] at hk; cases hk
    · rename_i k1 e1 hu; rw [hu] at hk; cases hk
    · rename_i p1 p2 p3 hu; rw [hu] at hk; cases hk
    · rename_i fs hu
      rw [hu] at hk
      simp only at hk
      cases hst : E.P.stoodInHeld t with
      | true => rw [hst] at hr; cases hr
      | false =>
        rw [hst] at hr hk
        simp only [cond_false] at hr hk
        have hagg : ∃ xs, X = .agg xs ∧ eqFs (aeq E dd) xs xs (tyFs E (tyOf E k) fs.toList) = some true := by
          rcases tyFs_cases (E := E) (tyOf E k) fs.toList with h0 | ⟨a, b, c, t', r', h0⟩ | h0
          · rw [h0] at hr ⊢
            replace hr := asAgg_some hr
            obtain ⟨xs, rfl, h3⟩ := hr
            exact ⟨xs, rfl, h3⟩
          · rw [h0] at hr ⊢
            replace hr := asAgg_some hr
            obtain ⟨xs, rfl, h3⟩ := hr
            exact ⟨xs, rfl, h3⟩
          · rw [h0] at hr; cases hr
        obtain ⟨xs, rfl, hfs⟩ := hagg
        simp only [VR] at hx
        obtain ⟨us, rfl, hx⟩ := hx
        have := checkFs_sound (em := em) (N := N) (w := w) hE (fun t' X' u' he hk' h1 => checkKey_sound em dd k t' X' u' N he hk' h1 hdN) hx fs.toList hfs hk
        rw [Instr.checkKey]
        simp only [Sem.run_bind, hE.runUnd hu, Result.andThen_ok]
        rw [← Array.forIn_toList, this]
        rfl
    · cases hr
def FoundR (μ : Mu) : Option (Nat × En) → Option (Nat × Value) → List En → List MapEntry → Nat → Prop
  | none, r, _, _, _ => r = none
  | some (i, e), r, es, xs, i0 => ∃ x, i0 ≤ i ∧ es[i - i0]? = some e ∧ xs[i - i0]? = some x ∧ EnR μ e x ∧ r = some (i, x.val)
include hE hH in
theorem findAsk_sound {kt : TypeId} {X : AV} {u : Value} (hx : VR μ X u) : ∀ (es : List En) (xs : List MapEntry) (i : Nat) (r : Option (Nat × En)), EnsR μ es xs →
    findK0 E (tyOf E 8 kt) X es i = some r → ∃ r', (Instr.findAsking kt u xs i).run P w = .ok r' w ∧ FoundR μ r r' es xs i
  | [], xs, i, r, hes, hr => by
    simp only [EnsR] at hes; subst hes
    cases hr
    exact ⟨none, by simp [Instr.findAsking], rfl⟩
  | e :: es, _, i, r, hes, hr => by
    simp only [EnsR] at hes
    obtain ⟨x, xs, rfl, he, hes⟩ := hes
    unfold findK0 at hr
    split at hr
    · rename_i heq
      cases hr
      have := aeq_sound hE hH 12 8 kt _ _ _ _ true 10000 heq hx he.1 (by omega)
      refine ⟨some (i, x.val), ?_, ?_⟩
      · have e1 : (Op.equal kt u x.key).run P w = .ok true w := this
        simp [Instr.findAsking, e1]
      · exact ⟨x, Nat.le_refl _, by simp, by simp, he, rfl⟩
    · rename_i heq
      have := aeq_sound hE hH 12 8 kt _ _ _ _ false 10000 heq hx he.1 (by omega)
      have e1 : (Op.equal kt u x.key).run P w = .ok false w := this
      obtain ⟨r', h1, h2⟩ := findAsk_sound hx es xs (i + 1) r hes hr
      refine ⟨r', by simp [Instr.findAsking, e1, h1], ?_⟩
      cases r with
      | none => exact h2
      | some p =>
        obtain ⟨j, e'⟩ := p
        obtain ⟨y, g1, g2, g3, g4⟩ := h2
        refine ⟨y, by omega, ?_, ?_, g4⟩
        · rw [show j - i = (j - (i + 1)) + 1 by omega]; simpa using g2
        · rw [show j - i = (j - (i + 1)) + 1 by omega]; simpa using g3
    · cases hr
theorem now_asking {kt : TypeId} {kd : TypeDesc} {u : Value} (hu : P.underlying kt = some kd) : ∀ (xs : List MapEntry) (i : Nat) (r r' : Option (Nat × Value)), Instr.findNow kd u xs i = some r →
    (Instr.findAsking kt u xs i).run P w = .ok r' w → r = r'
  | [], i, r, r', h1, h2 => by
    simp [Instr.findNow] at h1
    simp [Instr.findAsking] at h2
    rw [← h1, ← h2]
  | x :: xs, i, r, r', h1, h2 => by
    have key : ∀ b, Instr.sameNow kd u x.key = some b → (Op.equal kt u x.key).run P w = .ok b w := by
      intro b hb
      revert hb
      generalize x.key = y
      intro hb
      unfold Instr.sameNow at hb
      split at hb
      · rename_i k1 a k2 c
        split at hb
        · rename_i hk
          cases hb
          subst hk
          show (Op.equalIn (9999 + 1) kt _ _).run P w = _
          rw [run_equalIn_int _ _ _ _ _ _ _ hu]
        · cases hb
      · rename_i a c
        cases hb
        show (Op.equalIn (9999 + 1) kt _ _).run P w = _
        rw [run_equalIn_string _ _ _ _ _ hu, Go.ByteArray.toList_eq, Go.ByteArray.toList_eq]
        congr 1
        show _ = (a.data == c.data)
        rw [Bool.eq_iff_iff]; simp
      · rename_i a c
        cases hb
        show (Op.equalIn (9999 + 1) kt _ _).run P w = _
        rw [run_equalIn_bool' _ _ _ _ _ hu]
      · cases hb
    unfold Instr.findNow at h1
    split at h1
    · rename_i hb
      have := key _ hb
      simp [Instr.findAsking, this] at h2
      cases h1; exact h2
    · rename_i hb
      have := key _ hb
      simp only [Instr.findAsking, Sem.run_bind, this, Result.andThen_ok, Bool.false_eq_true, if_false] at h2
      exact now_asking hu xs (i + 1) r r' h1 h2
    · cases h1
theorem tyOf_und {k : Nat} {t : TypeId} (h : tyOf E k t ≠ .bad) : ∃ ds, E.und t = some ds := by
  cases k with
  | zero => exact absurd rfl h
  | succ k =>
    cases hu : E.und t with
    | some ds => exact ⟨ds, rfl⟩
    | none => rw [tyOf, hu] at h; exact absurd rfl h
include hE hH in
theorem findKey_sound {kt : TypeId} {X : AV} {u : Value} {es : List En} {xs : List MapEntry} {r : Option (Nat × En)} (hx : VR μ X u) (hes : EnsR μ es xs)
    (hr : findK E (tyOf E 8 kt) X es = some r) : ∃ r', (Instr.findKey kt u xs).run P w = .ok r' w ∧ FoundR μ r r' es xs 0 := by
  obtain ⟨hok, hr⟩ := cnd_inv hr
  obtain ⟨r', h1, h2⟩ := findAsk_sound hE hH (w := w) hx es xs 0 r hes hr
  have hbad : tyOf E 8 kt ≠ .bad := fun hh => by rw [hh] at hok; cases hok
  obtain ⟨ds, hu⟩ := tyOf_und hbad
  refine ⟨r', ?_, h2⟩
  simp only [Instr.findKey, Sem.run_bind, hE.runUnd hu, Result.andThen_ok]
  split
  · rename_i r0 hn
    rw [now_asking (hE.und hu) _ _ _ _ hn h1]; rfl
  · exact h1
include hE in
theorem checkK {kt : TypeId} {X : AV} {u : Value} {es : List En} {r : Option (Nat × En)} (em : Bool) (hk : keyTy (tyOf E 8 kt) = true) (hx : VR μ X u) (hr : findK E (tyOf E 8 kt) X es = some r) :
    (Instr.checkKey em 10000 kt u).run P w = .ok () w := by
  obtain ⟨hok, hr⟩ := cnd_inv hr
  refine checkKey_sound hE em 12 8 kt X u 10000 ?_ hk hx (by omega)
  unfold okKey at hok
  cases h0 : aeq E 12 (tyOf E 8 kt) X X with
  | none => rw [h0] at hok; cases hok
  | some b => rw [h0] at hok; exact congrArg some hok
include hH in
theorem HR.mapOb {f : Key} {es : List En} {clock : Nat} (ho : hget f h = .map es clock) {b s n : Nat} (hm : μ f 0 = some (b, s, n)) :
    B ≤ b ∧ ∃ es' : Array MapEntry, w.heap[b]? = some (.map es' clock) ∧ EnsR μ es es'.toList := by
  have := hH.obj f
  rw [ho] at this
  exact this.2 b s n hm
theorem EnsR.length {es : List En} {xs : List MapEntry} (hh : EnsR μ es xs) : es.length = xs.length := by
  induction es generalizing xs with
  | nil => simp only [EnsR] at hh; subst hh; rfl
  | cons e es ih =>
    simp only [EnsR] at hh
    obtain ⟨x, r, rfl, _, h2⟩ := hh
    simp [ih h2]
include hH in
theorem mapEs_sound {X : AV} {v : Value} {es : List En} (hx : VR μ X v) (hm : mapEs h X = some es) :
    (X = .map0 ∧ v = .map none ∧ es = []) ∨ ∃ f b s n clock, X = .map f ∧ hget f h = .map es clock ∧ μ f 0 = some (b, s, n) ∧ v = .map (some b) ∧ B ≤ b ∧ ∃ es' : Array MapEntry, w.heap[b]? = some (.map es' clock) ∧ EnsR μ es es'.toList := by
  unfold mapEs at hm
  split at hm
  · simp only [VR] at hx; cases hm; exact .inl ⟨rfl, hx, rfl⟩
  · rename_i f
    simp only [VR] at hx
    obtain ⟨b, s, n, h1, rfl⟩ := hx
    obtain ⟨es0, c, ho, h2⟩ := asMapO_some hm
    cases h2
    obtain ⟨h3, es', h4, h5⟩ := hH.mapOb ho h1
    exact .inr ⟨f, b, s, n, c, rfl, ho, h1, rfl, h3, es', h4, h5⟩
  · cases hm
omit hE hH in
mutual
theorem ofV_sound (μ : Mu) : ∀ (v : Value), VR μ (ofV v) v
  | .bool b => by simp only [ofV, VR]
  | .int k (.ofNat n) => by simp only [ofV, VR]
  | .int k (.negSucc n) => by simp only [ofV, VR]
  | .string s => by simp only [ofV, VR]; exact ⟨s, rfl, rfl⟩
  | .pointer none => by simp only [ofV, VR]
  | .slice none 0 0 => by simp only [ofV, VR]
  | .map none => by simp only [ofV, VR]
  | .func f ⟨fs⟩ ⟨cs⟩ => by simp only [ofV, VR]; exact ⟨f, _, _, rfl, rfl, ofVs_sound μ fs, ofVs_sound μ cs⟩
  | .nilFunc => by simp only [ofV, VR]
  | .nilIface => by simp only [ofV, VR]
  | .iface t v => by simp only [ofV, VR]; exact ⟨v, rfl, ofV_sound μ v⟩
  | .agg ⟨cs⟩ => by simp only [ofV, VR]; exact ⟨_, rfl, ofVs_sound μ cs⟩
  | .tuple ⟨cs⟩ => by simp only [ofV, VR]; exact ⟨_, rfl, ofVs_sound μ cs⟩
  | .pointer (some a) => by simp only [ofV, VR]
  | .slice (some a) n c => by simp only [ofV, VR]
  | .slice none (n + 1) c => by simp only [ofV, VR]
  | .slice none 0 (c + 1) => by simp only [ofV, VR]
  | .map (some a) => by simp only [ofV, VR]
  | .float _ _ => by simp only [ofV, VR]
  | .complex _ _ _ => by simp only [ofV, VR]
  | .chan _ => by simp only [ofV, VR]
theorem ofVs_sound (μ : Mu) : ∀ (vs : List Value), VRs μ (ofVs vs) vs
  | [] => by simp only [ofVs]; exact .nil
  | v :: vs => by simp only [ofVs]; exact .cons (ofV_sound μ v) (ofVs_sound μ vs)
end
end
end Go.Ev

namespace Go.Ev
noncomputable section
set_option linter.unusedVariables false
set_option linter.unusedSectionVars false
variable [Val] [Fk]
/-! maps whose order is unknown: looking up -/
theorem findU0_none {E : Env} {kt : Ty} {k : AV} : ∀ {es : List En}, findU0 E kt k es = some none → ∀ e ∈ es, aeq E 12 kt k e.k = some false
  | [], _, e, he => by cases he
  | e0 :: es, h, e, he => by
    unfold findU0 at h
    split at h
    · cases h
    · rename_i r h1 h2
      cases h
      rcases List.mem_cons.1 he with rfl | he
      · exact h1
      · exact findU0_none h2 e he
    · cases h
theorem findU0_some {E : Env} {kt : Ty} {k : AV} {e0 : En} : ∀ {es : List En}, findU0 E kt k es = some (some e0) →
    ∃ l1 l2, es = l1 ++ e0 :: l2 ∧ aeq E 12 kt k e0.k = some true ∧ ∀ e ∈ l1 ++ l2, aeq E 12 kt k e.k = some false
  | [], h => by cases h
  | e :: es, h => by
    unfold findU0 at h
    split at h
    · rename_i h1 h2
      cases h
      exact ⟨[], es, rfl, h1, fun e he => findU0_none h2 e (by simpa using he)⟩
    · rename_i r h1 h2
      cases h
      obtain ⟨l1, l2, rfl, h3, h4⟩ := findU0_some h2
      refine ⟨e :: l1, l2, rfl, h3, fun x hx => ?_⟩
      rcases List.mem_cons.1 hx with rfl | hx
      · exact h1
      · exact h4 x hx
    · cases h
theorem findK0_none {E : Env} {kt : Ty} {k : AV} : ∀ {es : List En} {i : Nat}, (∀ e ∈ es, aeq E 12 kt k e.k = some false) → findK0 E kt k es i = some none
  | [], _, _ => rfl
  | e :: es, i, h => by
    unfold findK0
    rw [h e (List.mem_cons_self ..)]
    exact findK0_none fun x hx => h x (List.mem_cons_of_mem _ hx)
theorem findK0_app {E : Env} {kt : Ty} {k : AV} {e0 : En} {l2 : List En} (h0 : aeq E 12 kt k e0.k = some true) : ∀ {l1 : List En} {i : Nat}, (∀ e ∈ l1, aeq E 12 kt k e.k = some false) →
    ∃ j, findK0 E kt k (l1 ++ e0 :: l2) i = some (some (j, e0))
  | [], i, _ => ⟨i, by
    show findK0 E kt k (e0 :: l2) i = _
    unfold findK0
    rw [h0]⟩
  | e :: l1, i, h => by
    obtain ⟨j, hj⟩ := findK0_app (l2 := l2) h0 (l1 := l1) (i := Nat.succ i) (fun x hx => h x (List.mem_cons_of_mem _ hx))
    refine ⟨j, ?_⟩
    show findK0 E kt k (e :: (l1 ++ e0 :: l2)) i = _
    unfold findK0
    rw [h e (List.mem_cons_self ..)]
    exact hj
theorem findU_find {E : Env} {kt : Ty} {k : AV} {es es' : List En} {r : Option En} (hp : (es.map kv).Perm (es'.map kv)) (h : findU0 E kt k es = some r) (i : Nat) :
    (r = none ∧ findK0 E kt k es' i = some none) ∨ ∃ e e' j, r = some e ∧ findK0 E kt k es' i = some (some (j, e')) ∧ e'.v = e.v := by
  have back : ∀ {l m : List En}, (l.map kv).Perm (m.map kv) → (∀ e ∈ l, aeq E 12 kt k e.k = some false) → ∀ e ∈ m, aeq E 12 kt k e.k = some false := by
    intro l m hlm hl e he
    have h1 : kv e ∈ l.map kv := hlm.mem_iff.2 (List.mem_map.2 ⟨e, he, rfl⟩)
    obtain ⟨e1, h2, h3⟩ := List.mem_map.1 h1
    have h4 : e1.k = e.k := congrArg Prod.fst h3
    rw [← h4]
    exact hl e1 h2
  cases r with
  | none => exact .inl ⟨rfl, findK0_none (back hp (findU0_none h))⟩
  | some e0 =>
    obtain ⟨l1, l2, rfl, h1, h2⟩ := findU0_some h
    have h3 : kv e0 ∈ es'.map kv := hp.mem_iff.1 (List.mem_map.2 ⟨e0, by simp, rfl⟩)
    obtain ⟨e1, h4, h5⟩ := List.mem_map.1 h3
    obtain ⟨m1, m2, rfl⟩ := List.append_of_mem h4
    have hk : e1.k = e0.k := congrArg Prod.fst h5
    have hv : e1.v = e0.v := congrArg Prod.snd h5
    have hp2 : ((l1 ++ l2).map kv).Perm ((m1 ++ m2).map kv) := by
      simp only [List.map_append, List.map_cons] at hp ⊢
      rw [h5] at hp
      exact ((List.perm_middle.symm.trans hp).trans List.perm_middle).cons_inv
    have h6 := back hp2 h2
    obtain ⟨j, hj⟩ := findK0_app (l2 := m2) (k := k) (e0 := e1) (by rw [hk]; exact h1) (l1 := m1) (i := i) (fun e he => h6 e (List.mem_append_left _ he))
    exact .inr ⟨e0, e1, j, rfl, hj, hv⟩
section
variable {E : Env} {P : Program} (hE : EnvOk E P) {B : Nat} {μ : Mu} {h : Hp} {w : World} (hH : HR B μ h w)
include hH in
theorem mapUs_sound {X : AV} {v : Value} {es : List En} (hx : VR μ X v) (hm : mapUs h X = some es) :
    ∃ b es' clock es0, v = .map (some b) ∧ w.heap[b]? = some (.map es' clock) ∧ EnsR μ es0 es'.toList ∧ (es.map kv).Perm (es0.map kv) := by
  unfold mapUs at hm
  split at hm
  · rename_i f
    simp only [VR] at hx
    obtain ⟨b, s, n, h1, rfl⟩ := hx
    have ho := hH.obj f
    cases hf : hget f h with
    | mapu es1 =>
      rw [hf] at hm ho
      have e : some es1 = some es := hm
      cases e
      obtain ⟨_, es', clock, es0, h2, h3, h4⟩ := ho.2 b s n h1
      exact ⟨b, es', clock, es0, rfl, h2, h3, h4⟩
    | _ => rw [hf] at hm; cases hm
  · cases hm
end
end
end Go.Ev

namespace Go.Ev
set_option linter.unusedVariables false
set_option linter.unusedSectionVars false
set_option linter.unusedSimpArgs false
variable [Val] [Fk]
section
variable {E : Env} {P : Program} (hE : EnvOk E P) {B : Nat} {μ : Mu} {h : Hp} {w : World} (hH : HR B μ h w)
  {L : Lo} {ρ : Operand → Value} {q : Operand → Opd} (hq : ∀ x, VR μ (getO (q x) L) (ρ x))
variable {d : Option Tmp} {ty : TypeId} {pos : String} {af : Array Edge} {gd : Option (Nat × Bool)} {a : AV}
include hE in
theorem EnvOk.runZero {t : TypeId} {z : AV} (hz : zeroA E t = some z) (w : World) : ∃ v, (zeroValue t).run P w = .ok v w ∧ z = ofV v := by
  obtain ⟨i, v, h1, h2, h3⟩ := hE.zero hz
  exact ⟨v, by simp [zeroValue, typeInfo, h1, h2], h3⟩
include hE hH hq in
theorem p_lookup {t kt el : TypeId} {z : AV} {x k : Operand} {ok : Bool} (hu : E.und t = some (.map kt el)) (hz : zeroA E el = some z) (hk : keyTy (tyOf E 8 kt) = true)
    (hev : xLookup E (tyOf E 8 kt) z ok (q x) (q k) h L = some a) : Gives P ρ w μ ⟨d, .lookup t x k ok, ty, pos, af, gd⟩ a := by
  obtain ⟨r, h1, hev⟩ := opt_inv hev
  obtain ⟨zv, hzv, rfl⟩ := hE.runZero hz w
  have main : ∀ (es : List En) (r0 : Option (Nat × En)) (xs : Array MapEntry), findK E (tyOf E 8 kt) (getO (q k) L) es = some r0 → (opt r0 none fun e => some e.2.v) = r → EnsR μ es xs.toList → (∀ e, (Instr.checkKey e 10000 kt (ρ k)).run P w = .ok () w) ∧
      ∃ r', (Instr.findKey kt (ρ k) xs.toList).run P w = .ok r' w ∧
        VR μ a (match r' with | some (_, v) => if ok then .tuple #[v, .bool true] else v | none => if ok then .tuple #[zv, .bool false] else zv) := by
    intro es r0 xs h2 hr0 hes
    refine ⟨fun e => checkK hE e hk (hq k) h2, ?_⟩
    obtain ⟨r', g1, g2⟩ := findKey_sound hE hH (hq k) hes h2
    refine ⟨r', g1, ?_⟩
    subst hr0
    cases r0 with
    | none =>
      cases hev
      simp only [FoundR] at g2; subst g2
      cases ok with
      | true => simp only [cnd_true, if_true, VR]; exact ⟨_, rfl, .cons (ofV_sound μ zv) (.cons (by simp only [VR]) .nil)⟩
      | false => simp only [cnd_false]; exact ofV_sound μ zv
    | some p =>
      obtain ⟨i, e⟩ := p
      cases hev
      obtain ⟨y, _, g3, g4, g5, rfl⟩ := g2
      cases ok with
      | true => simp only [cnd_true, if_true, VR]; exact ⟨_, rfl, .cons g5.2.1 (.cons (by simp only [VR]) .nil)⟩
      | false => simp only [cnd_false]; exact g5.2.1
  have all : (ρ x = .map none ∧ (∀ e, (Instr.checkKey e 10000 kt (ρ k)).run P w = .ok () w) ∧
      ∃ r', (Instr.findKey kt (ρ k) []).run P w = .ok r' w ∧
        VR μ a (match r' with | some (_, v) => if ok then .tuple #[v, .bool true] else v | none => if ok then .tuple #[zv, .bool false] else zv)) ∨
      ∃ b es' clock, ρ x = .map (some b) ∧ w.heap[b]? = some (.map es' clock) ∧ (∀ e, (Instr.checkKey e 10000 kt (ρ k)).run P w = .ok () w) ∧
      ∃ r', (Instr.findKey kt (ρ k) es'.toList).run P w = .ok r' w ∧
        VR μ a (match r' with | some (_, v) => if ok then .tuple #[v, .bool true] else v | none => if ok then .tuple #[zv, .bool false] else zv) := by
    unfold lookV at h1
    cases hes : mapEs h (getO (q x) L) with
    | some es =>
      rw [hes] at h1
      simp only [opt_some] at h1
      obtain ⟨r0, h2, h3⟩ := opt_inv h1
      simp only [Option.some.injEq] at h3
      rcases mapEs_sound hH (hq x) hes with ⟨_, hx, rfl⟩ | ⟨f, b, s, n, clock, _, ho, hm, hx, hB, es', hb, hR⟩
      · exact .inl ⟨hx, main [] r0 #[] h2 h3 (by simp [EnsR])⟩
      · exact .inr ⟨b, es', clock, hx, hb, main es r0 es' h2 h3 hR⟩
    | none =>
      rw [hes] at h1
      simp only [opt_none] at h1
      obtain ⟨us, h4, h1⟩ := opt_inv h1
      obtain ⟨r0, h2, h3⟩ := opt_inv h1
      simp only [Option.some.injEq] at h3
      obtain ⟨b, es', clock, es0, hx, hb, hR, hp⟩ := mapUs_sound hH (hq x) h4
      obtain ⟨h5, h6⟩ := cnd_inv h2
      obtain ⟨r1, h7, h8⟩ : ∃ r1, findK E (tyOf E 8 kt) (getO (q k) L) es0 = some r1 ∧ (opt r1 none fun e => some e.2.v) = r := by
        rcases findU_find hp h6 0 with ⟨e1, e2⟩ | ⟨e, e', j, e1, e2, e3⟩
        · refine ⟨none, by unfold findK; rw [h5]; exact e2, ?_⟩
          subst e1; rw [← h3]; rfl
        · refine ⟨some (j, e'), by unfold findK; rw [h5]; exact e2, ?_⟩
          subst e1; rw [← h3]; simp only [opt_some, e3]
      exact .inr ⟨b, es', clock, hx, hb, main es0 r1 es' h7 h8 hR⟩
  rcases all with ⟨hx, hc, r', hr, hv⟩ | ⟨b, es', clock, hx, hb, hc, r', hr, hv⟩
  · refine ⟨_, run_val (s := Instr.lookup t (ρ x) (ρ k) ok) ?_, hv⟩
    rw [hx]
    simp only [Instr.lookup, Sem.run_bind, hE.runUnd hu, Result.andThen_ok, Sem.run_pure, hc, hr]
    cases r' with
    | none => cases ok <;> simp [hzv]
    | some p => cases ok <;> simp
  · refine ⟨_, run_val (s := Instr.lookup t (ρ x) (ρ k) ok) ?_, hv⟩
    rw [hx]
    simp only [Instr.lookup, Sem.run_bind, hE.runUnd hu, Result.andThen_ok, Sem.run_pure, hc, MapKept.run_getObj_map hb, hr]
    cases r' with
    | none => cases ok <;> simp [hzv]
    | some p => cases ok <;> simp
include hE hH hq in
theorem p_lenMap {xs : Array Operand} {ats : Array TypeId} {x : Operand} {l : List Operand} {t kt el : TypeId} {ts : List TypeId} (hx : xs.toList = x :: l) (ht : ats.toList = t :: ts)
    (hu : E.und t = some (.map kt el)) (hev : xLenMap (q x) h L = some a) :
    Gives P ρ w μ ⟨d, .call { callee := .builtin .len, args := xs, argTypes := ats }, ty, pos, af, gd⟩ a := by
  obtain ⟨es, h1, hev⟩ := opt_inv hev
  cases hev
  rcases mapEs_sound hH (hq x) h1 with ⟨_, hv, rfl⟩ | ⟨f, b, s, n, clock, _, ho, hm, hv, hB, es', hb, hes⟩
  · refine ⟨.int .i64 0, run_builtin (s := Builtin.len_ ats ty (xs.map ρ)) rfl ?_, by simp only [VR]; rfl⟩
    simp only [Builtin.len_, head_types ht, head_args hx, Sem.run_bind, hE.runUnd hu, Result.andThen_ok, hv, Sem.run_pure]
    rfl
  · refine ⟨.int .i64 es'.size, run_builtin (s := Builtin.len_ ats ty (xs.map ρ)) rfl ?_, by simp only [VR]; rw [hes.length]; simp⟩
    simp only [Builtin.len_, head_types ht, head_args hx, Sem.run_bind, hE.runUnd hu, Result.andThen_ok, hv, MapKept.run_getObj_map hb, Sem.run_pure]
    rfl
include hE hq in
theorem p_assertC {x : Operand} {xt t : TypeId} {ok : Bool} {z : AV} {ds : TypeDesc} (hu : E.und t = some ds) (hn : ∀ ms, ds ≠ .interface ms) (hz : zeroA E t = some z)
    (hev : xAssertC t z ok (q x) h L = some a) : Gives P ρ w μ ⟨d, .typeAssert x xt t ok, ty, pos, af, gd⟩ a := by
  obtain ⟨zv, hzv, rfl⟩ := hE.runZero hz w
  have hx := hq x
  unfold xAssertC at hev
  split at hev
  · rename_i e
    rw [e] at hx; simp only [VR] at hx
    obtain ⟨hok, hev⟩ := cnd_inv hev
    cases hev
    subst hok
    refine ⟨.tuple #[zv, .bool false], run_val (s := Instr.typeAssert (ρ x) xt t true) ?_, by simp only [VR]; exact ⟨_, rfl, .cons (ofV_sound μ zv) (.cons (by simp only [VR]) .nil)⟩⟩
    rw [hx]
    simp only [Instr.typeAssert, Sem.run_bind, hE.runUnd hu, Result.andThen_ok]
    cases ds <;> first | (exact absurd rfl (hn _)) | simp [hzv]
  · rename_i u v e
    rw [e] at hx; simp only [VR] at hx
    obtain ⟨y, hx, hy⟩ := hx
    cases hut : Nat.beq u t with
    | true =>
      have := Nat.eq_of_beq_eq_true hut; subst this
      rw [hut] at hev
      cases hev
      refine ⟨if ok then .tuple #[y, .bool true] else y, run_val (s := Instr.typeAssert (ρ x) xt u ok) ?_, ?_⟩
      · rw [hx]
        simp only [Instr.typeAssert, Sem.run_bind, hE.runUnd hu, Result.andThen_ok]
        cases ds <;> first | (exact absurd rfl (hn _)) | (cases ok <;> simp)
      · cases ok with
        | true => simp only [cnd_true, if_true, VR]; exact ⟨_, rfl, .cons hy (.cons (by simp only [VR]) .nil)⟩
        | false => exact hy
    | false =>
      have hne : u ≠ t := by intro hh; subst hh; simp at hut
      rw [hut] at hev
      obtain ⟨hok, hev⟩ := cnd_inv hev
      cases hev
      subst hok
      refine ⟨.tuple #[zv, .bool false], run_val (s := Instr.typeAssert (ρ x) xt t true) ?_, by simp only [VR]; exact ⟨_, rfl, .cons (ofV_sound μ zv) (.cons (by simp only [VR]) .nil)⟩⟩
      rw [hx]
      simp only [Instr.typeAssert, Sem.run_bind, hE.runUnd hu, Result.andThen_ok]
      cases ds <;> first | (exact absurd rfl (hn _)) | simp [hzv, hne]
  · cases hev
theorem least_none {l : List String} : Instr.least l = none ↔ l = [] := by
  cases l <;> simp [Instr.least]
theorem missing_iff (want : Array (String × TypeId)) (got : Array Method) : Instr.missingMethod want got = none ↔ missing want.toList got.toList = false := by
  unfold Instr.missingMethod missing
  simp only [List.partition_eq_filter_filter]
  have orE : ∀ a b : Option String, (a <|> b) = none ↔ a = none ∧ b = none := fun a b => by cases a <;> cases b <;> simp
  rw [orE, least_none, least_none]
  simp only [List.map_eq_nil_iff, List.filter_eq_nil_iff, List.mem_map, List.mem_filter, Bool.not_eq_false', List.all_eq_true, Function.comp]
  constructor
  · rintro ⟨h1, h2⟩ ⟨n, s⟩ hm
    cases hc : (got.toList.any fun m => m.name == n && m.sig == s) with
    | true => rfl
    | false =>
      have hc' : (!got.any fun m => m.name == n && m.sig == s) = true := by rw [← Array.any_toList, hc]; rfl
      have a1 := h1 n ⟨(n, s), ⟨hm, hc'⟩, rfl⟩
      have a2 := h2 n ⟨(n, s), ⟨hm, hc'⟩, rfl⟩
      simp_all
  · intro hh
    constructor
    · rintro x ⟨⟨n, s⟩, ⟨hm, hc⟩, rfl⟩
      have := hh _ hm
      rw [Array.any_toList] at this
      simp only at this hc
      rw [this] at hc; cases hc
    · rintro x ⟨⟨n, s⟩, ⟨hm, hc⟩, rfl⟩
      have := hh _ hm
      rw [Array.any_toList] at this
      simp only at this hc
      rw [this] at hc; cases hc
include hE hq in
theorem p_assertI {x : Operand} {xt t : TypeId} {ok : Bool} {z : AV} {want : Array (String × TypeId)} (hu : E.und t = some (.interface want)) (hz : zeroA E t = some z)
    (hev : xAssertI E want.toList z ok (q x) h L = some a) : Gives P ρ w μ ⟨d, .typeAssert x xt t ok, ty, pos, af, gd⟩ a := by
  obtain ⟨zv, hzv, rfl⟩ := hE.runZero hz w
  have hx := hq x
  unfold xAssertI at hev
  split at hev
  · rename_i e
    rw [e] at hx; simp only [VR] at hx
    obtain ⟨hok, hev⟩ := cnd_inv hev
    cases hev
    subst hok
    refine ⟨.tuple #[zv, .bool false], run_val (s := Instr.typeAssert (ρ x) xt t true) ?_, by simp only [VR]; exact ⟨_, rfl, .cons (ofV_sound μ zv) (.cons (by simp only [VR]) .nil)⟩⟩
    rw [hx]
    simp [Instr.typeAssert, hE.runUnd hu, hzv]
  · rename_i u v e
    rw [e] at hx; simp only [VR] at hx
    obtain ⟨y, hx, hy⟩ := hx
    split at hev
    · rename_i i hi
      have hinfo := hE.ts _ _ hi
      cases hm : missing want.toList i.methods.toList with
      | true =>
        rw [hm] at hev
        obtain ⟨hok, hev⟩ := cnd_inv hev
        cases hev
        subst hok
        have hne : Instr.missingMethod want i.methods ≠ none := fun hh => by rw [(missing_iff _ _).1 hh] at hm; cases hm
        cases hmm : Instr.missingMethod want i.methods with
        | none => exact absurd hmm hne
        | some s =>
          refine ⟨.tuple #[zv, .bool false], run_val (s := Instr.typeAssert (ρ x) xt t true) ?_, by simp only [VR]; exact ⟨_, rfl, .cons (ofV_sound μ zv) (.cons (by simp only [VR]) .nil)⟩⟩
          rw [hx]
          simp [Instr.typeAssert, hE.runUnd hu, hzv, typeInfo, hinfo, hmm]
      | false =>
        rw [hm] at hev
        cases hev
        have hmm := (missing_iff _ _).2 hm
        refine ⟨if ok then .tuple #[.iface u y, .bool true] else .iface u y, run_val (s := Instr.typeAssert (ρ x) xt t ok) ?_, ?_⟩
        · rw [hx]
          cases ok <;> simp [Instr.typeAssert, hE.runUnd hu, hzv, typeInfo, hinfo, hmm]
        · have hv : VR μ (.iface u v) (.iface u y) := by simp only [VR]; exact ⟨_, rfl, hy⟩
          cases ok with
          | true => simp only [cnd_true, if_true, VR]; exact ⟨_, rfl, .cons hv (.cons (by simp only [VR]) .nil)⟩
          | false => exact hv
    · cases hev
  · cases hev
/-! ## build -/
theorem scalar_not {X : AV} {v : Value} (hx : VR μ X v) (hs : X.scalar = true) : isScalar v := by
  cases X <;> simp only [VR] at hx <;> first
    | (cases hs; done)
    | exact hx
    | exact hx.2.1
    | (subst hx; trivial)
    | (obtain ⟨rfl, _, _⟩ := hx; trivial)
    | (obtain ⟨_, rfl⟩ := hx; trivial)
    | (obtain ⟨_, rfl, _⟩ := hx; trivial)
    | (obtain ⟨_, _, rfl, _⟩ := hx; trivial)
    | (obtain ⟨_, _, _, rfl, _⟩ := hx; trivial)
    | (obtain ⟨_, _, _, _, _, rfl⟩ := hx; trivial)
    | (obtain ⟨_, _, _, _, rfl⟩ := hx; trivial)
    | (obtain ⟨_, _, _, _, _, _, rfl, _⟩ := hx; trivial)
    | (obtain ⟨_, _, _, _, _, _, rfl⟩ := hx; trivial)
theorem isScalar_cells {v : Value} (hs : isScalar v) : v.cells = #[v] := by cases v <;> first | rfl | cases hs
theorem cellsK_some {X : AV} {R : Type} {k : List AV → Option R} {r : R} {v : Value} (hx : VR μ X v) (hk : cellsK X none k = some r) : ∃ l, k l = some r ∧ VRs μ l v.cells.toList := by
  have sc : X.scalar = true → k [X] = some r → ∃ l, k l = some r ∧ VRs μ l v.cells.toList := fun hs he =>
    ⟨[X], he, by rw [isScalar_cells (scalar_not hx hs)]; exact .cons hx .nil⟩
  rcases (by cases X <;> first | exact .inl ⟨_, rfl⟩ | exact .inr (fun l h => by cases h) : (∃ l, X = .agg l) ∨ ∀ l, X ≠ .agg l) with ⟨l, rfl⟩ | hn
  · simp only [VR] at hx; obtain ⟨cs, rfl, hx⟩ := hx; exact ⟨l, hk, hx⟩
  · have hk' : cnd X.scalar (k [X]) none = some r := by cases X <;> first | exact hk | exact absurd rfl (hn _)
    exact sc (cnd_inv hk').1 (cnd_inv hk').2
theorem ofV_cells (v : Value) : VRs μ (ofV v).cells v.cells.toList := by
  have hv := ofV_sound μ v
  cases v with
  | agg cs => obtain ⟨l⟩ := cs; simp only [ofV]; exact ofVs_sound μ l
  | tuple cs => obtain ⟨l⟩ := cs; simp only [ofV]; exact .cons (by simpa only [ofV] using hv) .nil
  | bool b => exact .cons hv .nil
  | int k n => cases n <;> exact .cons hv .nil
  | pointer p => cases p <;> exact .cons hv .nil
  | slice p n c => cases p <;> cases n <;> cases c <;> exact .cons hv .nil
  | map p => cases p <;> exact .cons hv .nil
  | func f a b => exact .cons hv .nil
  | _ => exact .cons hv .nil
def PsR (ρ : Operand → Value) (q : Operand → Opd) (places : Nat → Option (Nat × Nat)) (ps : List (Nat × Operand)) (l : List (Nat × Nat × Opd)) : Prop := partsP q places ps = some l
theorem putAt_sound {cells l : List AV} {cs vs : List Value} {off : Nat} (h1 : VRs μ cells cs) (h2 : VRs μ l vs) : VRs μ (putAt cells off l) (cs.take off ++ vs ++ cs.drop (off + vs.length)) := by
  unfold putAt
  rw [h2.length]
  exact ((h1.take off).append h2).append (h1.drop _)
theorem foldl_zip : ∀ (vs : List Value) (cs : Array Value) (off i : Nat), off + i + vs.length ≤ cs.size →
    ((vs.zipIdx i).foldl (fun (cs : Array Value) (p : Value × Nat) => cs.setIfInBounds (off + p.2) p.1) cs).toList = cs.toList.take (off + i) ++ vs ++ cs.toList.drop (off + i + vs.length)
  | [], cs, off, i, hh => by simp
  | v :: vs, cs, off, i, hh => by
    simp only [List.zipIdx_cons, List.foldl_cons, List.length_cons] at hh ⊢
    rw [foldl_zip vs _ off (i + 1) (by simp; omega)]
    simp only [Array.toList_setIfInBounds]
    have e1 : (cs.toList.set (off + i) v).take (off + (i + 1)) = cs.toList.take (off + i) ++ [v] := by
      rw [show off + (i + 1) = (off + i) + 1 by omega, List.take_succ_eq_append_getElem (by simp; omega)]
      simp [List.take_set_of_le]
    rw [e1, List.drop_set_of_lt (by omega), show off + (i + 1) + vs.length = off + i + (vs.length + 1) by omega]
    simp
theorem fill_sound {places : Nat → Option (Nat × Nat)} (hq : ∀ x, VR μ (getO (q x) L) (ρ x)) : ∀ (ps : List (Nat × Operand)) (l : List (Nat × Nat × Opd)) (cells r : List AV) (cs : Array Value), partsP q places ps = some l →
    fillF L cells l = some r → VRs μ cells cs.toList → ∃ cs', Instr.fill places cs (ps.map fun p => (p.1, ρ p.2)) = some cs' ∧ VRs μ r cs'.toList
  | [], l, cells, r, cs, hp, hf, hc => by
    cases hp; cases hf
    exact ⟨cs, rfl, hc⟩
  | (i, o) :: ps, l, cells, r, cs, hp, hf, hc => by
    unfold partsP at hp
    split at hp
    · rename_i off n m h1 h2
      cases hp
      unfold fillF at hf
      obtain ⟨vs, hf, hvs⟩ := cellsK_some (hq o) hf
      obtain ⟨g1, hf⟩ := cnd_inv hf
      obtain ⟨g2, hf⟩ := cnd_inv hf
      have g1 := Nat.eq_of_beq_eq_true g1
      have g2 := Nat.le_of_ble_eq_true g2
      have s1 : (ρ o).cells.size = n := by have := hvs.length; simp at this; omega
      have s2 : cells.length = cs.size := by have := hc.length; simpa using this
      have g2' : off + n ≤ cells.length := g2
      have hz := foldl_zip (ρ o).cells.toList cs off 0 (by simp; omega)
      obtain ⟨cs', e1, e2⟩ := fill_sound hq ps m _ r ((ρ o).cells.zipIdx.foldl (fun cs (c, j) => cs.setIfInBounds (off + j) c) cs) h2 hf (by
        rw [← Array.foldl_toList, Array.toList_zipIdx]
        have hz' : ((ρ o).cells.toList.zipIdx.foldl (fun (cs : Array Value) (p : Value × Nat) => match p with | (c, j) => cs.setIfInBounds (off + j) c) cs).toList = _ := hz
        rw [hz']
        exact putAt_sound hc hvs)
      refine ⟨cs', ?_, e2⟩
      simp only [List.map_cons, Instr.fill, h1]
      rw [if_neg (by simp; omega)]
      exact e1
    · cases hp
include hE in
theorem run_places (fs : Array Field) (hs : (fs.toList.all fun f => (E.size f.type).isSome) = true) :
    (fs.mapM (fun f => do pure (f.offset, ← sizeOf f.type)) : Sem (Array (Nat × Nat))).run P w = .ok (fs.map fun f => (f.offset, (E.size f.type).getD 0)) w := by
  obtain ⟨fs⟩ := fs
  simp only [List.mapM_toArray, List.map_toArray, Sem.run_map]
  have main : ∀ l : List Field, (l.all fun f => (E.size f.type).isSome) = true → (l.mapM (fun f => do pure (f.offset, ← sizeOf f.type)) : Sem (List (Nat × Nat))).run P w = .ok (l.map fun f => (f.offset, (E.size f.type).getD 0)) w := by
    intro l
    induction l with
    | nil => intro _; simp
    | cons f l ih =>
      intro hh
      simp only [List.all_cons, Bool.and_eq_true] at hh
      obtain ⟨n, hn⟩ := Option.isSome_iff_exists.1 hh.1
      simp only [List.mapM_cons, Sem.run_bind, hE.runSize hn, Result.andThen_ok, Sem.run_pure, ih hh.2, List.map_cons, hn, Option.getD_some]
  rw [main fs hs]
  rfl
include hE hq in
theorem p_build {t : TypeId} {ps : Array (Nat × Operand)} (hev : (buildP q E t ps.toList).ev E h L = some a) : Gives P ρ w μ ⟨d, .build t ps, ty, pos, af, gd⟩ a := by
  unfold buildP at hev
  split at hev
  · rename_i z fs hz hu
    cases hall : fs.toList.all fun f => (E.size f.type).isSome with
    | false => rw [hall] at hev; cases hev
    | true =>
      rw [hall] at hev
      simp only [cond_true] at hev
      split at hev
      · rename_i l hl
        obtain ⟨r, hf, hev⟩ := opt_inv (show opt (fillF L z.cells l) none (fun l => some (AV.agg l)) = some a from hev)
        cases hev
        obtain ⟨zv, hzv, rfl⟩ := hE.runZero hz w
        obtain ⟨cs', e1, e2⟩ := fill_sound hq ps.toList l _ r zv.cells hl hf (ofV_cells zv)
        refine ⟨.agg cs', run_val (s := Instr.build t (ps.map fun (i, x) => (i, ρ x))) ?_, by simp only [VR]; exact ⟨_, rfl, e2⟩⟩
        have e3 : Instr.fill (fun i => (fs.map fun f => (f.offset, (E.size f.type).getD 0))[i]?) zv.cells (ps.map fun (i, x) => (i, ρ x)).toList = some cs' := by
          rw [Array.toList_map]
          have ef : (fun i => (fs.map fun f => (f.offset, (E.size f.type).getD 0))[i]?) = fplace E fs.toList := by
            funext i
            simp only [fplace, Array.getElem?_map, Array.getElem?_toList]
            cases hf : fs[i]? with
            | none => rfl
            | some f =>
              have hm : f ∈ fs.toList := by rw [Array.mem_toList_iff]; exact Array.mem_of_getElem? hf
              have := List.all_eq_true.1 hall f hm
              obtain ⟨n, hn⟩ := Option.isSome_iff_exists.1 this
              simp only [Option.map_some, hn, Option.getD_some]
          rw [ef]
          exact e1
        simp only [Instr.build, Sem.run_bind, hzv, Result.andThen_ok, hE.runUnd hu, run_places hE fs hall, e3, Sem.run_pure]
      · cases hev
  · rename_i z n el hz hu
    split at hev
    · rename_i n hn
      split at hev
      · rename_i l hl
        obtain ⟨r, hf, hev⟩ := opt_inv (show opt (fillF L z.cells l) none (fun l => some (AV.agg l)) = some a from hev)
        cases hev
        obtain ⟨zv, hzv, rfl⟩ := hE.runZero hz w
        obtain ⟨cs', e1, e2⟩ := fill_sound hq ps.toList l _ r zv.cells hl hf (ofV_cells zv)
        refine ⟨.agg cs', run_val (s := Instr.build t (ps.map fun (i, x) => (i, ρ x))) ?_, by simp only [VR]; exact ⟨_, rfl, e2⟩⟩
        have e3 : (ps.map fun (i, x) => (i, ρ x)).toList = ps.toList.map fun p => (p.1, ρ p.2) := by rw [Array.toList_map]
        simp only [Instr.build, Sem.run_bind, hzv, Result.andThen_ok, hE.runUnd hu, hE.runSize hn, e3, e1, Sem.run_pure]
      · cases hev
    · cases hev
  · cases hev
/-! ## strings of numbers, of bytes; entries of a map -/
include hE hq in
theorem p_convS {s t : TypeId} {x : Operand} {ds : TypeDesc} (h1 : E.und s = some ds) (hn : ∀ e, ds ≠ .slice e) (h2 : E.und t = some .string) (hev : xConvS (q x) h L = some a) :
    Gives P ρ w μ ⟨d, .convert s t x, ty, pos, af, gd⟩ a := by
  have hx := hq x
  unfold xConvS at hev
  split at hev
  · rename_i u e
    rw [e] at hx; cases hev
    simp only [VR] at hx
    obtain ⟨b, hx, hb⟩ := hx
    refine ⟨.string b, run_val (s := convert s t (ρ x)) ?_, by simp only [VR]; exact ⟨b, rfl, hb⟩⟩
    rw [hx]
    simp only [convert, Sem.run_bind, hE.runUnd h1, hE.runUnd h2, Result.andThen_ok]
    cases ds <;> first | rfl | exact absurd rfl (hn _)
  · rename_i k n e
    rw [e] at hx; cases hev
    simp only [VR] at hx
    refine ⟨.string (Utf8.encode n), run_val (s := convert s t (ρ x)) ?_, by simp only [VR]; exact ⟨_, rfl, rfl⟩⟩
    rw [hx]
    simp only [convert, Sem.run_bind, hE.runUnd h1, hE.runUnd h2, Result.andThen_ok]
    cases ds <;> first | rfl | exact absurd rfl (hn _)
  · cases hev
theorem allBytes_sound : ∀ (l : List AV) (s : List Nat) (vs : List Value), allBytes l = some s → VRs μ l vs → (vs = s.map fun n => .int .u8 (n : Nat)) ∧ ∀ n ∈ s, n < 256
  | [], s, vs, hb, hv => by cases hb; rw [hv.nil_inv]; exact ⟨rfl, by simp⟩
  | x :: l, s, vs, hb, hv => by
    obtain ⟨v, r, rfl, h1, h2⟩ := hv.cons_inv
    unfold allBytes at hb
    split at hb
    · rename_i heq; cases heq
    · rename_i n l' heq
      cases heq
      obtain ⟨hn, hb⟩ := cnd_inv hb
      split at hb
      · rename_i m hm
        cases hb
        simp only [VR] at h1
        subst h1
        obtain ⟨e1, e2⟩ := allBytes_sound _ _ _ hm h2
        rw [e1]
        refine ⟨rfl, ?_⟩
        intro k hk
        rcases List.mem_cons.1 hk with rfl | hk
        · exact Nat.lt_of_lt_of_le (Nat.lt_succ_self _) (Nat.le_of_ble_eq_true hn)
        · exact e2 k hk
      · cases hb
    · cases hb
theorem allU8_sound {μ : Mu} : ∀ (l : List AV) (vs : List Value), allU8 l = true → VRs μ l vs → ∃ s : List Nat, (vs = s.map fun n => .int .u8 (n : Nat)) ∧ ∀ n ∈ s, n < 256
  | [], vs, hb, hv => by rw [hv.nil_inv]; exact ⟨[], rfl, by simp⟩
  | x :: l, vs, hb, hv => by
    obtain ⟨v, r, rfl, h1, h2⟩ := hv.cons_inv
    unfold allU8 at hb
    split at hb
    · rename_i heq; cases heq
    · rename_i n l' heq
      cases heq
      cases hn : Nat.blt n 256 with
      | false => rw [hn] at hb; cases hb
      | true =>
        rw [hn] at hb
        obtain ⟨s, e1, e2⟩ := allU8_sound l r hb h2
        simp only [VR] at h1
        subst h1
        refine ⟨n :: s, by rw [e1]; rfl, fun k hk => ?_⟩
        rcases List.mem_cons.1 hk with rfl | hk
        · exact Nat.lt_of_lt_of_le (Nat.lt_succ_self _) (Nat.le_of_ble_eq_true hn)
        · exact e2 k hk
    · rename_i f c lo hi l' heq
      cases heq
      obtain ⟨s, e1, e2⟩ := allU8_sound l r hb h2
      simp only [VR] at h1
      obtain ⟨rfl, _, _⟩ := h1
      rw [wrap_u8_eq]
      refine ⟨((Val.n f + c) % 256).toNat :: s, ?_, fun k hk => ?_⟩
      · rw [e1, List.map_cons]
        congr 2
        omega
      · rcases List.mem_cons.1 hk with rfl | hk
        · omega
        · exact e2 k hk
    · cases hb
theorem foldl_bytes : ∀ (s : List Nat) (b : ByteArray), ((s.map fun n : Nat => (n : Int)).foldl (fun r n => r.push (UInt8.ofNat n.toNat)) b).data.toList = b.data.toList ++ s.map UInt8.ofNat
  | [], b => by simp
  | n :: s, b => by
    simp only [List.map_cons, List.foldl_cons]
    rw [foldl_bytes s]
    simp [ByteArray.push]
include hE hH hq in
theorem p_b2s {s t e : TypeId} {x : Operand} (h1 : E.und s = some (.slice e)) (h0 : isU8 E e = true) (h2 : E.und t = some .string) (hev : xB2s (q x) h L = some a) :
    Gives P ρ w μ ⟨d, .convert s t x, ty, pos, af, gd⟩ a := by
  have hx := hq x
  have he : E.und e = some (.int .u8) := by
    unfold isU8 at h0
    split at h0
    · assumption
    · cases h0
  unfold xB2s at hev
  split at hev
  · rename_i eq
    rw [eq] at hx; cases hev
    simp only [VR] at hx
    refine ⟨.string .empty, run_val (s := convert s t (ρ x)) ?_, by simp only [VR]; exact ⟨_, rfl, rfl⟩⟩
    rw [hx, run_convert_bytes_string w s t e none 0 0 (hE.und h1) (hE.und he) (hE.und h2)]
    rfl
  · rename_i f g o len cp ex eq
    rw [eq] at hx
    split at hev
    · rename_i l hl
      split at hev
      · rename_i str hb
        cases hev
        simp only [VR] at hx
        obtain ⟨b, st, n, y, c, hm, hx, _, _, _, hpl⟩ := hx
        refine ⟨.string ((str.map fun n : Nat => (n : Int)).foldl (fun r n => r.push (UInt8.ofNat n.toNat)) ByteArray.empty), run_val (s := convert s t (ρ x)) ?_, ?_⟩
        · rw [hx, run_convert_bytes_string w s t e _ _ _ (hE.und h1) (hE.und he) (hE.und h2)]
          refine run_bytesToString w _ _ _ _ ?_
          rcases hpl with ⟨hs, rfl, _⟩ | ⟨rfl, _⟩
          · obtain ⟨hlen, vs, hvs, hcell⟩ := getCells_sound hH hm hs hl
            obtain ⟨e1, e2⟩ := allBytes_sound _ _ _ hb hvs
            have hrun := run_loadCells_list (P := P) w ⟨b, o - st, none⟩ vs (fun j v hj => by
              have := hcell j v hj
              unfold Addr.add
              split
              · rename_i h0; subst h0; simpa using this
              · exact this)
            rw [← hvs.length, hlen] at hrun
            rw [hrun, e1]
            simp
          · have : l = [] := by
              have hl' : (some [] : Option (List AV)) = some l := hl
              cases hl'; rfl
            subst this
            cases hb
            rfl
        · simp only [VR]
          refine ⟨_, rfl, ?_⟩
          rw [foldl_bytes]
          have e2 : ∀ n ∈ str, n < 256 := by
            have key : ∀ (l : List AV) (s : List Nat), allBytes l = some s → ∀ n ∈ s, n < 256 := by
              intro l
              induction l with
              | nil => intro s hh; cases hh; simp
              | cons x l ih =>
                intro s hh
                unfold allBytes at hh
                split at hh
                · rename_i heq; cases heq
                · rename_i n l' heq
                  cases heq
                  obtain ⟨hn, hh⟩ := cnd_inv hh
                  split at hh
                  · rename_i m hm
                    cases hh
                    intro k hk
                    rcases List.mem_cons.1 hk with rfl | hk
                    · exact Nat.lt_of_lt_of_le (Nat.lt_succ_self _) (Nat.le_of_ble_eq_true hn)
                    · exact ih _ hm k hk
                  · cases hh
                · cases hh
            exact key _ _ hb
          simp only [List.map_append, List.map_map]
          show [] ++ _ = _
          rw [List.nil_append]
          conv => rhs; rw [← List.map_id str]
          refine List.map_congr_left fun n hn => ?_
          have := e2 n hn
          simp [Function.comp]; omega
      · rename_i hb
        obtain ⟨hu, hev⟩ := cnd_inv hev
        cases hev
        simp only [VR] at hx
        obtain ⟨b, st, n, y, c, hm, hx, _, _, _, hpl⟩ := hx
        rcases hpl with ⟨hs, rfl, _⟩ | ⟨rfl, _⟩
        · obtain ⟨hlen, vs, hvs, hcell⟩ := getCells_sound hH hm hs hl
          obtain ⟨str, e1, e2⟩ := allU8_sound _ _ hu hvs
          refine ⟨.string ((str.map fun n : Nat => (n : Int)).foldl (fun r n => r.push (UInt8.ofNat n.toNat)) ByteArray.empty), run_val (s := convert s t (ρ x)) ?_, ?_⟩
          · rw [hx, run_convert_bytes_string w s t e _ _ _ (hE.und h1) (hE.und he) (hE.und h2)]
            refine run_bytesToString w _ _ _ _ ?_
            have hrun := run_loadCells_list (P := P) w ⟨b, o - st, none⟩ vs (fun j v hj => by
              have := hcell j v hj
              unfold Addr.add
              split
              · rename_i h0; subst h0; simpa using this
              · exact this)
            rw [← hvs.length, hlen] at hrun
            rw [hrun, e1]
            simp
          · simp only [VR]
            refine ⟨_, rfl, ?_⟩
            rw [foldl_bytes]
            show VRs μ l (List.map _ ([] ++ _))
            rw [List.nil_append, List.map_map, List.map_congr_left (g := fun n : Nat => Value.int .u8 (n : Int))]
            · rw [e1] at hvs; exact hvs
            · intro n hn
              have := e2 n hn
              simp; omega
        · have hl' : (some [] : Option (List AV)) = some l := hl
          cases hl'
          cases hb
    · cases hev
  · cases hev
theorem lastN_eq : ∀ (l : List Nat), lastN l = l.getLast?
  | [] => rfl
  | [a] => rfl
  | a :: b :: l => by
    show lastN (b :: l) = _
    rw [lastN_eq (b :: l)]; simp
theorem findB_sound {b : Nat} : ∀ (es : List En) (xs : List MapEntry) (e : En), EnsR μ es xs → findB b es = some e → ∃ x, xs.find? (·.born == b) = some x ∧ EnR μ e x
  | [], xs, e, _, hf => by cases hf
  | y :: es, xs, e, hes, hf => by
    simp only [EnsR] at hes
    obtain ⟨x, r, rfl, h1, h2⟩ := hes
    unfold findB at hf
    rw [cnd_eq] at hf
    split at hf
    · rename_i hb
      cases hf
      have := Nat.eq_of_beq_eq_true hb
      refine ⟨x, ?_, h1⟩
      rw [List.find?_cons_of_pos]; simp [← h1.2.2, this]
    · rename_i hb
      obtain ⟨x', g1, g2⟩ := findB_sound es r e h2 hf
      refine ⟨x', ?_, g2⟩
      rw [List.find?_cons_of_neg]; exact g1
      simp [← h1.2.2]; intro hh; rw [hh] at hb; simp at hb
include hH hq in
theorem p_entry {x : Operand} (hev : xEntry (q x) h L = some a) : Gives P ρ w μ ⟨d, .entry x, ty, pos, af, gd⟩ a := by
  obtain ⟨f, g, o, hp, hev⟩ := asPtr_some hev
  obtain ⟨ho, hev⟩ := cnd_inv hev
  have ho := Nat.eq_of_beq_eq_true ho
  subst ho
  obtain ⟨b, s, n, hm, hs, hx⟩ := q_ptr hq hp
  split at hev
  · rename_i m since seen stepped hob
    obtain ⟨es, clock, hmo, hev⟩ := asMapO_some hev
    obtain ⟨hcl, hev⟩ := cnd_inv hev
    have hcl := Nat.eq_of_beq_eq_true hcl
    obtain ⟨bn, hbn, hev⟩ := opt_inv hev
    obtain ⟨e, he, hev⟩ := opt_inv hev
    cases hev
    have hO := hH.obj f
    rw [hob] at hO
    obtain ⟨hO1, hO2⟩ := hO
    have hg : g = 0 := by
      rcases Nat.eq_zero_or_pos g with h0 | h0
      · exact h0
      · rw [hO1 g h0] at hm; cases hm
    subst hg
    obtain ⟨_, hs0, m', hb, c, s2, n2, hm2, rfl⟩ := hO2 b s n hm
    subst hs0
    obtain ⟨_, es', hes', hR⟩ := hH.mapOb hmo hm2
    obtain ⟨y, hy1, hy2⟩ := findB_sound es es'.toList e hR he
    refine ⟨.tuple #[y.key, y.val], run_val (s := Instr.entry (ρ x)) ?_, by simp only [VR]; exact ⟨_, rfl, .cons hy2.1 (.cons hy2.2.1 .nil)⟩⟩
    rw [hx]
    have g1 : (getObj b).run P w = .ok (.mapIter (some c) since seen.toArray stepped) w := by
      simp only [getObj, Sem.run, hb]
    have g2 : seen.toArray.back? = some bn := by rw [List.back?_toArray, ← lastN_eq]; exact hbn
    have g3 : es'.find? (·.born == bn) = some y := by rw [← Array.find?_toList]; exact hy1
    simp only [Instr.entry, Sem.run_bind, g1, Result.andThen_ok, g2, MapKept.run_getObj_map hes', hcl, bne_self_eq_false, Bool.false_eq_true, if_false, g3, Sem.run_pure]
  · cases hev
end
end Go.Ev

namespace Go.Ev
set_option linter.unusedVariables false
set_option linter.unusedSectionVars false
set_option linter.unusedSimpArgs false
variable [Val] [Fk]
theorem goInt_eq (n : Nat) : goInt n = .int .i64 (n : Int) := rfl
theorem nat_of {x : Int} (h : 0 ≤ x) : ∃ n : Nat, x = (n : Int) := ⟨x.toNat, by omega⟩
theorem kZne {q : Key} (h : bnot (Key.beq q kZ) = true) : nz q = Val.n q := by
  cases hb : Key.beq q kZ with
  | true => rw [hb] at h; cases h
  | false => exact nz_ne hb
section
variable {E : Env} {P : Program} (hE : EnvOk E P) {B : Nat} {μ : Mu} {h : Hp} {w : World} (hH : HR B μ h w)
  {L : Lo} {ρ : Operand → Value} {q : Operand → Opd} (hq : ∀ x, VR μ (getO (q x) L) (ρ x))
variable {d : Option Tmp} {ty : TypeId} {pos : String} {af : Array Edge} {gd : Option (Nat × Bool)} {a : AV}
include hq in
theorem q_nsl {x : Operand} {f : Key} {g sz : Nat} {k : Key} {c : Int} {q' : Key} {d m : Int} (e : getO (q x) L = .nsl f g sz k c q' d m) :
    ∃ base len cp, ρ x = .slice base len cp ∧ len ≤ cp ∧ nz q' + d = nz k + c + len ∧ nz q' + m ≤ nz k + c + cp ∧
      (cp = 0 ∨ ∃ b s n, ∃ r : Nat, μ f g = some (b, s, n) ∧ nz k + c = r ∧ base = some ⟨b, s + r * sz, none⟩ ∧ s + (r + cp) * sz ≤ n) := by
  have := hq x; rw [e] at this; simpa only [VR] using this
include hq in
theorem q_nix {x : Operand} {f : Key} {g sz : Nat} {k : Key} {c : Int} {o : Nat} (e : getO (q x) L = .nix f g sz k c o) :
    ∃ b s n, ∃ r : Nat, μ f g = some (b, s, n) ∧ nz k + c = r ∧ ρ x = .pointer (some ⟨b, s + r * sz + o, none⟩) := by
  have := hq x; rw [e] at this; simpa only [VR] using this
include hE hH hq in
theorem p_lenSlX {xs : Array Operand} {ats : Array TypeId} {x : Operand} {l : List Operand} {t el : TypeId} {ts : List TypeId} (hx : xs.toList = x :: l) (ht : ats.toList = t :: ts)
    (hu : E.und t = some (.slice el)) (hev : xLenSlX (q x) h L = some a) : Gives P ρ w μ ⟨d, .call { callee := .builtin .len, args := xs, argTypes := ats }, ty, pos, af, gd⟩ a := by
  rcases asNsl_some hev with ⟨f, g, sz, k, c, q', d', m, e, hev⟩ | ⟨_, hev⟩
  · obtain ⟨base, len, cp, ex, h1, h2, h3, h4⟩ := q_nsl hq e
    refine ⟨goInt len, run_builtin rfl (s := Builtin.len_ ats ty (xs.map ρ)) ?_, ?_⟩
    · simp only [Builtin.len_, head_args hx, head_types ht, Sem.run_bind, hE.runUnd hu, Result.andThen_ok, ex]; rfl
    · unfold lenN at hev
      cases hd : disX k c q' d' with
      | some n =>
        rw [hd] at hev
        cases hev
        have := disX_sound hH.fk hd
        simp only [VR, goInt_eq]
        congr 1; omega
      | none =>
        rw [hd] at hev
        obtain ⟨h5, hev⟩ := cnd_inv (show cnd _ _ none = some a from hev)
        obtain ⟨h5, h6⟩ := cnd_true_inv h5
        obtain ⟨_, _, h5⟩ := at0_sound h5
        obtain ⟨p, hr, hev⟩ := opt_inv hev
        obtain ⟨hfit, hev⟩ := cnd_inv hev
        cases hev
        have := relOf_sound hH.fk hr
        rw [nz_kZ] at this
        have hn := kZne h6
        simp only [iadd_eq] at hfit ⊢
        simp only [VR, goInt_eq]
        rw [fitK_wrap hfit (by omega) (by omega)]
        exact ⟨by congr 1; omega, by omega, by omega⟩
  · exact p_lenSl hE hq hx ht hu hev
include hE hH hq in
theorem p_idxSlX {t el : TypeId} {n : Nat} {x ix : Operand} (hu : E.und t = some (.slice el)) (hsz : E.size el = some n) (hev : xIdxSlX n (q x) (q ix) h L = some a) :
    Gives P ρ w μ ⟨d, .indexAddr t x ix, ty, pos, af, gd⟩ a := by
  rcases asNsl_some hev with ⟨f, g, sz, k, c, q', d', m, e, hev⟩ | ⟨_, hev⟩
  · obtain ⟨base, len, cp, ex, h1, h2, h3, h4⟩ := q_nsl hq e
    obtain ⟨ak, b', ei, hev⟩ := exA_sound (hq ix) hev
    unfold idxN at hev
    replace hev := cnd_inv hev
    obtain ⟨hz, hev⟩ := hev
    obtain rfl := Nat.eq_of_beq_eq_true hz
    -- the run, at a place within
    have fin : ∀ (r i : Nat) (b s nn : Nat), nz ak + b' = (i : Int) → i < len → base = some ⟨b, s + r * n, none⟩ → ∀ av, VR μ av (.pointer (some ⟨b, s + (r + i) * n, none⟩)) →
        a = av → Gives P ρ w μ ⟨d, .indexAddr t x ix, ty, pos, af, gd⟩ a := by
      rintro r i b s nn e1 e2 e3 av e4 rfl
      refine ⟨_, run_val (s := Instr.indexAt t (ρ x) (ρ ix)) ?_, e4⟩
      rw [ex, ei, e3, e1]
      simp only [Instr.indexAt, asIntOf, Sem.run_bind, Sem.run_pure, Result.andThen_ok, hE.runUnd hu, hE.runSize hsz, Sem.run_ite]
      rw [if_pos ⟨by omega, by omega⟩]
      simp only [Sem.run_bind, Result.andThen_ok, Sem.run_pure, hE.runSize hsz, add_zero_spot, Int.toNat_natCast]
      rw [show s + r * n + i * n = s + (r + i) * n from by rw [Nat.add_mul]; omega]
    cases h0 : at0 k c with
    | true =>
      rw [h0] at hev
      obtain ⟨_, _, h5⟩ := at0_sound h0
      obtain ⟨h6, hev⟩ := cnd_inv (show cnd _ _ none = some a from hev)
      obtain ⟨h7, hev⟩ := cnd_inv hev
      have h6 := leX_sound hH.fk h6
      have h7 := leX_sound hH.fk h7
      rw [nz_kZ] at h6
      rw [iadd_eq] at h7
      obtain ⟨i, hi⟩ := nat_of (show 0 ≤ nz ak + b' from by omega)
      have hlt : i < len := by omega
      rcases h4 with h4 | ⟨b, s, nn, r, hm, hr, hb, hle⟩
      · omega
      · refine fin r i b s nn hi hlt hb (.nix f g n ak b' 0) ?_ (by cases hev; rfl)
        have hr0 : r = 0 := by omega
        subst hr0
        simp only [VR]
        exact ⟨b, s, nn, i, hm, hi, by simp⟩
    | false =>
      rw [h0] at hev
      replace hev := cnd_inv (show cnd _ _ none = some a from hev)
      obtain ⟨h5, hev⟩ := hev
      replace hev := cnd_inv hev
      obtain ⟨h6, hev⟩ := hev
      replace hev := cnd_inv hev
      obtain ⟨h7, hev⟩ := hev
      obtain rfl := Key.beq_eq h5
      rw [ile_eq] at h6
      have h6 := of_decide_eq_true h6
      have h7 := leX_sound hH.fk h7
      simp only [iadd_eq] at h7
      obtain ⟨i, hi⟩ := nat_of h6
      have hlt : i < len := by omega
      rcases h4 with h4 | ⟨b, s, nn, r, hm, hr, hb, hle⟩
      · omega
      · refine fin r i b s nn (by rw [nz_kZ]; omega) hlt hb (.nix f g n k (c + b') 0) ?_ (by rw [iadd_eq] at hev; cases hev; rfl)
        simp only [VR]
        exact ⟨b, s, nn, r + i, hm, by omega, by simp⟩
  · exact p_idxSl (h := h) hE hq hu hsz hev
include hE hH hq in
theorem p_addOffX {t : TypeId} {i : Nat} {x : Operand} {fs : List Field} {off n : Nat} (ht : fieldsOf E t = some fs) (hf : fplace E fs i = some (off, n + 1))
    (hev : xAddOffX off (q x) h L = some a) : Gives P ρ w μ ⟨d, .fieldAddr t x i, ty, pos, af, gd⟩ a := by
  rcases asNix_some hev with ⟨f, g, sz, k, c, o, e, hev⟩ | hev
  · obtain ⟨b, s, m, r, hm, hr, hx⟩ := q_nix hq e
    cases hev
    unfold fieldsOf at ht
    split at ht
    · rename_i fa hu
      simp only [Option.some.injEq] at ht
      subst ht
      unfold fplace at hf
      split at hf
      · rename_i fd hfd
        split at hf
        · rename_i kk hk
          simp only [Option.some.injEq, Prod.mk.injEq] at hf
          obtain ⟨rfl, rfl⟩ := hf
          refine ⟨.pointer (some ⟨b, s + r * sz + (o + fd.offset), none⟩), run_val (s := Instr.fieldAt t (ρ x) i) ?_, ?_⟩
          · rw [hx]
            have hfa : fa[i]? = some fd := by rw [← Array.getElem?_toList]; exact hfd
            simp only [Instr.fieldAt, Sem.run_bind, hE.runUnd hu, Result.andThen_ok, hfa, Instr.sureAddr, Sem.run_pure, fieldPlace, hE.runSize hk, Sem.run_ite]
            simp only [Nat.add_eq_zero_iff, Nat.one_ne_zero, and_false, if_false, Result.andThen_ok]
            unfold Addr.add
            split
            · rename_i h0; rw [h0]; rfl
            · simp only [Result.ok.injEq, Value.pointer.injEq, Option.some.injEq, Addr.mk.injEq, true_and, and_true]
              omega
          · simp only [VR]
            exact ⟨b, s, m, r, hm, hr, rfl⟩
        · cases hf
      · cases hf
    · cases ht
  · exact p_addOff (h := h) hE hq ht hf hev
include hq in
theorem p_nilckX {x : Operand} (hev : xNilckX (q x) h L = some a) : Gives P ρ w μ ⟨d, .nilCheck x, ty, pos, af, gd⟩ a := by
  rcases asNix_some hev with ⟨f, g, sz, k, c, o, e, hev⟩ | hev
  · obtain ⟨b, s, m, r, hm, hr, hx⟩ := q_nix hq e
    have hxx := hq x
    rw [e] at hxx
    cases hev
    refine ⟨ρ x, ?_, hxx⟩
    show (match ρ x with | .pointer none | .nilIface | .nilFunc => runtimePanic .nilDeref | .func (.method name) first captured => _ | x => pure (.value x) : Sem Next).run P w = _
    rw [hx]; rfl
  · exact p_nilck (h := h) hq hev
include hE hH hq in
theorem p_load1X {t : TypeId} {n : Nat} {x : Operand} (ht : E.szA t = some (n, false)) (hev : xLoad1X (q x) h L = some a) : Gives P ρ w μ ⟨d, .load t x, ty, pos, af, gd⟩ a := by
  rcases asNix_some hev with ⟨f, g, sz, k, c, o, e, hev⟩ | hev
  · obtain ⟨b, s, m, r, hm, hr, hx⟩ := q_nix hq e
    obtain ⟨l, hl, hev⟩ := opt_inv hev
    obtain ⟨e1, cs, e', fz, hb, hcs, hrow⟩ := rowN_sound hH hm hr hl
    rw [nthA_eq] at hev
    obtain ⟨v, hv, hvr⟩ := hrow o a hev
    obtain ⟨ds, hu, hsz, hag⟩ := szA_some ht
    refine ⟨v, run_val (s := Instr.loadAt t (ρ x)) ?_, hvr⟩
    rw [hx]
    simp only [Instr.loadAt, Instr.sureAddr, loadVar, Sem.run_bind, Sem.run_pure, Result.andThen_ok, hE.runAgg hu, hag, Bool.false_eq_true, if_false, run_load, cell?_of_block hb, hv]
  · exact p_load1 hE hH hq ht hev
include hE hH hq in
theorem p_loadNX {t : TypeId} {n : Nat} {x : Operand} (ht : E.szA t = some (n, true)) (hev : xLoadNX n (q x) h L = some a) : Gives P ρ w μ ⟨d, .load t x, ty, pos, af, gd⟩ a := by
  rcases asNix_some hev with ⟨f, g, sz, k, c, o, e, hev⟩ | hev
  · obtain ⟨b, s, m, r, hm, hr, hx⟩ := q_nix hq e
    obtain ⟨l, hl, hev⟩ := opt_inv hev
    obtain ⟨e1, cs, e', fz, hb, hcs, hrow⟩ := rowN_sound hH hm hr hl
    obtain ⟨hle, hev⟩ := cnd_inv hev
    have hle : o + n ≤ l.length := Nat.le_of_ble_eq_true hle
    cases hev
    obtain ⟨ds, hu, hsz, hag⟩ := szA_some ht
    obtain ⟨vs, hvs, hcell⟩ := vals_of' (μ := μ) (cs := cs) ((l.drop o).take n) (s + r * sz + o) (fun j a' hj => by
      rw [List.getElem?_take, List.getElem?_drop] at hj
      split at hj
      · obtain ⟨v, h1, h2⟩ := hrow _ a' hj
        exact ⟨v, by rw [← h1]; congr 1; omega, h2⟩
      · cases hj)
    have hlen : vs.length = n := by rw [← hvs.length]; simp; omega
    refine ⟨.agg vs.toArray, run_val (s := Instr.loadAt t (ρ x)) ?_, ?_⟩
    · rw [hx]
      have hrun := run_loadCells_list (P := P) w ⟨b, s + r * sz + o, none⟩ vs (fun j v hj => by
        rw [add_zero_spot, cell?_of_block hb]; exact hcell j v hj)
      rw [hlen] at hrun
      simp only [Instr.loadAt, Instr.sureAddr, loadVar, Sem.run_bind, Sem.run_pure, Result.andThen_ok, hE.runAgg hu, hag, if_true, hE.runSize hsz, hrun]
    · simp only [VR]; exact ⟨_, rfl, by simpa using hvs⟩
  · exact p_loadN hE hH hq ht hev
include hq in
theorem bndN_q {R : Type} {x : Option Operand} {k0 : Key} {c0 : Int} {dflt : Nat} {k : Key → Int → Option R} {r : R} (h0 : nz k0 + c0 = (dflt : Int)) (hh : bndN (x.map q) L k0 c0 none k = some r) :
    ∃ kk cc, k kk cc = some r ∧ ∀ n : Nat, nz kk + cc = (n : Int) → Bd ρ x dflt n := by
  cases x with
  | none => exact ⟨k0, c0, hh, fun n hn => .inl ⟨rfl, by omega⟩⟩
  | some o =>
    obtain ⟨f, c, e1, e2⟩ := exA_sound (hq o) (show exA (getO (q o) L) none k = some r from hh)
    exact ⟨f, c, e2, fun n hn => .inr ⟨o, .i64, rfl, by rw [e1, hn]; rfl⟩⟩
include hE hH hq in
theorem p_sliceSlX {t el : TypeId} {n : Nat} {x : Operand} {lo hi mx : Option Operand} (hu : E.und t = some (.slice el)) (hsz : E.size el = some n) (hn : ¬ (hi = none ∧ mx.isSome = true))
    (hev : xSliceSlX n (q x) (lo.map q) (hi.map q) (mx.map q) h L = some a) : Gives P ρ w μ ⟨d, .slice t x lo hi mx, ty, pos, af, gd⟩ a := by
  rcases asNsl_some hev with ⟨f, g, sz, k, c, q', d', m, e, hev⟩ | ⟨_, hev⟩
  · obtain ⟨base, len, cp, ex, h1, h2, h3, h4⟩ := q_nsl hq e
    replace hev := cnd_inv hev
    obtain ⟨hz, hev⟩ := hev
    obtain rfl := Nat.eq_of_beq_eq_true hz
    replace hev := cnd_inv hev
    obtain ⟨h0, hev⟩ := hev
    obtain ⟨rfl, rfl, h0⟩ := at0_sound h0
    cases mx with
    | some _ => cases hev
    | none =>
      simp only [Option.map_none, opt_none] at hev
      obtain ⟨ak, b1, hev, hb1⟩ := bndN_q hq (dflt := 0) (by rw [nz_kZ]; rfl) hev
      obtain ⟨ak', b2, hev, hb2⟩ := bndN_q hq (dflt := len) (by omega) hev
      obtain ⟨c1, hev⟩ := cnd_inv hev
      obtain ⟨c2, hev⟩ := cnd_inv hev
      obtain ⟨c3, hev⟩ := cnd_inv hev
      have c1 := leX_sound hH.fk c1
      have c2 := leX_sound hH.fk c2
      have c3 := leX_sound hH.fk c3
      rw [nz_kZ] at c1
      obtain ⟨l, hl⟩ := nat_of (show 0 ≤ nz ak + b1 from by omega)
      obtain ⟨hh, hhh⟩ := nat_of (show 0 ≤ nz ak' + b2 from by omega)
      have k1 : l ≤ hh := by omega
      have k2 : hh ≤ cp := by omega
      have hr := run_bounds (P := P) (w := w) (isSl := true) (mx := none) (cap := cp) (hb1 l hl) (hb2 hh hhh) (.inl ⟨rfl, rfl⟩) k1 k2 (Nat.le_refl _) (by simp)
      refine ⟨.slice (if cp = l then base else base.map (·.add (l * n))) (hh - l) (cp - l), run_val (s := Instr.sliceAt t (ρ x) (lo.map ρ) (hi.map ρ) none) ?_, ?_⟩
      · rw [ex]
        simp only [Option.map_none] at hr
        simp only [Instr.sliceAt, Sem.run_bind, hE.runUnd hu, Result.andThen_ok, Instr.slice, hr, hE.runSize hsz, Sem.run_pure]
      · have hm' : ∀ mm, (mm = m ∧ ak' = q' ∨ mm = b2) → nz ak' + mm ≤ nz ak + b1 + ((cp - l : Nat) : Int) := by
          rintro mm (⟨rfl, rfl⟩ | rfl) <;> omega
        have ha : ∃ mm, (mm = m ∧ ak' = q' ∨ mm = b2) ∧ a = .nsl f g n ak b1 ak' b2 mm := by
          cases hb : Key.beq ak' q' with
          | true => rw [hb] at hev; cases hev; exact ⟨m, .inl ⟨rfl, Key.beq_eq hb⟩, rfl⟩
          | false => rw [hb] at hev; cases hev; exact ⟨b2, .inr rfl, rfl⟩
        obtain ⟨mm, hmm, rfl⟩ := ha
        simp only [VR]
        refine ⟨_, _, _, rfl, by omega, by omega, hm' mm hmm, ?_⟩
        by_cases hcl : cp = l
        · exact .inl (by omega)
        · right
          rw [if_neg hcl]
          rcases h4 with h4 | ⟨b, s, nn, r, hm, hr, hb, hle⟩
          · omega
          · have hr0 : r = 0 := by omega
            subst hr0
            refine ⟨b, s, nn, l, hm, hl, ?_, ?_⟩
            · rw [hb]; simp [add_zero_spot]
            · rw [show l + (cp - l) = 0 + cp by omega]; exact hle
  · exact p_sliceSl hE hq hu hsz hn hev
include hq hH in
theorem p_minmaxX {mx : Bool} {xs : Array Operand} {ats : Array TypeId} {x : Operand} {l : List Operand} (hx : xs.toList = x :: l)
    (hev : xMinmaxX mx (q x) (l.map q) h L = some a) : Gives P ρ w μ ⟨d, .call { callee := .builtin (if mx then .max else .min), args := xs, argTypes := ats }, ty, pos, af, gd⟩ a := by
  unfold xMinmaxX at hev
  split at hev
  · rename_i y' hy'
    obtain ⟨y, rfl, rfl⟩ : ∃ y, l = [y] ∧ y' = q y := by
      cases l with
      | nil => cases hy'
      | cons y l =>
        cases l with
        | nil => exact ⟨y, rfl, by simpa using hy'.symm⟩
        | cons z l => cases hy'
    cases hs : cnd (isSx (getO (q x) L)) true (isSx (getO (q y) L)) with
    | false => rw [hs] at hev; exact p_minmax (h := h) hq hx hev
    | true =>
      rw [hs] at hev
      replace hev : exA (getO (q x) L) none (fun a b => exA (getO (q y) L) none fun a' b' =>
            cnd (leX a b a' b') (cnd mx (getO (q y) L) (getO (q x) L)).some (cnd (leX a' b' a b) (cnd mx (getO (q x) L) (getO (q y) L)).some none)) = some a := hev
      obtain ⟨f, c, ex, hev⟩ := exA_sound (hq x) hev
      obtain ⟨f', c', ey, hev⟩ := exA_sound (hq y) hev
      have hl : (xs.map ρ).toList = [ρ x, ρ y] := by simp [hx]
      have key : ∀ b : Bool, (b = true → nz f + c ≤ nz f' + c') → (b = false → nz f' + c' ≤ nz f + c) → a = (if b then (if mx then getO (q y) L else getO (q x) L) else (if mx then getO (q x) L else getO (q y) L)) →
          Gives P ρ w μ ⟨d, .call { callee := .builtin (if mx then .max else .min), args := xs, argTypes := ats }, ty, pos, af, gd⟩ a := by
        intro b hb1 hb2 hab
        have hres : ∃ v, ([ρ y].foldlM (if mx then Builtin.max2 else Builtin.min2) (ρ x)).run P w = .ok v w ∧ VR μ a v := by
          have hqx := hq x
          have hqy := hq y
          rw [ex] at hqx
          rw [ey] at hqy
          refine ⟨if b then (if mx then ρ y else ρ x) else (if mx then ρ x else ρ y), ?_, ?_⟩
          · have one : ((if mx then Builtin.max2 else Builtin.min2) (ρ x) (ρ y)).run P w = .ok (if b then (if mx then ρ y else ρ x) else (if mx then ρ x else ρ y)) w := by
              rw [ex, ey]
              cases mx with
              | true =>
                simp only [if_true, Builtin.max2, Sem.run_pure]
                congr 1
                cases b with
                | true =>
                  have := hb1 rfl
                  by_cases hlt : nz f' + c' > nz f + c
                  · simp [hlt]
                  · have e1 : nz f + c = nz f' + c' := by omega
                    simp [e1]
                | false =>
                  have := hb2 rfl
                  have hnl : ¬ nz f' + c' > nz f + c := by omega
                  simp [hnl]
              | false =>
                simp only [if_false, Bool.false_eq_true, Builtin.min2, Sem.run_pure]
                congr 1
                cases b with
                | true =>
                  have := hb1 rfl
                  have hnl : ¬ nz f' + c' < nz f + c := by omega
                  simp [hnl]
                | false =>
                  have := hb2 rfl
                  by_cases hlt : nz f' + c' < nz f + c
                  · simp [hlt]
                  · have e1 : nz f + c = nz f' + c' := by omega
                    simp [e1]
            simp only [List.foldlM_cons, List.foldlM_nil, Sem.run_bind, one, Result.andThen_ok, Sem.run_pure]
          · rw [hab]
            cases b <;> cases mx <;> simp only [if_true, if_false, Bool.false_eq_true] <;> first | exact hq x | exact hq y
        obtain ⟨v, hv, hvr⟩ := hres
        refine ⟨v, ?_, hvr⟩
        cases mx with
        | true => exact run_builtin rfl (s := Builtin.max_ ats ty (xs.map ρ)) (by simp only [Builtin.max_, hl]; exact hv)
        | false => exact run_builtin rfl (s := Builtin.min_ ats ty (xs.map ρ)) (by simp only [Builtin.min_, hl]; exact hv)
      cases h1 : leX f c f' c' with
      | true =>
        rw [h1] at hev
        refine key true (fun _ => leX_sound hH.fk h1) (fun hh => by cases hh) ?_
        have hev : (cnd mx (getO (q y) L) (getO (q x) L)).some = some a := hev
        rw [AV.some_eq] at hev
        cases hev
        cases mx <;> rfl
      | false =>
        rw [h1] at hev
        cases h2 : leX f' c' f c with
        | true =>
          rw [h2] at hev
          refine key false (fun hh => by cases hh) (fun _ => leX_sound hH.fk h2) ?_
          have hev : (cnd mx (getO (q x) L) (getO (q y) L)).some = some a := hev
          rw [AV.some_eq] at hev
          cases hev
          cases mx <;> rfl
        | false => rw [h2] at hev; cases hev
  · exact p_minmax (h := h) hq hx hev
omit hE hH hq in
theorem UOk.bytes {q' : Key} (hu : UOk q') : ∃ str : List Nat, Val.l q' = str.map (fun n : Nat => [Value.int .u8 (n : Int)]) ∧ ∀ n ∈ str, n < 256 := by
  have key : ∀ l : List (List Value), (∀ row ∈ l, ∃ n : Nat, row = [.int .u8 (n : Int)] ∧ n < 256) → ∃ str : List Nat, l = str.map (fun n : Nat => [Value.int .u8 (n : Int)]) ∧ ∀ n ∈ str, n < 256 := by
    intro l
    induction l with
    | nil => intro _; exact ⟨[], rfl, by simp⟩
    | cons row l ih =>
      intro hl
      obtain ⟨n, rfl, hn⟩ := hl row (List.mem_cons_self ..)
      obtain ⟨str, e, hs⟩ := ih fun r hr => hl r (List.mem_cons_of_mem _ hr)
      refine ⟨n :: str, by rw [e]; rfl, fun m hm => ?_⟩
      rcases List.mem_cons.1 hm with rfl | hm
      · exact hn
      · exact hs m hm
  exact key _ hu
include hE hH hq in
theorem p_b2sX {s t e : TypeId} {x : Operand} (h1 : E.und s = some (.slice e)) (h0 : isU8 E e = true) (h2 : E.und t = some .string) (hev : xB2sX (q x) h L = some a) :
    Gives P ρ w μ ⟨d, .convert s t x, ty, pos, af, gd⟩ a := by
  rcases asNsl_some hev with ⟨f, g, sz, k, c, q', d', m, eq, hev⟩ | ⟨_, hev⟩
  · obtain ⟨base, len, cp, ex, e1, e2, e3, e4⟩ := q_nsl hq eq
    have he : E.und e = some (.int .u8) := by
      unfold isU8 at h0
      split at h0
      · assumption
      · cases h0
    unfold b2sN at hev
    cases hemp : isEmptyN k c q' d' with
    | true =>
      rw [hemp] at hev
      cases hev
      have hz : len = 0 := by
        unfold isEmptyN at hemp
        cases hdx : disX k c q' d' with
        | none => rw [hdx] at hemp; cases hemp
        | some n =>
          rw [hdx] at hemp
          have hemp : ieq n 0 = true := hemp
          rw [ieq_eq] at hemp
          have hn := of_decide_eq_true hemp
          have := disX_sound hH.fk hdx
          omega
      refine ⟨.string ((([] : List Nat).map fun n : Nat => (n : Int)).foldl (fun r n => r.push (UInt8.ofNat n.toNat)) ByteArray.empty), run_val (s := convert s t (ρ x)) ?_, by simp only [VR]; exact ⟨_, rfl, rfl⟩⟩
      rw [ex, run_convert_bytes_string w s t e _ _ _ (hE.und h1) (hE.und he) (hE.und h2), hz]
      cases base with
      | none => rfl
      | some ad => exact run_bytesToString w _ _ _ _ rfl
    | false =>
    rw [hemp] at hev
    replace hev : b2sN0 h f g sz k c q' d' = some a := hev
    unfold b2sN0 at hev
    replace hev := cnd_inv hev
    obtain ⟨i0, hev⟩ := hev
    replace hev := cnd_inv hev
    obtain ⟨i1, hev⟩ := hev
    replace hev := cnd_inv hev
    obtain ⟨i2, hev⟩ := hev
    replace hev := asLst_some hev
    obtain ⟨ro, gen, z, q'', sfx, ho, hev⟩ := hev
    replace hev := cnd_inv hev
    obtain ⟨i3, hev⟩ := hev
    obtain rfl := Nat.eq_of_beq_eq_true i3
    replace hev := cnd_inv hev
    obtain ⟨i4, hev⟩ := hev
    obtain rfl := Nat.eq_of_beq_eq_true i4
    replace hev := cnd_inv hev
    obtain ⟨i5, hev⟩ := hev
    obtain rfl := Key.beq_eq i5
    cases hev
    obtain ⟨_, _, i0⟩ := at0_sound i0
    rw [ieq_eq] at i1
    have i1 := of_decide_eq_true i1
    subst i1
    obtain ⟨⟨⟨k0, k1⟩, k2⟩, _, k3⟩ := hH.lst ho
    obtain ⟨str, hstr, hlt⟩ := (isU_sound hH.fk i2).bytes
    have hlen : len = str.length := by
      have : (Val.l q').length = str.length := by rw [hstr, List.length_map]
      omega
    refine ⟨.string ((str.map fun n : Nat => (n : Int)).foldl (fun r n => r.push (UInt8.ofNat n.toNat)) ByteArray.empty), run_val (s := convert s t (ρ x)) ?_, ?_⟩
    · rw [ex, run_convert_bytes_string w s t e _ _ _ (hE.und h1) (hE.und he) (hE.und h2)]
      have zero : len = 0 → str = [] := fun hz => List.length_eq_zero_iff.1 (by omega)
      cases base with
      | none =>
        have : str = [] := zero (by
          rcases e4 with e4 | ⟨b, s0, n, r, _, _, hb, _⟩
          · omega
          · cases hb)
        subst this
        rw [hlen]
        rfl
      | some ad =>
        refine run_bytesToString w _ _ _ _ ?_
        rcases e4 with e4 | ⟨b, s0, n, r, hm, hr, hb, hle⟩
        · have hz : len = 0 := by omega
          have := zero hz
          subst this
          rw [hz]; rfl
        · have hr0 : r = 0 := by omega
          subst hr0
          obtain ⟨_, cs, ce, fz, hheap, _, _, hl, _⟩ := k3 g b s0 n hm
          simp only [Option.some.injEq] at hb
          rw [hb]
          have hrun := run_loadCells_list (P := P) w ⟨b, s0 + 0 * 1, none⟩ (str.map fun n : Nat => Value.int .u8 (n : Int)) (fun j v hj => by
            rw [add_zero_spot, cell?_of_block hheap]
            rw [List.getElem?_map] at hj
            cases hs : str[j]? with
            | none => rw [hs] at hj; cases hj
            | some n =>
              rw [hs] at hj
              have hv : Value.int .u8 (n : Int) = v := by simpa using hj
              have := hl j [.int .u8 (n : Int)] (by rw [hstr, List.getElem?_map, hs]; rfl) 0 (.int .u8 (n : Int)) rfl
              rw [← hv, ← this]
              congr 1; omega)
          rw [List.length_map, ← hlen] at hrun
          rw [hrun]
          simp
    · simp only [VR]
      refine ⟨_, rfl, ?_⟩
      rw [foldl_bytes, hstr, List.map_map]
      show [] ++ _ = _
      rw [List.nil_append]
      refine List.map_congr_left fun n hn => ?_
      simp [Function.comp, rowByte]
  · exact p_b2s (h := h) hE hH hq h1 h0 h2 hev
end
end Go.Ev

namespace Go.Ev
set_option linter.unusedVariables false
set_option linter.unusedSectionVars false
set_option linter.unusedSimpArgs false
variable [Val] [Fk]
def GR (E : Env) (μ : Mu) : Prop := ∀ g, inM (gl E) g = true → ∃ n, μ (Key.ofNat g) 0 = some (g, 0, n)
section
variable {E : Env} {P : Program} (hE : EnvOk E P) {B : Nat} {μ : Mu} {h : Hp} {w : World} (hH : HR B μ h w) (hG : GR E μ)
  {L : Lo} {ρ : Operand → Value} {q : Operand → Opd} (hq : ∀ x, VR μ (getO (q x) L) (ρ x))
variable {d : Option Tmp} {ty : TypeId} {pos : String} {af : Array Edge} {gd : Option (Nat × Bool)} {a : AV}
include hE hH hq in
theorem pure_bin {op : BinOp} {t yt : TypeId} {x y : Operand} (hev : (binI q E op t x y).ev E h L = some a) : Gives P ρ w μ ⟨d, .binOp op t x y yt, ty, pos, af, gd⟩ a := by
  unfold binI at hev
  split at hev
  · cases hb : isIntOrStr E t with
    | true => rw [hb] at hev; exact p_ibinM (h := h) hH hq hev
    | false => rw [hb] at hev; exact p_eqv (h := h) hE hH hq (neg := false) hb hev
  · cases hb : isIntOrStr E t with
    | true => rw [hb] at hev; exact p_ibinM (h := h) hH hq hev
    | false => rw [hb] at hev; exact p_eqv (h := h) hE hH hq (neg := true) hb hev
  · exact p_ibinM (h := h) hH hq hev
include hE hH hq in
theorem pure_conv {s t : TypeId} {x : Operand} (hev : (convP q E s t x).ev E h L = some a) : Gives P ρ w μ ⟨d, .convert s t x, ty, pos, af, gd⟩ a := by
  unfold convP at hev
  split at hev
  · rename_i ds k h1 h2
    exact p_convI (h := h) hE hq h1 h2 hev
  · rename_i e h1 h2
    cases hb : isU8 E e with
    | true => rw [hb] at hev; exact p_b2sX (h := h) hE hH hq h1 hb h2 hev
    | false => rw [hb] at hev; cases hev
  · rename_i ds hn h1 h2
    exact p_convS (h := h) hE hq h1 (fun e he => hn e he) h2 hev
  · cases hev
include hE hH hq in
theorem pure_slice {t : TypeId} {x : Operand} {lo hi mx : Option Operand} (hev : (sliceP q E t x lo hi mx).ev E h L = some a) : Gives P ρ w μ ⟨d, .slice t x lo hi mx, ty, pos, af, gd⟩ a := by
  have nn : (hi.isNone && mx.isSome) = false → ¬ (hi = none ∧ mx.isSome = true) := by
    rintro h1 ⟨rfl, h2⟩; rw [h2] at h1; cases h1
  unfold sliceP at hev
  split at hev
  · rename_i hu
    split at hev
    · exact p_sliceStr (h := h) hE hq hu hev
    · cases hev
  · rename_i el hu
    cases hb : hi.isNone && mx.isSome with
    | true => rw [hb] at hev; cases hev
    | false =>
      rw [hb] at hev
      simp only [cond_false] at hev
      split at hev
      · rename_i n hn; exact p_sliceSlX (h := h) hE hH hq hu hn (nn hb) hev
      · cases hev
  · rename_i n el hu
    cases hb : hi.isNone && mx.isSome with
    | true => rw [hb] at hev; cases hev
    | false =>
      rw [hb] at hev
      simp only [cond_false] at hev
      split at hev
      · rename_i sz hn; exact p_sliceArr (h := h) hE hH hq (.inl hu) hn (nn hb) hev
      · cases hev
  · rename_i arr hu
    split at hev
    · rename_i n el hu2
      cases hb : hi.isNone && mx.isSome with
      | true => rw [hb] at hev; cases hev
      | false =>
        rw [hb] at hev
        simp only [cond_false] at hev
        split at hev
        · rename_i sz hn; exact p_sliceArr (h := h) hE hH hq (.inr ⟨arr, hu, hu2⟩) hn (nn hb) hev
        · cases hev
    · cases hev
  · cases hev
include hE hH hq in
theorem pure_call {c : Call} (hev : (callP q E c).ev E h L = some a) : Gives P ρ w μ ⟨d, .call c, ty, pos, af, gd⟩ a := by
  obtain ⟨callee, args, ats⟩ := c
  unfold callP at hev
  simp only at hev
  split at hev
  · rename_i t ts x xs h2 h3
    unfold lenP at hev
    split at hev
    · rename_i hu; exact p_lenStr (h := h) hE hq h3 h2 hu hev
    · rename_i n el hu; exact p_lenArr (h := h) (L := L) hE h3 h2 hu hev
    · rename_i el hu; exact p_lenSlX (h := h) hE hH hq h3 h2 hu hev
    · rename_i kt el hu; exact p_lenMap (h := h) hE hH hq h3 h2 hu hev
    · rename_i arr hu
      split at hev
      · rename_i n el hu2; exact p_lenPArr (h := h) (L := L) hE h3 h2 hu hu2 hev
      · cases hev
    · cases hev
  · rename_i t ts x xs h2 h3
    split at hev
    · rename_i el hu; exact p_capSl (h := h) hE hq h3 h2 hu hev
    · cases hev
  · rename_i x xs h3
    exact p_minmaxX (h := h) hH hq (mx := false) h3 hev
  · rename_i x xs h3
    exact p_minmaxX (h := h) hH hq (mx := true) h3 hev
  · cases hev
include hE hH hG hq in
theorem pure_sound {op : Op} (hev : (pureI q E op).ev E h L = some a) : Gives P ρ w μ ⟨d, op, ty, pos, af, gd⟩ a := by
  unfold pureI at hev
  split at hev
  · exact p_move (h := h) hq hev
  · exact p_pick (h := h) hq hev
  · split at hev
    · rename_i n ag hs
      cases ag with
      | true => exact p_loadNX (h := h) hE hH hq hs hev
      | false => exact p_load1X (h := h) hE hH hq hs hev
    · cases hev
  · exact pure_bin hE hH hq hev
  · exact p_un (h := h) hq hev
  · exact pure_conv hE hH hq hev
  · split at hev
    · cases hev
    · rename_i ds hn hu; exact p_iface (h := h) hE hq hu (fun ms hm => by subst hm; exact hn _ rfl) hev
    · cases hev
  · exact p_func (h := h) hq hev
  · exact pure_slice hE hH hq hev
  · split at hev
    · rename_i fs hf
      split at hev
      · rename_i off n hp; exact p_addOffX (h := h) hE hH hq hf hp hev
      · cases hev
    · cases hev
  · split at hev
    · rename_i fs hf
      split at hev
      · rename_i f hfi
        split at hev
        · rename_i n ag hs; exact p_field (h := h) hE hq hf hfi hs hev
        · cases hev
      · cases hev
    · cases hev
  · split at hev
    · rename_i el hu
      split at hev
      · rename_i n hn; exact p_idxSlX (h := h) hE hH hq hu hn hev
      · cases hev
    · rename_i n el hu
      split at hev
      · rename_i sz hn; exact p_idxArr (h := h) hE hq hu hn hev
      · cases hev
    · cases hev
  · split at hev
    · rename_i hu; exact p_idxStr (h := h) hE hq hu hev
    · rename_i n el hu
      split at hev
      · rename_i sz ag hs; exact p_idxAgg (h := h) hE hq hu hs hev
      · cases hev
    · cases hev
  · unfold lookupP at hev
    split at hev
    · rename_i kt el hu
      split at hev
      · rename_i z hz
        cases hk : keyTy (tyOf E 8 kt) with
        | true => rw [hk] at hev; exact p_lookup (h := h) hE hH hq hu hz hk hev
        | false => rw [hk] at hev; cases hev
      · cases hev
    · cases hev
  · unfold assertP at hev
    split at hev
    · rename_i want z hu hz; exact p_assertI (h := h) hE hq hu hz hev
    · rename_i ds z hn hu hz; exact p_assertC (h := h) hE hq hu (fun ms hm => hn ms hm) hz hev
    · cases hev
  · exact p_extract (h := h) hq hev
  · exact p_build (h := h) hE hq hev
  · exact p_nilckX (h := h) hq hev
  · exact p_entry (h := h) hH hq hev
  · rename_i g
    cases hb : inM (gl E) g with
    | true =>
      rw [hb] at hev
      obtain ⟨n, hn⟩ := hG g hb
      exact p_waits (h := h) (L := L) (b := 0) hH hev hn
    | false => rw [hb] at hev; cases hev
  · exact pure_call hE hH hq hev
  · cases hev
end
end Go.Ev

namespace Go.Ev
set_option linter.unusedVariables false
set_option linter.unusedSectionVars false
set_option linter.unusedSimpArgs false
variable [Val] [Fk]
/-! ## a new place for a family's generation -/
noncomputable def Mu.ins (μ : Mu) (f : Key) (g : Nat) (x : Nat × Nat × Nat) : Mu := fun f' g' => if Key.beq f f' && Nat.beq g g' then some x else μ f' g'
theorem Mu.ins_same (μ : Mu) (f : Key) (g : Nat) (x : Nat × Nat × Nat) : μ.ins f g x f g = some x := by
  simp [Mu.ins, Key.beq_refl]
theorem Mu.ins_other (μ : Mu) {f f' : Key} {g g' : Nat} (h : f ≠ f' ∨ g ≠ g') (x : Nat × Nat × Nat) : μ.ins f g x f' g' = μ f' g' := by
  unfold Mu.ins
  split
  · rename_i hh
    simp only [Bool.and_eq_true] at hh
    rcases h with h | h
    · exact absurd (Key.beq_eq hh.1) h
    · exact absurd (Nat.eq_of_beq_eq_true hh.2) h
  · rfl
theorem Mu.ins_le {μ : Mu} {f : Key} {g : Nat} (h : μ f g = none) (x : Nat × Nat × Nat) : μ.le (μ.ins f g x) := by
  intro f' g' y hy
  rw [Mu.ins_other]
  · exact hy
  · by_cases hf : f = f'
    · subst hf
      right; rintro rfl; rw [h] at hy; cases hy
    · exact .inl hf
theorem Mu.ins_inv {μ : Mu} {f f' : Key} {g g' : Nat} {x y : Nat × Nat × Nat} (h : μ.ins f g x f' g' = some y) : (f' = f ∧ g' = g ∧ y = x) ∨ μ f' g' = some y := by
  by_cases hh : f = f' ∧ g = g'
  · obtain ⟨rfl, rfl⟩ := hh
    rw [Mu.ins_same] at h
    cases h
    exact .inl ⟨rfl, rfl, rfl⟩
  · right
    rw [Mu.ins_other _ (by by_cases hf : f = f'; (right; intro hg; exact hh ⟨hf, hg⟩); exact .inl hf)] at h
    exact h
theorem EnR.mono {μ ν : Mu} (h : μ.le ν) {e : En} {x : MapEntry} (k : EnR μ e x) : EnR ν e x := ⟨VR.mono h _ _ k.1, VR.mono h _ _ k.2.1, k.2.2⟩
theorem EnsR.mono {μ ν : Mu} (h : μ.le ν) : ∀ {es : List En} {xs : List MapEntry}, EnsR μ es xs → EnsR ν es xs
  | [], _, k => by simpa only [EnsR] using k
  | e :: es, _, k => by
    simp only [EnsR] at k ⊢
    obtain ⟨x, r, rfl, h1, h2⟩ := k
    exact ⟨x, r, rfl, h1.mono h, EnsR.mono h h2⟩
theorem RowR.mono {μ ν : Mu} (h : μ.le ν) {cs : Array Value} {s sz r : Nat} {l : List AV} (k : RowR μ cs s sz r l) : RowR ν cs s sz r l :=
  ⟨k.1, k.2.1, fun j a hj => let ⟨v, h1, h2⟩ := k.2.2 j a hj; ⟨v, h1, VR.mono h _ _ h2⟩⟩
theorem TmR.mono {μ ν : Mu} (h : μ.le ν) {t : Tm} {tmps : Array Value} (k : TmR μ t tmps) : TmR ν t tmps := fun a b c => VR.mono h _ _ (k a b c)
theorem DfR.mono {μ ν : Mu} (h : μ.le ν) : ∀ {d : Df} {x : Deferred}, DfR μ d x → DfR ν d x
  | .fn f cap args, x, k => by
    simp only [DfR] at k ⊢
    obtain ⟨F, cs, vs, e, h1, h2, h3⟩ := k
    exact ⟨F, cs, vs, e, h1.mono h, VRs.mono h _ _ h2, VRs.mono h _ _ h3⟩
  | .bi b args, x, k => by simp only [DfR] at k
  | .del t m key, x, k => by
    simp only [DfR] at k ⊢
    obtain ⟨ats, ty, cn, xs, v, w, e, a0, a1, h1, h2, h3⟩ := k
    exact ⟨ats, ty, cn, xs, v, w, e, a0, a1, h1, VR.mono h _ _ h2, VR.mono h _ _ h3⟩
  | .collected r, x, k => by
    simp only [DfR] at k ⊢
    obtain ⟨b, s, n, h1, e⟩ := k
    exact ⟨b, s, n, h _ _ _ h1, e⟩
theorem DfsR.mono {μ ν : Mu} (h : μ.le ν) : ∀ {ds : List Df} {xs : List Deferred}, DfsR μ ds xs → DfsR ν ds xs
  | [], _, k => by simpa only [DfsR] using k
  | d :: ds, _, k => by
    simp only [DfsR] at k ⊢
    obtain ⟨x, r, rfl, h1, h2⟩ := k
    exact ⟨x, r, rfl, h1.mono h, DfsR.mono h h2⟩
theorem SfxAt.mono {μ ν : Mu} (h : μ.le ν) {cs : Array Value} {s sz n : Nat} {sfx : List (List AV)} (k : SfxAt μ cs s sz n sfx) : SfxAt ν cs s sz n sfx :=
  fun i l hi j a hj => let ⟨v, h1, h2⟩ := k i l hi j a hj; ⟨v, h1, VR.mono h _ _ h2⟩
theorem OR.mono {B : Nat} {μ ν : Mu} {w w' : World} (h : μ.le ν) {f : Key} (hs : ∀ g, ν f g = μ f g) (hb : ∀ g b s n, μ f g = some (b, s, n) → w'.heap[b]? = w.heap[b]?) :
    ∀ {o : Ob}, OR B μ w f o → OR B ν w' f o
  | .none, k => by simp only [OR] at k ⊢; intro g; rw [hs]; exact k g
  | .cells ro gen sz dp ext c, k => by
    simp only [OR] at k ⊢
    obtain ⟨k1, k2, k3⟩ := k
    refine ⟨k1, ⟨fun g hg => by rw [hs]; exact k2.1 g hg, k2.2⟩, fun g b s n hm => ?_⟩
    rw [hs] at hm
    obtain ⟨a1, a2, cs, e, fz, a3, a4, a5, a6⟩ := k3 g b s n hm
    exact ⟨a1, a2, cs, e, fz, by rw [hb _ _ _ _ hm]; exact a3, a4, a5, fun r l gw h1 h2 h3 => (a6 r l gw h1 h2 h3).mono h⟩
  | .map es clock, k => by
    simp only [OR] at k ⊢
    obtain ⟨k2, k3⟩ := k
    refine ⟨fun g hg => by rw [hs]; exact k2 g hg, fun b s n hm => ?_⟩
    rw [hs] at hm
    obtain ⟨a1, es', a2, a3⟩ := k3 b s n hm
    exact ⟨a1, es', by rw [hb _ _ _ _ hm]; exact a2, a3.mono h⟩
  | .strIter x pos, k => by
    simp only [OR] at k ⊢
    obtain ⟨k2, k3⟩ := k
    refine ⟨fun g hg => by rw [hs]; exact k2 g hg, fun b s n hm => ?_⟩
    rw [hs] at hm
    obtain ⟨a1, a2, y, a3, a4⟩ := k3 b s n hm
    exact ⟨a1, a2, y, by rw [hb _ _ _ _ hm]; exact a3, a4⟩
  | .mapIter m since seen st, k => by
    simp only [OR] at k ⊢
    obtain ⟨k2, k3⟩ := k
    refine ⟨fun g hg => by rw [hs]; exact k2 g hg, fun b s n hm => ?_⟩
    rw [hs] at hm
    obtain ⟨a1, a2, m', a3, a4⟩ := k3 b s n hm
    refine ⟨a1, a2, m', by rw [hb _ _ _ _ hm]; exact a3, ?_⟩
    cases m with
    | none => exact a4
    | some q => obtain ⟨c, s2, n2, a5, a6⟩ := a4; exact ⟨c, s2, n2, h _ _ _ a5, a6⟩
  | .loop st pend fn tm ps a b df x, k => by
    simp only [OR] at k ⊢
    obtain ⟨k2, k3⟩ := k
    refine ⟨fun g hg => by rw [hs]; exact k2 g hg, fun c s n hm => ?_⟩
    rw [hs] at hm
    obtain ⟨a1, tmps, dfb, s', n', a2, a3, a4⟩ := k3 c s n hm
    exact ⟨a1, tmps, dfb, s', n', by rw [hb _ _ _ _ hm]; exact a2, ⟨a3.1.mono h, a3.2⟩, h _ _ _ a4⟩
  | .deferred ds, k => by
    simp only [OR] at k ⊢
    obtain ⟨k2, k3⟩ := k
    refine ⟨fun g hg => by rw [hs]; exact k2 g hg, fun b s n hm => ?_⟩
    rw [hs] at hm
    obtain ⟨a1, ds', a2, a3⟩ := k3 b s n hm
    refine ⟨a1, ds', by rw [hb _ _ _ _ hm]; exact a2, ?_⟩
    cases ds with
    | none => exact a3
    | some l => obtain ⟨l', a4, a5⟩ := a3; exact ⟨l', a4, a5.mono h⟩
  | .iv lo hi, k => by
    simp only [OR] at k ⊢
    exact ⟨fun g => by rw [hs]; exact k.1 g, k.2⟩
  | .mapu es, k => by
    simp only [OR] at k ⊢
    obtain ⟨k2, k3⟩ := k
    refine ⟨fun g hg => by rw [hs]; exact k2 g hg, fun b s n hm => ?_⟩
    rw [hs] at hm
    obtain ⟨a1, es', clock, es0, a2, a3, a4⟩ := k3 b s n hm
    exact ⟨a1, es', clock, es0, by rw [hb _ _ _ _ hm]; exact a2, a3.mono h, a4⟩
  | .lst ro gen sz q sfx, k => by
    simp only [OR] at k ⊢
    obtain ⟨k1, k2, k3⟩ := k
    refine ⟨k1, ⟨fun g hg => by rw [hs]; exact k2.1 g hg, k2.2⟩, fun g b s n hm => ?_⟩
    rw [hs] at hm
    obtain ⟨a1, cs, e, fz, a3, a4, a5, a6, a7⟩ := k3 g b s n hm
    exact ⟨a1, cs, e, fz, by rw [hb _ _ _ _ hm]; exact a3, a4, a5, a6, fun hg => (a7 hg).mono h⟩
structure Ext (B : Nat) (w w' : World) : Prop where
  os : w'.os = w.os
  tape : w'.tape = w.tape
  output : w'.output = w.output
  size : w.heap.size ≤ w'.heap.size
  block : ∀ k, k < B → w'.heap[k]? = w.heap[k]?
theorem Ext.refl (B : Nat) (w : World) : Ext B w w := ⟨rfl, rfl, rfl, Nat.le_refl _, fun _ _ => rfl⟩
theorem Ext.trans {B : Nat} {w1 w2 w3 : World} (h : Ext B w1 w2) (k : Ext B w2 w3) : Ext B w1 w3 :=
  ⟨k.os.trans h.os, k.tape.trans h.tape, k.output.trans h.output, Nat.le_trans h.size k.size, fun b hb => (k.block b hb).trans (h.block b hb)⟩
def Kp (h : Hp) (μ : Mu) (h' : Hp) (ν : Mu) : Prop := ∀ f, (hget f h).isNone = false → (hget f h').isNone = false ∧ ((∀ g, μ f g = none) → ∀ g, ν f g = none)
theorem Kp.refl (h : Hp) (μ : Mu) : Kp h μ h μ := fun _ hf => ⟨hf, fun k => k⟩
theorem Kp.trans {h1 h2 h3 : Hp} {a b c : Mu} (k : Kp h1 a h2 b) (l : Kp h2 b h3 c) : Kp h1 a h3 c := fun f hf =>
  let ⟨k1, k2⟩ := k f hf
  let ⟨l1, l2⟩ := l f k1
  ⟨l1, fun hn => l2 (k2 hn)⟩
theorem Kp.set {h : Hp} {μ : Mu} {f : Key} {ob : Ob} (hob : ob.isNone = false) : Kp h μ (hset f ob h) μ := fun f1 hf => by
  by_cases hff : f = f1
  · subst hff; rw [hget_hset]; exact ⟨hob, fun k => k⟩
  · rw [hget_hset_ne hff]; exact ⟨hf, fun k => k⟩
theorem Kp.setIns {h : Hp} {μ : Mu} {f : Key} {ob : Ob} {g g' : Nat} {x y : Nat × Nat × Nat} (hob : ob.isNone = false) (hm : μ f g = some x) : Kp h μ (hset f ob h) (μ.ins f g' y) := fun f1 hf => by
  by_cases hff : f = f1
  · subst hff; rw [hget_hset]; exact ⟨hob, fun k => by rw [k g] at hm; cases hm⟩
  · rw [hget_hset_ne hff]; exact ⟨hf, fun k g1 => by rw [Mu.ins_other _ (.inl hff)]; exact k g1⟩
theorem Kp.new {h : Hp} {μ : Mu} {f : Key} {ob : Ob} {g : Nat} {y : Nat × Nat × Nat} (hn : (hget f h).isNone = true) : Kp h μ (hset f ob h) (μ.ins f g y) := fun f1 hf => by
  have hff : f ≠ f1 := fun hh => by subst hh; rw [hn] at hf; cases hf
  rw [hget_hset_ne hff]; exact ⟨hf, fun k g1 => by rw [Mu.ins_other _ (.inl hff)]; exact k g1⟩
section
variable {B : Nat} {μ : Mu} {h : Hp} {w w' : World}
theorem HR.alloc (hH : HR B μ h w) {f : Key} (hf : (hget f h).isNone = true) {ob : Ob} {o : Obj} {gen n : Nat} (hw : w'.heap = w.heap.push o)
    (hob : OR B (μ.ins f gen (w.heap.size, 0, n)) w' f ob) : HR B (μ.ins f gen (w.heap.size, 0, n)) (hset f ob h) w' ∧ μ.le (μ.ins f gen (w.heap.size, 0, n)) := by
  have hn : hget f h = .none := by cases hh : hget f h <;> rw [hh] at hf <;> first | rfl | cases hf
  have hno : ∀ g, μ f g = none := by have := hH.obj f; rw [hn] at this; exact this
  have hle := Mu.ins_le (hno gen) (w.heap.size, 0, n)
  refine ⟨⟨?_, ?_, ?_, ?_, hH.fk, fun f1 b1 s1 n1 h1 => (Mu.ins_inv h1).elim (fun h => by obtain ⟨_, h2, h3⟩ := h; first | omega | (cases h3; rfl)) fun h => hH.start _ _ _ _ h⟩, hle⟩
  · intro f1 g1 b s m f2 g2 s2 m2 h1 h2 hc
    rcases Mu.ins_inv h1 with ⟨i1, _, e1⟩ | k1 <;> rcases Mu.ins_inv h2 with ⟨i2, _, e2⟩ | k2
    · cases e1; cases e2; exact ⟨i1.trans i2.symm, rfl, rfl⟩
    · cases e1; exact absurd (hH.lt _ _ _ _ _ k2) (Nat.lt_irrefl _)
    · cases e2; exact absurd (hH.lt _ _ _ _ _ k1) (Nat.lt_irrefl _)
    · exact hH.inj _ _ _ _ _ _ _ _ _ k1 k2 hc
  · intro f1 g1 b s m h1
    rw [hw, Array.size_push]
    rcases Mu.ins_inv h1 with ⟨rfl, rfl, e1⟩ | h1
    · cases e1; omega
    · have := hH.lt _ _ _ _ _ h1; omega
  · intro f1
    by_cases hff : f = f1
    · subst hff; rw [hget_hset]; exact hob
    · rw [hget_hset_ne hff]
      refine OR.mono hle (fun g => Mu.ins_other _ (.inl hff) _) (fun g b s m hm => ?_) (hH.obj f1)
      rw [hw, Array.getElem?_push]
      have := hH.lt _ _ _ _ _ hm
      rw [if_neg (by omega)]
  · intro f1 g1 g2 b s m s2 m2 h1 h2 hg
    rcases Mu.ins_inv h1 with ⟨_, i1, e1⟩ | k1 <;> rcases Mu.ins_inv h2 with ⟨_, i2, e2⟩ | k2
    · omega
    · cases e1; exact absurd (hH.lt _ _ _ _ _ k2) (Nat.lt_irrefl _)
    · cases e2; exact absurd (hH.lt _ _ _ _ _ k1) (Nat.lt_irrefl _)
    · exact hH.side _ _ _ _ _ _ _ _ k1 k2 hg
theorem HR.write (hH : HR B μ h w) {f : Key} {gen sz dp ext dp' ext' : Nat} {c c' : Tr Row} (ho : hget f h = .cells false gen sz dp ext c) {b s n : Nat} (hm : μ f gen = some (b, s, n))
    {cs cs' : Array Value} {e : TypeId} {fz : Nat × Nat} (hheap : w.heap[b]? = some (.cells cs e fz)) (hsz : cs'.size = cs.size) (hw : w'.heap = w.heap.setIfInBounds b (.cells cs' e fz))
    (hwf : Tr.Wf dp' c') (hext : ∀ r, ext' ≤ r → c'.get r = none)
    (hrows : ∀ r l gw, c'.get r = some (.mk l gw) → (c.get r = some (.mk l gw) ∧ (s ≤ r * sz → ∀ j, j < sz → cs'[r * sz + j - s]? = cs[r * sz + j - s]?)) ∨ (gw = gen ∧ (s ≤ r * sz → RowR μ cs' s sz r l))) :
    HR B μ (hset f (.cells false gen sz dp' ext' c') h) w' := by
  obtain ⟨_, hgen, hblk⟩ := hH.cells ho
  have hbl := hH.lt _ _ _ _ _ hm
  have hBb : B ≤ b := (hblk gen b s n hm).1 rfl
  refine ⟨hH.inj, ?_, ?_, hH.side, hH.fk, hH.start⟩
  · intro f1 g1 b1 s1 m1 h1
    rw [hw, Array.size_setIfInBounds]; exact hH.lt _ _ _ _ _ h1
  · intro f1
    by_cases hff : f = f1
    · subst hff
      rw [hget_hset]
      refine ⟨⟨hwf, hext⟩, ⟨hgen.1, fun r l gw hr => by rcases hrows r l gw hr with ⟨h1, _⟩ | ⟨h1, _⟩; (exact hgen.2 r l gw h1); exact Nat.le_of_eq h1⟩, ?_⟩
      intro g b1 s1 n1 hm1
      obtain ⟨a1, a2, cs1, e1, fz1, a3, a4, a5, a6⟩ := hblk g b1 s1 n1 hm1
      have hg : g ≤ gen := Nat.le_of_not_lt fun hlt => by rw [hgen.1 g hlt] at hm1; cases hm1
      by_cases hb : b1 = b
      · subst hb
        obtain ⟨_, rfl, rfl⟩ := hH.inj _ _ _ _ _ _ _ _ _ hm hm1 (.inr hBb)
        rw [hheap] at a3
        simp only [Option.some.injEq, Obj.cells.injEq] at a3
        obtain ⟨rfl, rfl, rfl⟩ := a3
        refine ⟨a1, a2, cs', e, fz, ?_, ?_, by rw [hsz]; exact a5, ?_⟩
        · rw [hw, Array.getElem?_setIfInBounds_self]; simp [hbl]
        · rcases a4 with h0 | ⟨h0, h1⟩
          · exact .inl h0
          · exact .inr ⟨h0, by rw [hsz]; exact h1⟩
        · intro r l gw g1 g2 g3
          rcases hrows r l gw g1 with ⟨h1, h2⟩ | ⟨h1, h2⟩
          · obtain ⟨k1, k2, k3⟩ := a6 r l gw h1 g2 g3
            refine ⟨k1, k2, fun j a hj => ?_⟩
            have hjl : j < sz := by
              have := (List.getElem?_eq_some_iff.1 hj).1
              omega
            rw [h2 g3 j hjl]
            exact k3 j a hj
          · exact h2 g3
      · refine ⟨a1, a2, cs1, e1, fz1, ?_, a4, a5, ?_⟩
        · rw [hw, Array.getElem?_setIfInBounds_ne (Ne.symm hb)]; exact a3
        · intro r l gw g1 g2 g3
          rcases hrows r l gw g1 with ⟨h1, _⟩ | ⟨h1, h2⟩
          · exact a6 r l gw h1 g2 g3
          · have : g = gen := by omega
            subst this
            rw [hm] at hm1
            simp only [Option.some.injEq, Prod.mk.injEq] at hm1
            exact absurd hm1.1.symm hb
    · rw [hget_hset_ne hff]
      refine OR.mono (Mu.le_refl μ) (fun _ => rfl) (fun g b1 s1 m1 hm1 => ?_) (hH.obj f1)
      have hne : b ≠ b1 := fun hb => by subst hb; exact hff (hH.inj _ _ _ _ _ _ _ _ _ hm hm1 (.inr hBb)).1
      rw [hw, Array.getElem?_setIfInBounds_ne hne]
theorem HR.turn (hH : HR B μ h w) {f : Key} {b s n : Nat} (hm : μ f 0 = some (b, s, n)) {ob : Ob} {o : Obj} (hBb : B ≤ b) (hw : w'.heap = w.heap.setIfInBounds b o)
    (hob : OR B μ w' f ob) : HR B μ (hset f ob h) w' := by
  refine ⟨hH.inj, ?_, ?_, hH.side, hH.fk, hH.start⟩
  · intro f1 g1 b1 s1 m1 h1
    rw [hw, Array.size_setIfInBounds]; exact hH.lt _ _ _ _ _ h1
  · intro f1
    by_cases hff : f = f1
    · subst hff; rw [hget_hset]; exact hob
    · rw [hget_hset_ne hff]
      refine OR.mono (Mu.le_refl μ) (fun _ => rfl) (fun g b1 s1 m1 hm1 => ?_) (hH.obj f1)
      have hne : b ≠ b1 := fun hb => by subst hb; exact hff (hH.inj _ _ _ _ _ _ _ _ _ hm hm1 (.inr hBb)).1
      rw [hw, Array.getElem?_setIfInBounds_ne hne]
end
end Go.Ev
