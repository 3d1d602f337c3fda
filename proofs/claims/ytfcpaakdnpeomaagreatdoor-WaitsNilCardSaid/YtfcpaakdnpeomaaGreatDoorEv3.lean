/- THE EVALUATOR, part 3 of 9: EvBin EvPure2 EvPure3 EvPure4 EvPure5 EvEq EvEq2 EvPure6 EvPure7 EvMapU -/
import Derived.Test.YtfcpaakdnpeomaaGreatDoorEv2
import Derived.Laws.Slices
import Derived.Laws.StructEq
import Derived.MapKept
import Derived.Laws.BytesString
set_option linter.unusedVariables false
set_option linter.unusedSectionVars false
set_option linter.unusedSimpArgs false
namespace Go.Ev
set_option linter.unusedVariables false

section
variable {E : Env} {P : Program} (hE : EnvOk E P) {B : Nat} {μ : Mu} {h : Hp} {w : World} (hH : HR B μ h w)
  {L : Lo} {ρ : Operand → Value} {q : Operand → Opd} (hq : ∀ x, VR μ (getO (q x) L) (ρ x))
  {d : Option Tmp} {ty : TypeId} {pos : String} {af : Array Edge} {gd : Option (Nat × Bool)} {a : AV}

theorem run_eqGuard_plain (op : BinOp) (t : TypeId) (x y : Operand) (u v : Value) (h1 : ¬(u = .nilIface ∧ v = .nilIface)) (h2 : ¬ ∃ c e, u = .agg c ∧ v = .agg e) :
    (eqGuard op t x y u v).run P w = .ok () w := by
  unfold eqGuard
  by_cases ho : (!(match op with | .eql => true | .neq => true | _ => false)) = true
  · rw [if_pos (by cases op <;> first | rfl | cases ho)]; rfl
  · rw [if_neg (by cases op <;> first | exact ho | (intro hh; exact ho rfl))]
    cases u <;> cases v <;> first
      | rfl
      | exact absurd ⟨rfl, rfl⟩ h1
      | exact absurd ⟨_, _, rfl, rfl⟩ h2

theorem run_bin_plain {op : BinOp} {t yt : TypeId} {x y : Operand} {v : Value} (h1 : ¬(ρ x = .nilIface ∧ ρ y = .nilIface)) (h2 : ¬ ∃ c e, ρ x = .agg c ∧ ρ y = .agg e)
    (hr : (binOp op t (ρ x) (ρ y)).run P w = .ok v w) : (execOp ρ ⟨d, .binOp op t x y yt, ty, pos, af, gd⟩).run P w = .ok (.value v) w := by
  refine run_val (s := do eqGuard op t x y (ρ x) (ρ y); binOp op t (ρ x) (ρ y)) ?_
  simp only [Sem.run_bind, run_eqGuard_plain op t x y _ _ h1 h2, Result.andThen_ok, hr]

include hq in
theorem q_rng {x : Operand} {k : IntKind} {lo hi : Int} (e : getO (q x) L = .rng k lo hi) : ∃ n, ρ x = .int k n ∧ lo ≤ n ∧ n ≤ hi := by
  have := hq x; rw [e] at this; simpa only [VR] using this
include hq in
theorem q_md {x : Operand} {m r : Nat} (e : getO (q x) L = .md m r) : ∃ n : Nat, ρ x = .int .i64 (n : Int) ∧ n % m = r := by
  have := hq x; rw [e] at this; simpa only [VR] using this

theorem cmp_bool {b : Bool} {c c' : Bool} {r : AV} (hc : c = true → b = true) (hc' : c' = true → b = false)
    (h : cnd c (some (.bool true)) (cnd c' (some (.bool false)) (some .ub)) = some r) : VR μ r (.bool b) := by
  cases c with
  | true => cases h; rw [hc rfl]; simp only [VR]
  | false =>
    cases c' with
    | true => cases h; rw [hc' rfl]; simp only [VR]
    | false => cases h; simp only [VR]; exact ⟨b, rfl⟩

theorem ibinR_sound {op : BinOp} {u v : AV} {x y : Value} {t : TypeId} (hx : VR μ u x) (hy : VR μ v y) (hev : ibinR op u v = some a) :
    (∃ k m, x = .int k m) ∧ ∃ r, (binOp op t x y).run P w = .ok r w ∧ VR μ a r := by
  unfold ibinR at hev
  split at hev
  · rename_i k lo hi l n
    simp only [VR] at hx hy
    obtain ⟨m, rfl, h1, h2⟩ := hx
    subst hy
    replace hev := cnd_inv hev
    have := keq_true hev.1; subst this
    replace hev := hev.2
    refine ⟨⟨_, _, rfl⟩, ?_⟩
    split at hev <;> try simp only [ilt_eq, ile_eq] at hev
    · exact ⟨_, by simp only [binOp, ne_eq, not_true_eq_false, if_false, Op.intCmp]; rfl, cmp_bool (b := decide (m < n)) (fun hc => by simp at hc ⊢; omega) (fun hc => by simp at hc ⊢; omega) hev⟩
    · exact ⟨_, by simp only [binOp, ne_eq, not_true_eq_false, if_false, Op.intCmp]; rfl, cmp_bool (b := decide (m ≤ n)) (fun hc => by simp at hc ⊢; omega) (fun hc => by simp at hc ⊢; omega) hev⟩
    · exact ⟨_, by simp only [binOp, ne_eq, not_true_eq_false, if_false, Op.intCmp]; rfl, cmp_bool (b := decide (m > n)) (fun hc => by simp at hc ⊢; omega) (fun hc => by simp at hc ⊢; omega) hev⟩
    · exact ⟨_, by simp only [binOp, ne_eq, not_true_eq_false, if_false, Op.intCmp]; rfl, cmp_bool (b := decide (m ≥ n)) (fun hc => by simp at hc ⊢; omega) (fun hc => by simp at hc ⊢; omega) hev⟩
    · cases hev
  · rename_i l n k lo hi
    simp only [VR] at hx hy
    obtain ⟨m, rfl, h1, h2⟩ := hy
    subst hx
    replace hev := cnd_inv hev
    have := keq_true hev.1; subst this
    replace hev := hev.2
    refine ⟨⟨_, _, rfl⟩, ?_⟩
    split at hev <;> try simp only [ilt_eq, ile_eq] at hev
    · exact ⟨_, by simp only [binOp, ne_eq, not_true_eq_false, if_false, Op.intCmp]; rfl, cmp_bool (b := decide (n < m)) (fun hc => by simp at hc ⊢; omega) (fun hc => by simp at hc ⊢; omega) hev⟩
    · exact ⟨_, by simp only [binOp, ne_eq, not_true_eq_false, if_false, Op.intCmp]; rfl, cmp_bool (b := decide (n ≤ m)) (fun hc => by simp at hc ⊢; omega) (fun hc => by simp at hc ⊢; omega) hev⟩
    · cases hev
  · rename_i m r l n
    simp only [VR] at hx hy
    obtain ⟨p, rfl, hp⟩ := hx
    subst hy
    replace hev := cnd_inv hev
    have := keq_true hev.1; subst this
    replace hev := hev.2
    refine ⟨⟨_, _, rfl⟩, ?_⟩
    split at hev
    · obtain ⟨hle, hev⟩ := cnd_inv hev
      rw [ile_eq] at hle
      have hle' : n ≤ 0 := by simpa using hle
      cases hev
      refine ⟨_, by simp only [binOp, ne_eq, not_true_eq_false, if_false, Op.intCmp]; rfl, ?_⟩
      simp only [VR]
      rw [Value.bool.injEq]
      simp; omega
    · obtain ⟨heq, hev⟩ := cnd_inv hev
      rw [ieq_eq] at heq
      have heq' : n = (m : Int) := by simpa using heq
      obtain ⟨hpos, hev⟩ := cnd_inv hev
      have hpos' : 0 < m := by simpa using hpos
      cases hev
      subst heq'
      have hm0 : (m : Int) ≠ 0 := by omega
      refine ⟨.int .i64 ((p : Int).tmod m), by simp [binOp, Op.intDiv]; omega, ?_⟩
      simp only [VR]
      rw [← hp]; rfl
    · cases hev
  · cases hev

include hq in
theorem p_ibin {op : BinOp} {t yt : TypeId} {x y : Operand} (hev : xIbin op (q x) (q y) h L = some a) : Gives P ρ w μ ⟨d, .binOp op t x y yt, ty, pos, af, gd⟩ a := by
  have fin : ∀ v, (∃ k m, ρ x = .int k m) → (binOp op t (ρ x) (ρ y)).run P w = .ok v w → VR μ a v → Gives P ρ w μ ⟨d, .binOp op t x y yt, ty, pos, af, gd⟩ a := by
    rintro v ⟨k, m, hx⟩ hr hv
    exact ⟨v, run_bin_plain (by rw [hx]; simp) (by rw [hx]; simp) hr, hv⟩
  have viaR : ibinR op (getO (q x) L) (getO (q y) L) = some a → Gives P ρ w μ ⟨d, .binOp op t x y yt, ty, pos, af, gd⟩ a := by
    intro hr
    obtain ⟨hi, r, hrun, hv⟩ := ibinR_sound (P := P) (w := w) (t := t) (hq x) (hq y) hr
    exact fin r hi hrun hv
  unfold xIbin at hev
  cases hx : getO (q x) L with
  | int k m =>
    rw [hx] at hev
    change asInt (getO (q y) L) _ _ = _ at hev
    cases hy : getO (q y) L with
    | int l n =>
      rw [hy] at hev
      change cnd (isSh op) _ _ = _ at hev
      have ex := q_int hq hx
      have ey := q_int hq hy
      cases hs : isSh op with
      | true =>
        rw [hs] at hev
        obtain ⟨v, hr, hv⟩ := ishift_sound (P := P) (w := w) (l := l) (t := t) (μ := μ) hs hev
        exact fin v ⟨_, _, ex⟩ (by rw [ex, ey]; exact hr) hv
      | false =>
        rw [hs] at hev
        replace hev : cnd (keq k l) (iarith op k m n) none = some a := hev
        replace hev := cnd_inv hev
        have := keq_true hev.1; subst this
        replace hev := hev.2
        obtain ⟨v, hr, hv⟩ := iarith_sound (P := P) (w := w) (t := t) (μ := μ) hs hev
        exact fin v ⟨_, _, ex⟩ (by rw [ex, ey]; exact hr) hv
    | _ => rw [hy] at hev; rw [hx, hy] at viaR; exact viaR hev
  | str s =>
    rw [hx] at hev
    change asStr (getO (q y) L) _ _ = _ at hev
    obtain ⟨s', hy, hev⟩ := asStr_some hev
    obtain ⟨b, ex, hb⟩ := q_str hq hx
    obtain ⟨b', ey, hb'⟩ := q_str hq hy
    subst hb hb'
    obtain ⟨v, hr, hv⟩ := strOp_sound (P := P) (w := w) (t := t) (μ := μ) hev
    exact ⟨v, run_bin_plain (by rw [ex]; simp) (by rw [ex]; simp) (by rw [ex, ey]; exact hr), hv⟩
  | _ => rw [hx] at hev; rw [hx] at viaR; exact viaR hev

end
end Go.Ev


namespace Go.Ev
set_option linter.unusedVariables false
set_option linter.unusedSectionVars false

section
variable {E : Env} {P : Program} (hE : EnvOk E P) {B : Nat} {μ : Mu} {h : Hp} {w : World} (hH : HR B μ h w)
  {L : Lo} {ρ : Operand → Value} {q : Operand → Opd} (hq : ∀ x, VR μ (getO (q x) L) (ρ x))
  {d : Option Tmp} {ty : TypeId} {pos : String} {af : Array Edge} {gd : Option (Nat × Bool)} {a : AV}

include hq in
theorem p_un {op : UnOp} {t : TypeId} {x : Operand} (hev : xUn op (q x) h L = some a) : Gives P ρ w μ ⟨d, .unOp op t x, ty, pos, af, gd⟩ a := by
  unfold xUn at hev
  split at hev
  · rename_i k n hx
    rw [mkInt_eq] at hev
    cases hev
    have ex := q_int hq hx
    refine ⟨.int k (k.wrap (0 - n)), run_val (s := Op.unary .neg (ρ x)) ?_, by simp only [VR]; rfl⟩
    rw [ex]; rfl
  · rename_i k n hx
    cases hev
    have ex := q_int hq hx
    refine ⟨_, run_val (s := Op.unary .xor (ρ x)) (v := .int k (k.wrap (BitVec.ofInt k.bits (if k.signed then -1 else k.max) ^^^ BitVec.ofInt k.bits n).toNat)) ?_, by simp only [VR]⟩
    rw [ex]; rfl
  · rename_i b hx
    cases hev
    have ex := q_bool hq hx
    refine ⟨.bool (!b), run_val (s := Op.unary .not (ρ x)) ?_, by simp only [VR, bnot_eq]⟩
    rw [ex]; rfl
  · rename_i hx
    cases hev
    have := hq x
    rw [hx] at this
    simp only [VR] at this
    obtain ⟨b, ex⟩ := this
    refine ⟨.bool (!b), run_val (s := Op.unary .not (ρ x)) ?_, by simp only [VR]; exact ⟨_, rfl⟩⟩
    rw [ex]; rfl
  · cases hev

/-- a call of a builtin that hands back a value -/
theorem run_builtin {b : Builtin} {xs : Array Operand} {ats : Array TypeId} {v : Value} {s : Sem Value} {w' : World}
    (hb : builtin b ats ty (xs.map fun | .const _ => true | _ => false) (xs.map ρ) = (do pure (Next.value (← s)))) (hs : s.run P w = .ok v w') :
    (execOp ρ ⟨d, .call { callee := .builtin b, args := xs, argTypes := ats }, ty, pos, af, gd⟩).run P w = .ok (.value v) w' := by
  show (do let d ← resolve ρ { callee := .builtin b, args := xs, argTypes := ats } ty; invoke d.target d.args).run P w = _
  have : resolve ρ { callee := .builtin b, args := xs, argTypes := ats } ty = pure { target := .builtin b ats ty (xs.map fun | .const _ => true | _ => false), args := xs.map ρ } := rfl
  rw [this]
  simp only [Sem.run_bind, Sem.run_pure, Result.andThen_ok, invoke]
  show (builtin b ats ty _ _).run P w = _
  rw [hb]
  exact run_val hs

theorem head_args {xs : Array Operand} {x : Operand} {l : List Operand} (hx : xs.toList = x :: l) : (xs.map ρ)[0]? = some (ρ x) := by
  rw [← Array.getElem?_toList]; simp [hx]
theorem head_types {ts : Array TypeId} {t : TypeId} {l : List TypeId} (ht : ts.toList = t :: l) : ts[0]? = some t := by
  rw [← Array.getElem?_toList]; simp [ht]

include hE hq in
theorem p_lenStr {xs : Array Operand} {ats : Array TypeId} {x : Operand} {l : List Operand} {t : TypeId} {ts : List TypeId} (hx : xs.toList = x :: l) (ht : ats.toList = t :: ts)
    (hu : E.und t = some .string) (hev : xLenStr (q x) h L = some a) : Gives P ρ w μ ⟨d, .call { callee := .builtin .len, args := xs, argTypes := ats }, ty, pos, af, gd⟩ a := by
  obtain ⟨s, hs, hev⟩ := asStr_some hev
  rw [natF_eq] at hev
  cases hev
  obtain ⟨b, ex, hb⟩ := q_str hq hs
  refine ⟨goInt b.size, run_builtin rfl (s := Builtin.len_ ats ty (xs.map ρ)) ?_, ?_⟩
  · simp only [Builtin.len_, head_args hx, head_types ht, Sem.run_bind, hE.runUnd hu, Result.andThen_ok, ex]; rfl
  · simp only [VR, ← hb, List.length_map, Array.length_toList]; rfl

include hE hq in
theorem p_lenSl {xs : Array Operand} {ats : Array TypeId} {x : Operand} {l : List Operand} {t el : TypeId} {ts : List TypeId} (hx : xs.toList = x :: l) (ht : ats.toList = t :: ts)
    (hu : E.und t = some (.slice el)) (hev : xLenSl (q x) h L = some a) : Gives P ρ w μ ⟨d, .call { callee := .builtin .len, args := xs, argTypes := ats }, ty, pos, af, gd⟩ a := by
  unfold xLenSl at hev
  have fin : ∀ b n c, ρ x = .slice b n c → a = .int .i64 (.ofNat n) → Gives P ρ w μ ⟨d, .call { callee := .builtin .len, args := xs, argTypes := ats }, ty, pos, af, gd⟩ a := by
    rintro b n c ex rfl
    refine ⟨goInt n, run_builtin rfl (s := Builtin.len_ ats ty (xs.map ρ)) ?_, by simp only [VR]; rfl⟩
    simp only [Builtin.len_, head_args hx, head_types ht, Sem.run_bind, hE.runUnd hu, Result.andThen_ok, ex]; rfl
  cases hs : getO (q x) L with
  | slice f g o n c s e =>
    rw [hs] at hev
    obtain ⟨b, s', m, a', c', hm, ex, _⟩ := q_slice hq hs
    exact fin _ _ _ ex (by cases hev; rfl)
  | slice0 =>
    rw [hs] at hev
    have := hq x; rw [hs] at this; simp only [VR] at this
    exact fin _ _ _ this (by cases hev; rfl)
  | sl lo hi =>
    rw [hs] at hev
    have := hq x; rw [hs] at this; simp only [VR] at this
    obtain ⟨b, n, c, ex, hn0, hn⟩ := this
    cases hev
    refine ⟨goInt n, run_builtin rfl (s := Builtin.len_ ats ty (xs.map ρ)) ?_, by simp only [VR]; exact ⟨n, rfl, by simp; omega, by simp; omega⟩⟩
    simp only [Builtin.len_, head_args hx, head_types ht, Sem.run_bind, hE.runUnd hu, Result.andThen_ok, ex]; rfl
  | _ => rw [hs] at hev; cases hev

include hE in
theorem p_lenArr {xs : Array Operand} {ats : Array TypeId} {x : Operand} {l : List Operand} {t el : TypeId} {n : Nat} {ts : List TypeId} (hx : xs.toList = x :: l) (ht : ats.toList = t :: ts)
    (hu : E.und t = some (.array n el)) (hev : xLenC n h L = some a) : Gives P ρ w μ ⟨d, .call { callee := .builtin .len, args := xs, argTypes := ats }, ty, pos, af, gd⟩ a := by
  cases hev
  refine ⟨goInt n, run_builtin rfl (s := Builtin.len_ ats ty (xs.map ρ)) ?_, by simp only [VR]; rfl⟩
  simp only [Builtin.len_, head_args hx, head_types ht, Sem.run_bind, hE.runUnd hu, Result.andThen_ok]
  rfl

include hE in
theorem p_lenPArr {xs : Array Operand} {ats : Array TypeId} {x : Operand} {l : List Operand} {t t' el : TypeId} {n : Nat} {ts : List TypeId} (hx : xs.toList = x :: l) (ht : ats.toList = t :: ts)
    (hu : E.und t = some (.pointer t')) (hu' : E.und t' = some (.array n el)) (hev : xLenC n h L = some a) : Gives P ρ w μ ⟨d, .call { callee := .builtin .len, args := xs, argTypes := ats }, ty, pos, af, gd⟩ a := by
  cases hev
  refine ⟨goInt n, run_builtin rfl (s := Builtin.len_ ats ty (xs.map ρ)) ?_, by simp only [VR]; rfl⟩
  simp only [Builtin.len_, head_args hx, head_types ht, Sem.run_bind, hE.runUnd hu, hE.runUnd hu', Result.andThen_ok]
  rfl

include hE hq in
theorem p_capSl {xs : Array Operand} {ats : Array TypeId} {x : Operand} {l : List Operand} {t el : TypeId} {ts : List TypeId} (hx : xs.toList = x :: l) (ht : ats.toList = t :: ts)
    (hu : E.und t = some (.slice el)) (hev : xCapSl (q x) h L = some a) : Gives P ρ w μ ⟨d, .call { callee := .builtin .cap, args := xs, argTypes := ats }, ty, pos, af, gd⟩ a := by
  obtain ⟨f, g, o, n, c, s, e, hs, hev⟩ := asSlice_some hev
  obtain ⟨b, s', m, a', c', hm, ex, _, _, he, _⟩ := q_slice hq hs
  obtain ⟨rfl, hev⟩ := cnd_inv hev
  cases hev
  have := he rfl; subst this
  refine ⟨goInt c', run_builtin rfl (s := Builtin.cap_ ats ty (xs.map ρ)) ?_, by simp only [VR]; rfl⟩
  simp only [Builtin.cap_, head_args hx, head_types ht, Sem.run_bind, hE.runUnd hu, Result.andThen_ok, ex]
  rfl

include hq in
theorem p_nilck {x : Operand} (hev : xNilck (q x) h L = some a) : Gives P ρ w μ ⟨d, .nilCheck x, ty, pos, af, gd⟩ a := by
  unfold xNilck at hev
  have hx := hq x
  cases hs : getO (q x) L with
  | ptr f g o =>
    rw [hs] at hev
    cases hev
    obtain ⟨b, s, n, hm, hle, ex⟩ := q_ptr hq hs
    refine ⟨ρ x, ?_, by rw [hs] at hx; exact hx⟩
    show (match ρ x with | .pointer none | .nilIface | .nilFunc => runtimePanic .nilDeref | .func (.method name) first captured => _ | x => pure (.value x) : Sem Next).run P w = _
    rw [ex]; rfl
  | iface t v =>
    rw [hs] at hev
    cases hev
    obtain ⟨y, ex, hy⟩ := q_iface hq hs
    refine ⟨ρ x, ?_, by rw [hs] at hx; exact hx⟩
    show (match ρ x with | .pointer none | .nilIface | .nilFunc => runtimePanic .nilDeref | .func (.method name) first captured => _ | x => pure (.value x) : Sem Next).run P w = _
    rw [ex]; rfl
  | func fn f c =>
    rw [hs] at hev hx
    simp only [VR] at hx
    obtain ⟨F, fs, cs, ex, hF, h1, h2⟩ := hx
    have hn : ∀ nm, F ≠ .method nm := by
      rintro nm rfl
      cases fn with
      | fn f' => cases hF; cases hev
      | yield l => obtain ⟨b, s, n, _, hh⟩ := hF; cases hh
    have ha : a = .func fn f c := by
      cases fn with
      | fn f' => cases f' <;> first | (cases hev; rfl) | cases hev
      | yield l => cases hev; rfl
    subst ha
    refine ⟨ρ x, ?_, by simp only [VR]; exact ⟨F, fs, cs, ex, hF, h1, h2⟩⟩
    show (match ρ x with | .pointer none | .nilIface | .nilFunc => runtimePanic .nilDeref | .func (.method name) first captured => _ | x => pure (.value x) : Sem Next).run P w = _
    rw [ex]
    cases F <;> first | rfl | exact absurd rfl (hn _)
  | _ => rw [hs] at hev; cases hev

end
end Go.Ev


namespace Go.Ev
set_option linter.unusedVariables false
set_option linter.unusedSectionVars false

theorem bnd_some {R : Type} {x : Option Opd} {L : Lo} {dflt : Nat} {k : Nat → Option R} {r : R} (hh : bnd x L dflt none k = some r) :
    (x = none ∧ k dflt = some r) ∨ ∃ o kk n, x = some o ∧ getO o L = .int kk (.ofNat n) ∧ k n = some r := by
  cases x with
  | none => exact .inl ⟨rfl, hh⟩
  | some o =>
    obtain ⟨kk, n, h1, h2⟩ := asInt_some (show asInt (getO o L) none _ = some r from hh)
    rw [icase_eq] at h2
    cases n with
    | ofNat i => exact .inr ⟨o, kk, i, rfl, h1, h2⟩
    | negSucc i => cases h2

section
variable {E : Env} {P : Program} (hE : EnvOk E P) {B : Nat} {μ : Mu} {h : Hp} {w : World} (hH : HR B μ h w)
  {L : Lo} {ρ : Operand → Value} {q : Operand → Opd} (hq : ∀ x, VR μ (getO (q x) L) (ρ x))
  {d : Option Tmp} {ty : TypeId} {pos : String} {af : Array Edge} {gd : Option (Nat × Bool)} {a : AV}

/-- what a bound of a slice expression comes to -/
def Bd (ρ : Operand → Value) (x : Option Operand) (dflt n : Nat) : Prop := (x = none ∧ n = dflt) ∨ ∃ o k, x = some o ∧ ρ o = .int k (Int.ofNat n)
include hq in
theorem bnd_q {R : Type} {x : Option Operand} {dflt : Nat} {k : Nat → Option R} {r : R} (hh : bnd (x.map q) L dflt none k = some r) : ∃ n, Bd ρ x dflt n ∧ k n = some r := by
  rcases bnd_some hh with ⟨h1, h2⟩ | ⟨o, kk, n, h1, h2, h3⟩
  · cases x with
    | none => exact ⟨dflt, .inl ⟨rfl, rfl⟩, h2⟩
    | some o => cases h1
  · cases x with
    | none => cases h1
    | some o' =>
      simp only [Option.map_some, Option.some.injEq] at h1
      subst h1
      exact ⟨n, .inr ⟨o', kk, rfl, q_int hq h2⟩, h3⟩

theorem run_bound {k : IntKind} {n y : Nat} {c : BoundsCode} (hn : n ≤ y) : (Instr.sliceBound (.int k (n : Int)) y c).run P w = .ok n w := by
  simp only [Instr.sliceBound, asIntOf, Sem.run_bind, Sem.run_pure, Result.andThen_ok, Sem.run_ite]
  rw [if_pos ⟨by simp, by simpa using hn⟩]
  rfl

/-- the three bounds -/
theorem run_bounds {isSl : Bool} {len cap l hh m : Nat} {lo hi mx : Option Operand} (h1 : Bd ρ lo 0 l) (h2 : Bd ρ hi len hh) (h3 : Bd ρ mx cap m)
    (hb1 : l ≤ hh) (hb2 : hh ≤ m) (hb3 : m ≤ cap) (hn : ¬ (hi = none ∧ mx.isSome = true)) :
    (Instr.sliceBounds isSl len cap (lo.map ρ) (hi.map ρ) (mx.map ρ)).run P w = .ok (l, hh, m) w := by
  rcases h3 with ⟨rfl, rfl⟩ | ⟨o3, k3, rfl, e3⟩
  · rcases h2 with ⟨rfl, rfl⟩ | ⟨o2, k2, rfl, e2⟩
    · rcases h1 with ⟨rfl, rfl⟩ | ⟨o1, k1, rfl, e1⟩
      · simp [Instr.sliceBounds]
      · simp [Instr.sliceBounds, e1, run_bound hb1]
    · rcases h1 with ⟨rfl, rfl⟩ | ⟨o1, k1, rfl, e1⟩
      · simp [Instr.sliceBounds, e2, run_bound hb2]
      · simp [Instr.sliceBounds, e1, e2, run_bound hb1, run_bound hb2]
  · rcases h2 with ⟨rfl, rfl⟩ | ⟨o2, k2, rfl, e2⟩
    · exact absurd ⟨rfl, rfl⟩ hn
    · rcases h1 with ⟨rfl, rfl⟩ | ⟨o1, k1, rfl, e1⟩
      · simp [Instr.sliceBounds, e2, e3, run_bound hb2, run_bound hb3]
      · simp [Instr.sliceBounds, e1, e2, e3, run_bound hb1, run_bound hb2, run_bound hb3]


include hE hq in
theorem p_sliceStr {t : TypeId} {x : Operand} {lo hi : Option Operand} (hu : E.und t = some .string) (hev : xSliceStr (q x) (lo.map q) (hi.map q) h L = some a) :
    Gives P ρ w μ ⟨d, .slice t x lo hi none, ty, pos, af, gd⟩ a := by
  obtain ⟨s, hs, hev⟩ := asStr_some hev
  obtain ⟨l, h1, hev⟩ := bnd_q hq hev
  obtain ⟨hh, h2, hev⟩ := bnd_q hq hev
  obtain ⟨hb2, hev⟩ := cnd_inv hev
  obtain ⟨hb1, hev⟩ := cnd_inv hev
  cases hev
  obtain ⟨b, ex, hb⟩ := q_str hq hs
  have l1 := Nat.le_of_ble_eq_true hb1
  have l2 := Nat.le_of_ble_eq_true hb2
  have hsz : s.length = b.size := by rw [← hb]; simp
  rw [hsz] at h2 l2
  refine ⟨.string (b.extract l hh), run_val (s := Instr.sliceAt t (ρ x) (lo.map ρ) (hi.map ρ) none) ?_, ?_⟩
  · have hr := run_bounds (P := P) (w := w) (isSl := false) (mx := none) h1 h2 (.inl ⟨rfl, rfl⟩) l1 l2 (Nat.le_refl _) (by simp)
    simp only [Option.map_none] at hr
    rw [ex]
    simp only [Instr.sliceAt, Sem.run_bind, hE.runUnd hu, Result.andThen_ok, Instr.slice, Option.isSome_none, Bool.false_eq_true, if_false, hr, Sem.run_pure]
  · simp only [VR]
    refine ⟨_, rfl, ?_⟩
    rw [← hb]
    simp [List.map_take, List.map_drop, List.take_drop]
    rw [show l + (hh - l) = hh from by omega]


/-- a slice cut out of a slice -/
theorem cutSl_sound {f : Key} {g o len cap sz : Nat} {ex full : Bool} {l hh m : Nat} {b s n x c mc : Nat} (hev : cutSl f g o len cap sz ex l hh m full = some a)
    (hm : μ f g = some (b, s, n)) (hcap : cap ≤ c) (hex : ex = true → c = cap) (hpl : (s ≤ o ∧ x = o - s ∧ x + c * sz ≤ n) ∨ c = 0)
    (hmc : mc = if full then m else c) :
    l ≤ hh ∧ hh ≤ m ∧ m ≤ cap ∧ VR μ a (.slice (if mc = l then some ⟨b, x, none⟩ else some ((⟨b, x, none⟩ : Addr).add (l * sz))) (hh - l) (mc - l)) := by
  obtain ⟨h1, hev⟩ := cnd_inv hev
  obtain ⟨h2, hev⟩ := cnd_inv hev
  obtain ⟨h3, hev⟩ := cnd_inv hev
  have l1 := Nat.le_of_ble_eq_true h1
  have l2 := Nat.le_of_ble_eq_true h2
  have l3 := Nat.le_of_ble_eq_true h3
  refine ⟨l1, l2, l3, ?_⟩
  have hadd : (⟨b, x, none⟩ : Addr).add (l * sz) = ⟨b, x + l * sz, none⟩ := by
    unfold Addr.add
    split
    · rename_i h0; rw [h0]; rfl
    · rfl
  rw [hadd]
  have hmcm : m ≤ mc ∧ mc ≤ c := by subst hmc; split <;> omega
  have place : ∀ (p : Nat), (if mc = l then some (⟨b, x, none⟩ : Addr) else some ⟨b, x + l * sz, none⟩) = some ⟨b, (if mc = l then x else x + l * sz), none⟩ := by
    intro _; split <;> rfl
  rw [place 0]
  have main : ∀ (cp : Nat) (e : Bool), a = .slice f g (Nat.add o (Nat.mul l sz)) (Nat.sub hh l) cp sz e → hh - l ≤ cp → cp ≤ mc - l → (e = true → mc - l = cp) →
      VR μ a (.slice (some ⟨b, (if mc = l then x else x + l * sz), none⟩) (hh - l) (mc - l)) := by
    rintro cp e rfl p1 p2 p3
    simp only [VR]
    refine ⟨b, s, n, _, mc - l, hm, rfl, p1, p2, p3, ?_⟩
    by_cases hml : mc = l
    · right; exact ⟨show hh - l = 0 by omega, by omega⟩
    · rcases hpl with ⟨q1, q2, q3⟩ | q
      · left
        rw [if_neg hml]
        refine ⟨by show s ≤ o + l * sz; omega, by show _ = o + l * sz - s; omega, ?_⟩
        have : l * sz + (mc - l) * sz = mc * sz := by rw [← Nat.add_mul]; congr 1; omega
        have := Nat.mul_le_mul_right sz hmcm.2
        omega
      · omega
  cases full with
  | true =>
    have ha : a = .slice f g (Nat.add o (Nat.mul l sz)) (Nat.sub hh l) (Nat.sub m l) sz true := by
      have : some _ = some a := hev
      exact (Option.some.inj this).symm
    have hmc' : mc = m := by simpa using hmc
    exact main (m - l) true ha (by omega) (by omega) (fun _ => by omega)
  | false =>
    have ha : a = .slice f g (Nat.add o (Nat.mul l sz)) (Nat.sub hh l) (Nat.sub cap l) sz ex := by
      have : some _ = some a := hev
      exact (Option.some.inj this).symm
    have hmc' : mc = c := by simpa using hmc
    exact main (cap - l) ex ha (by omega) (by omega) (fun he => by have := hex he; omega)

include hE hq in
theorem p_sliceSl {t el : TypeId} {n : Nat} {x : Operand} {lo hi mx : Option Operand} (hu : E.und t = some (.slice el)) (hsz : E.size el = some n) (hn : ¬ (hi = none ∧ mx.isSome = true))
    (hev : xSliceSl n (q x) (lo.map q) (hi.map q) (mx.map q) h L = some a) : Gives P ρ w μ ⟨d, .slice t x lo hi mx, ty, pos, af, gd⟩ a := by
  unfold xSliceSl at hev
  cases hs : getO (q x) L with
  | slice f g o len cap sz ex =>
    rw [hs] at hev
    replace hev := cnd_inv (show cnd (Nat.beq n sz) _ none = some a from hev)
    have hnz : n = sz := Nat.eq_of_beq_eq_true hev.1
    subst hnz
    obtain ⟨l, b1, hev⟩ := bnd_q hq hev.2
    obtain ⟨hh, b2, hev⟩ := bnd_q hq hev
    obtain ⟨m, b3, hev⟩ := bnd_q hq hev
    obtain ⟨b, s, k, x0, c, hm, ex', hl, hc, he, hp⟩ := q_slice hq hs
    have hfull : (mx.map q).isSome = mx.isSome := by cases mx <;> rfl
    rw [hfull] at hev
    obtain ⟨c1, c2, c3, hv⟩ := cutSl_sound (mc := if mx.isSome then m else c) hev hm hc he (hp.imp id And.right) rfl
    refine ⟨_, run_val (s := Instr.sliceAt t (ρ x) (lo.map ρ) (hi.map ρ) (mx.map ρ)) ?_, hv⟩
    have b3' : Bd ρ mx c (if mx.isSome then m else c) := by
      rcases b3 with ⟨rfl, rfl⟩ | ⟨o3, k3, rfl, e3⟩
      · exact .inl ⟨rfl, rfl⟩
      · exact .inr ⟨o3, k3, rfl, e3⟩
    have hmle : hh ≤ (if mx.isSome then m else c) ∧ (if mx.isSome then m else c) ≤ c := by split <;> omega
    have hr := run_bounds (P := P) (w := w) (isSl := true) b1 b2 b3' c1 hmle.1 hmle.2 hn
    rw [ex']
    simp only [Instr.sliceAt, Sem.run_bind, hE.runUnd hu, Result.andThen_ok, Instr.slice, hr, hE.runSize hsz, Sem.run_pure]
    congr 2
  | slice0 =>
    rw [hs] at hev
    replace hev : bnd (lo.map q) L 0 none (fun l => bnd (hi.map q) L 0 none fun hh => bnd (mx.map q) L 0 none fun m => cnd (Nat.beq (l + hh + m) 0) (some .slice0) none) = some a := hev
    obtain ⟨l, b1, hev⟩ := bnd_q hq hev
    obtain ⟨hh, b2, hev⟩ := bnd_q hq hev
    obtain ⟨m, b3, hev⟩ := bnd_q hq hev
    obtain ⟨h0, hev⟩ := cnd_inv hev
    have z := Nat.eq_of_beq_eq_true h0
    have z1 : l = 0 := by omega
    have z2 : hh = 0 := by omega
    have z3 : m = 0 := by omega
    subst z1 z2 z3
    cases hev
    have ex := hq x
    rw [hs] at ex
    simp only [VR] at ex
    have hr := run_bounds (P := P) (w := w) (isSl := true) b1 b2 b3 (Nat.le_refl _) (Nat.le_refl _) (Nat.le_refl _) hn
    refine ⟨.slice none 0 0, run_val (s := Instr.sliceAt t (ρ x) (lo.map ρ) (hi.map ρ) (mx.map ρ)) ?_, by simp only [VR]⟩
    rw [ex]
    simp only [Instr.sliceAt, Sem.run_bind, hE.runUnd hu, Result.andThen_ok, Instr.slice, hr, hE.runSize hsz, Sem.run_pure]
    rfl
  | _ => rw [hs] at hev; cases hev

end
end Go.Ev


namespace Go.Ev
set_option linter.unusedVariables false
set_option linter.unusedSectionVars false

section
variable {E : Env} {P : Program} (hE : EnvOk E P) {B : Nat} {μ : Mu} {h : Hp} {w : World} (hH : HR B μ h w)
  {L : Lo} {ρ : Operand → Value} {q : Operand → Opd} (hq : ∀ x, VR μ (getO (q x) L) (ρ x))
  {d : Option Tmp} {ty : TypeId} {pos : String} {af : Array Edge} {gd : Option (Nat × Bool)} {a : AV}

include hq in
theorem idx_q {R : Type} {ix : Operand} {k : Nat → Option R} {r : R} (hh : idx (q ix) L none k = some r) : ∃ kk i, ρ ix = .int kk (i : Nat) ∧ k i = some r := by
  obtain ⟨kk, i, h1, h2⟩ := idx_some hh
  exact ⟨kk, i, q_int hq h1, h2⟩

theorem add_zero_spot (b x n : Nat) : (⟨b, x, none⟩ : Addr).add n = ⟨b, x + n, none⟩ := by
  unfold Addr.add
  split
  · rename_i h0; rw [h0]; rfl
  · rfl

include hE hq in
theorem p_idxSl {t el : TypeId} {n : Nat} {x ix : Operand} (hu : E.und t = some (.slice el)) (hsz : E.size el = some n) (hev : xIdxSl n (q x) (q ix) h L = some a) :
    Gives P ρ w μ ⟨d, .indexAddr t x ix, ty, pos, af, gd⟩ a := by
  obtain ⟨f, g, o, len, cap, sz, ex, hs, hev⟩ := asSlice_some hev
  obtain ⟨kk, i, ei, hev⟩ := idx_q hq hev
  obtain ⟨hc, hev⟩ := cnd_inv hev
  have hnz : n = sz := by
    cases hb : Nat.beq n sz with
    | true => exact Nat.eq_of_beq_eq_true hb
    | false => rw [hb] at hc; cases hc
  subst hnz
  have hlt : i < len := by
    cases hb : Nat.blt i len with
    | true => simpa using hb
    | false => rw [hb] at hc; cases hh : Nat.beq n n <;> rw [hh] at hc <;> cases hc
  rw [natF_eq] at hev
  cases hev
  obtain ⟨b, s, k, x0, c, hm, ex', hl, hcp, he, hp⟩ := q_slice hq hs
  have hp' : s ≤ o ∧ x0 = o - s := by
    rcases hp with ⟨p1, p2, p3⟩ | ⟨p1, p2⟩
    · exact ⟨p1, p2⟩
    · omega
  refine ⟨.pointer (some ⟨b, o + i * n - s, none⟩), run_val (s := Instr.indexAt t (ρ x) (ρ ix)) ?_, ?_⟩
  · rw [ex', ei]
    simp only [Instr.indexAt, asIntOf, Sem.run_bind, Sem.run_pure, Result.andThen_ok, hE.runUnd hu, hE.runSize hsz, Sem.run_ite]
    rw [if_pos ⟨by omega, by omega⟩]
    simp only [Sem.run_bind, Result.andThen_ok, Sem.run_pure, hE.runSize hsz, add_zero_spot, Int.toNat_natCast]
    rw [hp'.2, show o - s + i * n = o + i * n - s from by omega]
  · simp only [VR]; exact ⟨b, s, k, hm, by show s ≤ o + i * n; omega, rfl⟩

include hE hq in
theorem p_idxArr {t el : TypeId} {n sz : Nat} {x ix : Operand} (hu : E.und t = some (.array n el)) (hsz : E.size el = some sz) (hev : xIdxArr n sz (q x) (q ix) h L = some a) :
    Gives P ρ w μ ⟨d, .indexAddr t x ix, ty, pos, af, gd⟩ a := by
  obtain ⟨f, g, o, hs, hev⟩ := asPtr_some hev
  obtain ⟨kk, i, ei, hev⟩ := idx_q hq hev
  obtain ⟨hc, hev⟩ := cnd_inv hev
  have hlt : i < n := by simpa using hc
  rw [natF_eq] at hev
  cases hev
  obtain ⟨b, s, k, hm, hle, ex'⟩ := q_ptr hq hs
  refine ⟨.pointer (some ⟨b, o + i * sz - s, none⟩), run_val (s := Instr.indexAt t (ρ x) (ρ ix)) ?_, ?_⟩
  · rw [ex', ei]
    simp only [Instr.indexAt, asIntOf, Instr.sureAddr, Sem.run_bind, Sem.run_pure, Result.andThen_ok, hE.runUnd hu, hE.runSize hsz, Sem.run_ite]
    rw [if_pos ⟨by omega, by omega⟩]
    simp only [Sem.run_bind, Result.andThen_ok, Sem.run_pure, hE.runSize hsz, add_zero_spot, Int.toNat_natCast]
    rw [show o - s + i * sz = o + i * sz - s from by omega]
  · simp only [VR]; exact ⟨b, s, k, hm, by show s ≤ o + i * sz; omega, rfl⟩

theorem nthN_eq {R : Type} (k : Nat → Option R) : ∀ (l : List Nat) (i : Nat), nthN none k l i = match l[i]? with | some b => k b | none => none
  | [], i => by simp [nthN]
  | b :: l, 0 => rfl
  | b :: l, i + 1 => by show nthN none k l i = _; rw [nthN_eq k l i]; rfl

include hE hq in
theorem p_idxStr {t : TypeId} {x ix : Operand} (hu : E.und t = some .string) (hev : xIdxStr (q x) (q ix) h L = some a) :
    Gives P ρ w μ ⟨d, .index t x ix, ty, pos, af, gd⟩ a := by
  obtain ⟨s, hs, hev⟩ := asStr_some hev
  obtain ⟨kk, i, ei, hev⟩ := idx_q hq hev
  rw [nthN_eq] at hev
  obtain ⟨b, ex', hb⟩ := q_str hq hs
  split at hev
  · rename_i c hc
    cases hev
    rw [← hb] at hc
    have hlt : i < b.size := by
      rcases Nat.lt_or_ge i b.size with h' | h'
      · exact h'
      · rw [List.getElem?_eq_none (by simpa using h')] at hc; cases hc
    refine ⟨.int .u8 (b[i]'hlt).toNat, run_val (s := Instr.index t (ρ x) (ρ ix)) ?_, ?_⟩
    · rw [ex', ei]
      rw [run_index_string w t b kk i (hE.und hu)]
      rw [dif_pos ⟨by omega, by omega⟩]
      simp
    · simp only [VR]
      rw [List.getElem?_map] at hc
      have : b.data.toList[i]? = some b[i] := by
        rw [Array.getElem?_toList]
        exact Array.getElem?_eq_getElem hlt
      rw [this] at hc
      simp at hc
      rw [← hc]; rfl
  · cases hev

/-- a part of an aggregate -/
theorem cut_sound {agg : Bool} {n off : Nat} {t : TypeId} {ds : TypeDesc} {l : List AV} {cs : Array Value} (hu : E.und t = some ds) (hsz : E.size t = some n) (hag : isAggT ds = agg)
    (hE : EnvOk E P) (hl : VRs μ l cs.toList) (hev : cutA agg n l off = some a) : ∃ v, (part t cs off).run P w = .ok v w ∧ VR μ a v := by
  cases agg with
  | true =>
    cases hev
    refine ⟨.agg (cs.extract off (off + n)), ?_, ?_⟩
    · simp only [part, Sem.run_bind, hE.runAgg hu, hag, Result.andThen_ok, if_true, hE.runSize hsz, Sem.run_pure]
    · simp only [VR]
      refine ⟨_, rfl, ?_⟩
      rw [Array.toList_extract, List.extract_eq_take_drop, show off + n - off = n from by omega]
      exact (hl.drop off).take n
  | false =>
    have hev : l[off]? = some a := hev
    obtain ⟨v, hv, hr⟩ := hl.get hev
    refine ⟨v, ?_, hr⟩
    rw [Array.getElem?_toList] at hv
    simp only [part, Sem.run_bind, hE.runAgg hu, hag, Result.andThen_ok, Bool.false_eq_true, if_false, hv]
    rfl

include hE hq in
theorem p_idxAgg {t el : TypeId} {n sz : Nat} {agg : Bool} {x ix : Operand} (hu : E.und t = some (.array n el)) (hsz : E.szA el = some (sz, agg)) (hev : xIdxAgg n sz agg (q x) (q ix) h L = some a) :
    Gives P ρ w μ ⟨d, .index t x ix, ty, pos, af, gd⟩ a := by
  obtain ⟨l, hs, hev⟩ := asAgg_some hev
  obtain ⟨kk, i, ei, hev⟩ := idx_q hq hev
  obtain ⟨hc, hev⟩ := cnd_inv hev
  have hlt : i < n := by simpa using hc
  obtain ⟨cs, ex', hl⟩ := q_agg hq hs
  obtain ⟨ds, h1, h2, h3⟩ := szA_some hsz
  obtain ⟨v, hv, hr⟩ := cut_sound (w := w) h1 h2 h3 hE hl hev
  refine ⟨v, run_val (s := Instr.index t (ρ x) (ρ ix)) ?_, hr⟩
  rw [ex', ei]
  simp only [Instr.index, asIntOf, Sem.run_bind, Sem.run_pure, Result.andThen_ok, hE.runUnd hu, Sem.run_ite]
  rw [if_pos ⟨by omega, by omega⟩]
  simp only [Sem.run_bind, hE.runSize h2, Result.andThen_ok, Int.toNat_natCast]
  exact hv

include hE hq in
theorem p_field {t : TypeId} {i n : Nat} {agg : Bool} {x : Operand} {fs : List Field} {fd : Field} (ht : fieldsOf E t = some fs) (hf : fs[i]? = some fd) (hsz : E.szA fd.type = some (n, agg))
    (hev : xField fd.offset n agg (q x) h L = some a) : Gives P ρ w μ ⟨d, .field t x i, ty, pos, af, gd⟩ a := by
  obtain ⟨l, hs, hev⟩ := asAgg_some hev
  obtain ⟨cs, ex', hl⟩ := q_agg hq hs
  obtain ⟨ds, h1, h2, h3⟩ := szA_some hsz
  obtain ⟨v, hv, hr⟩ := cut_sound (w := w) h1 h2 h3 hE hl hev
  unfold fieldsOf at ht
  split at ht
  · rename_i fa hu
    simp only [Option.some.injEq] at ht
    subst ht
    have hfa : fa[i]? = some fd := by rw [← Array.getElem?_toList]; exact hf
    refine ⟨v, run_val (s := Instr.field t (ρ x) i) ?_, hr⟩
    rw [ex']
    simp only [Instr.field, Sem.run_bind, hE.runUnd hu, Result.andThen_ok, hfa, Go.asAgg, Sem.run_pure]
    exact hv
  · cases ht

end
end Go.Ev


namespace Go.Ev
set_option linter.unusedVariables false
set_option linter.unusedSectionVars false
set_option linter.unusedSimpArgs false

section
variable {E : Env} {P : Program} (hE : EnvOk E P) {B : Nat} {μ : Mu} {h : Hp} {w : World} (hH : HR B μ h w)
  {L : Lo} {ρ : Operand → Value} {q : Operand → Opd} (hq : ∀ x, VR μ (getO (q x) L) (ρ x))
  {d : Option Tmp} {ty : TypeId} {pos : String} {af : Array Edge} {gd : Option (Nat × Bool)} {a : AV}

theorem cell_lt {b x n : Nat} {v : Value} {cs : Array Value} {e : TypeId} {fz : Nat × Nat} (hb : w.heap[b]? = some (.cells cs e fz)) (hn : cs.size = n) (hc : w.cell? ⟨b, x, none⟩ = some v) : x < n := by
  rw [cell?_of_block hb] at hc
  rcases Nat.lt_or_ge x cs.size with h' | h'
  · omega
  · simp [Array.getElem?_eq_none h'] at hc

include hH in
theorem arrThere_sound {f : Key} {g o n sz b s k : Nat} (hm : μ f g = some (b, s, k)) (hs : s ≤ o) (ht : arrThere h f g o n sz = true) : n = 0 ∨ o - s + n * sz ≤ k := by
  by_cases hn : n = 0
  · exact .inl hn
  right
  unfold arrThere at ht
  have h1 : Nat.beq n 0 = false := by rw [Bool.eq_false_iff]; intro hh; exact hn (Nat.eq_of_beq_eq_true hh)
  rw [h1] at ht
  by_cases hz : sz = 0
  · subst hz; cases ht
  have h2 : Nat.beq sz 0 = false := by rw [Bool.eq_false_iff]; intro hh; exact hz (Nat.eq_of_beq_eq_true hh)
  rw [h2] at ht
  cases hg : getCell h f g (Nat.sub (Nat.add o (Nat.mul n sz)) 1) with
  | none => rw [hg] at ht; cases ht
  | some a' =>
    have hpos : 0 < n * sz := Nat.mul_pos (by omega) (by omega)
    obtain ⟨v, hv, _⟩ := getCell_sound hH hm (by show s ≤ o + n * sz - 1; omega) hg
    obtain ⟨ro, gen, z, dp, ext, c, ho, _⟩ := asCells_some hg
    obtain ⟨_, _, hb⟩ := hH.cells ho
    obtain ⟨_, _, cs, e, fz, hheap, hfz, hsz, _⟩ := hb g b s k hm
    have := cell_lt hheap hsz hv
    have : o + n * sz - 1 - s < k := this
    omega

/-- where the operand is the address of an array -/
theorem p_arr {t el : TypeId} {n sz : Nat} {x : Operand} {lo hi mx : Option Operand} {v : Value} {b x0 l hh m mc : Nat} (hE : EnvOk E P)
    (hu : E.und t = some (.array n el) ∨ ∃ ar, E.und t = some (.pointer ar) ∧ E.und ar = some (.array n el)) (hsz : E.size el = some sz)
    (ex : ρ x = .pointer (some ⟨b, x0, none⟩)) (hr : (Instr.sliceBounds false n n (lo.map ρ) (hi.map ρ) (mx.map ρ)).run P w = .ok (l, hh, mc) w) :
    (Instr.sliceAt t (ρ x) (lo.map ρ) (hi.map ρ) (mx.map ρ)).run P w = .ok (.slice (if mc = l then some ⟨b, x0, none⟩ else some ((⟨b, x0, none⟩ : Addr).add (l * sz))) (hh - l) (mc - l)) w := by
  have hv : ∀ (c : Prop) [Decidable c] (u v : Addr), (some (if c then u else v) : Option Addr) = if c then some u else some v := by intro c _ u v; split <;> rfl
  rcases hu with hu | ⟨ar, hu, hu2⟩
  · rw [ex]
    simp only [Instr.sliceAt, Sem.run_bind, hE.runUnd hu, Result.andThen_ok, Instr.sureAddr, Sem.run_pure, hr, hE.runSize hsz, hv]
  · rw [ex]
    simp only [Instr.sliceAt, Instr.slice, Sem.run_bind, hE.runUnd hu, hE.runUnd hu2, Result.andThen_ok, asAddr, Sem.run_pure, hr, hE.runSize hsz, hv]

include hE hH hq in
theorem p_sliceArr {t el : TypeId} {n sz : Nat} {x : Operand} {lo hi mx : Option Operand}
    (hu : E.und t = some (.array n el) ∨ ∃ ar, E.und t = some (.pointer ar) ∧ E.und ar = some (.array n el)) (hsz : E.size el = some sz) (hn : ¬ (hi = none ∧ mx.isSome = true))
    (hev : xSliceArr n sz (q x) (lo.map q) (hi.map q) (mx.map q) h L = some a) : Gives P ρ w μ ⟨d, .slice t x lo hi mx, ty, pos, af, gd⟩ a := by
  obtain ⟨f, g, o, hs, hev⟩ := asPtr_some hev
  obtain ⟨hth, hev⟩ := cnd_inv hev
  obtain ⟨l, b1, hev⟩ := bnd_q hq hev
  obtain ⟨hh, b2, hev⟩ := bnd_q hq hev
  obtain ⟨m, b3, hev⟩ := bnd_q hq hev
  obtain ⟨b, s, k, hm, hle, ex⟩ := q_ptr hq hs
  have hfull : (mx.map q).isSome = mx.isSome := by cases mx <;> rfl
  rw [hfull] at hev
  have hp : (s ≤ o ∧ o - s = o - s ∧ o - s + n * sz ≤ k) ∨ n = 0 := by
    rcases arrThere_sound hH hm hle hth with h0 | h0
    · exact .inr h0
    · exact .inl ⟨hle, rfl, h0⟩
  obtain ⟨c1, c2, c3, hv⟩ := cutSl_sound (mc := if mx.isSome then m else n) hev hm (Nat.le_refl _) (fun _ => rfl) hp rfl
  have b3' : Bd ρ mx n (if mx.isSome then m else n) := by
    rcases b3 with ⟨rfl, rfl⟩ | ⟨o3, k3, rfl, e3⟩
    · exact .inl ⟨rfl, rfl⟩
    · exact .inr ⟨o3, k3, rfl, e3⟩
  have hmle : hh ≤ (if mx.isSome then m else n) ∧ (if mx.isSome then m else n) ≤ n := by split <;> omega
  have hr := run_bounds (P := P) (w := w) (isSl := false) b1 b2 b3' c1 hmle.1 hmle.2 hn
  exact ⟨_, run_val (s := Instr.sliceAt t (ρ x) (lo.map ρ) (hi.map ρ) (mx.map ρ)) (p_arr hE (v := .nilFunc) (m := m) hu hsz ex hr), hv⟩

include hH in
theorem p_waits {g : Nat} {b s n : Nat} (hev : xWaits (Key.ofNat g) h L = some a) (hm : μ (Key.ofNat g) 0 = some (g, s, n)) : Gives P ρ w μ ⟨d, .waits g, ty, pos, af, gd⟩ a := by
  obtain ⟨ro, gen, sz, dp, ext, c, ho, hev⟩ := asCells_some hev
  cases hev
  obtain ⟨_, _, hb⟩ := hH.cells ho
  obtain ⟨_, _, cs, e, fz, hheap, _, hsz, _⟩ := hb 0 g s n hm
  refine ⟨.bool false, run_val (s := Instr.waits g) ?_, by simp only [VR]⟩
  simp [Instr.waits, World.shape?, hheap]

end
end Go.Ev


namespace Go.Ev
set_option linter.unusedVariables false
set_option linter.unusedSectionVars false
set_option linter.unusedSimpArgs false

/-- a block that no view and no number hides, and that is not frozen -/
def Plain (w : World) (b : Nat) : Prop :=
  ∃ o, w.heap[b]? = some o ∧ (match o with
    | .cells _ _ fz => fz = (0, 0)
    | .view .. => False
    | .number .. => False
    | .pending .. => False
    | _ => True)

section
variable {E : Env} {P : Program} (hE : EnvOk E P) {B : Nat} {μ : Mu} {h : Hp} {w : World} (hH : HR B μ h w)

include hH in
theorem HR.plain {f : Key} {g b s n : Nat} (hm : μ f g = some (b, s, n)) (hlt : g < strGen) : Plain w b := by
  have ho := hH.obj f
  have z : ∀ (hg : ∀ g, 0 < g → μ f g = none), g = 0 := by
    intro hg
    rcases Nat.eq_zero_or_pos g with h0 | h0
    · exact h0
    · rw [hg g h0] at hm; cases hm
  cases hob : hget f h with
  | none => rw [hob] at ho; rw [ho g] at hm; cases hm
  | cells ro gen sz dp ext c =>
    obtain ⟨_, _, hb⟩ := hH.cells hob
    obtain ⟨_, _, cs, e, fz, hheap, hfz, _⟩ := hb g b s n hm
    refine ⟨_, hheap, ?_⟩
    rcases hfz with rfl | ⟨h1, _⟩
    · rfl
    · omega
  | map es c =>
    rw [hob] at ho
    obtain ⟨hg, hb⟩ := ho
    have := z hg; subst this
    obtain ⟨_, es', hheap, _⟩ := hb b s n hm
    exact ⟨_, hheap, trivial⟩
  | strIter x p =>
    rw [hob] at ho
    obtain ⟨hg, hb⟩ := ho
    have := z hg; subst this
    obtain ⟨_, _, x', hheap, _⟩ := hb b s n hm
    exact ⟨_, hheap, trivial⟩
  | mapIter m si se st =>
    rw [hob] at ho
    obtain ⟨hg, hb⟩ := ho
    have := z hg; subst this
    obtain ⟨_, _, m', hheap, _⟩ := hb b s n hm
    exact ⟨_, hheap, trivial⟩
  | loop st p fn tm ps a b' df x =>
    rw [hob] at ho
    obtain ⟨hg, hb⟩ := ho
    have := z hg; subst this
    obtain ⟨_, t, dfb, s', n', hheap, _⟩ := hb b s n hm
    exact ⟨_, hheap, trivial⟩
  | deferred ds =>
    rw [hob] at ho
    obtain ⟨hg, hb⟩ := ho
    have := z hg; subst this
    obtain ⟨_, ds', hheap, _⟩ := hb b s n hm
    exact ⟨_, hheap, trivial⟩
  | mapu es =>
    rw [hob] at ho
    obtain ⟨hg, hb⟩ := ho
    have := z hg; subst this
    obtain ⟨_, es', c, es0, hheap, _⟩ := hb b s n hm
    exact ⟨_, hheap, trivial⟩

theorem Plain.frozen {b i : Nat} (hp : Plain w b) : w.frozen? ⟨b, i, none⟩ = false := by
  obtain ⟨o, ho, hk⟩ := hp
  unfold World.frozen?
  rw [ho]
  cases o <;> first | (simp only at hk; subst hk; simp) | rfl
theorem Plain.stringish {b i : Nat} (hp : Plain w b) : (stringish ⟨b, i, none⟩).run P w = .ok false w := by
  have hf : ∀ i, w.frozen? ⟨b, i, none⟩ = false := fun i => hp.frozen
  unfold Go.stringish
  simp only [Sem.run_bind, run_frozen, hf, Result.andThen_ok, Bool.false_eq_true, if_false, run_shape]
  cases w.shape? b <;> simp [hf]
theorem Plain.noView {b i : Nat} (hp : Plain w b) : (noView ⟨b, i, none⟩).run P w = .ok () w := by
  obtain ⟨o, ho, hk⟩ := hp
  unfold Go.noView viewAt
  cases o with
  | cells cs e fz => simp [World.shape?, ho]
  | view a t => exact hk.elim
  | _ => simp [World.shape?, ho, getObj, Sem.run]
theorem run_same {b b' x x' : Nat} (h1 : Plain w b) (h2 : Plain w b') (hne : b ≠ b') :
    (sameAddr ⟨b, x, none⟩ ⟨b', x', none⟩).run P w = .ok false w := by
  have hb : (b == b') = false := by simpa using hne
  unfold sameAddr mayBeOne
  simp only [hb, Bool.false_eq_true, if_false, Sem.run_bind, run_frozen, h1.frozen, h2.frozen, Result.andThen_ok, h1.noView, h2.noView, h1.stringish, h2.stringish, Bool.false_and,
    Sem.run_pure, Bool.or_false, if_false]
  simp


theorem tyFs_cases (f : TypeId → Ty) : ∀ (fs : List Field), (tyFs E f fs = .fnil ∨ (∃ a b c t r, tyFs E f fs = .fcons a b c t r) ∨ tyFs E f fs = .bad)
  | [] => .inl rfl
  | x :: xs => by
    unfold tyFs
    cases decide (x.name = "_") with
    | true => exact tyFs_cases f xs
    | false =>
      show (match E.szA x.type with | some (n, a) => Ty.fcons x.offset n a (f x.type) (tyFs E f xs) | none => .bad) = _ ∨ _
      cases E.szA x.type with
      | none => exact .inr (.inr rfl)
      | some p => exact .inr (.inl ⟨_, _, _, _, _, rfl⟩)

include hE in
theorem eqFs_sound {d N : Nat} {k : Nat} (ih : ∀ (t : TypeId) (X Y : AV) (u v : Value) (r : Bool), aeq E d (tyOf E k t) X Y = some r → VR μ X u → VR μ Y v → (Op.equalIn N t u v).run P w = .ok r w)
    {xs ys : List AV} {us vs : Array Value} (hx : VRs μ xs us.toList) (hy : VRs μ ys vs.toList) : ∀ (fs : List Field) (r : Bool),
    eqFs (aeq E d) xs ys (tyFs E (tyOf E k) fs) = some r → (Op.eqFields N us vs fs).run P w = .ok r w
  | [], r, hr => by cases hr; rfl
  | f :: fs, r, hr => by
    unfold tyFs at hr
    unfold Op.eqFields
    by_cases hn : f.name = "_"
    · simp only [hn, decide_true, cond_true] at hr
      simp only [hn, ne_eq, not_true_eq_false, if_false]
      exact eqFs_sound ih hx hy fs r hr
    · simp only [hn, decide_false, cond_false] at hr
      simp only [ne_eq, hn, not_false_eq_true, if_true]
      cases hs : E.szA f.type with
      | none => rw [hs] at hr; cases hr
      | some p =>
        obtain ⟨n, a⟩ := p
        rw [hs] at hr
        simp only [eqFs] at hr
        split at hr
        · rename_i p1 p2 c1 c2
          obtain ⟨ds, h1, h2, h3⟩ := szA_some hs
          obtain ⟨u, hu, hur⟩ := cut_sound (P := P) (w := w) h1 h2 h3 hE hx c1
          obtain ⟨v, hv, hvr⟩ := cut_sound (P := P) (w := w) h1 h2 h3 hE hy c2
          simp only [Sem.run_bind, hu, hv, Result.andThen_ok]
          split at hr
          · rename_i he
            have := ih f.type p1 p2 u v true he hur hvr
            simp only [this, Result.andThen_ok, Bool.not_true, Bool.false_eq_true, if_false]
            exact eqFs_sound ih hx hy fs r hr
          · rename_i he
            cases hr
            have := ih f.type p1 p2 u v false he hur hvr
            simp only [this, Result.andThen_ok, Bool.not_false, if_true, Sem.run_pure]
          · cases hr
        · cases hr

end
end Go.Ev


namespace Go.Ev
set_option linter.unusedVariables false
set_option linter.unusedSectionVars false
set_option linter.unusedSimpArgs false

section
variable {E : Env} {P : Program} (hE : EnvOk E P) {B : Nat} {μ : Mu} {h : Hp} {w : World} (hH : HR B μ h w)

include hE hH in
theorem aeq_sound : ∀ (d k : Nat) (t : TypeId) (X Y : AV) (u v : Value) (r : Bool) (N : Nat), aeq E d (tyOf E k t) X Y = some r → VR μ X u → VR μ Y v → d ≤ N →
    (Op.equalIn N t u v).run P w = .ok r w
  | 0, k, t, X, Y, u, v, r, N, hr, _, _, _ => by cases hr
  | d + 1, 0, t, X, Y, u, v, r, N, hr, _, _, _ => by cases hr
  | d + 1, k + 1, t, X, Y, u, v, r, 0, hr, hx, hy, hN => by omega
  | d + 1, k + 1, t, X, Y, u, v, r, N + 1, hr, hx, hy, hN => by
    have hdN : d ≤ N := by omega
    unfold tyOf at hr
    split at hr
    · rename_i hu
      obtain ⟨b, rfl, hr⟩ := asBool_some hr
      obtain ⟨c, rfl, hr⟩ := asBool_some hr
      simp only [VR] at hx hy; subst hx hy
      rw [run_equalIn_bool' _ _ _ _ _ (hE.und hu)]
      cases hr; cases b <;> cases c <;> rfl
    · rename_i kk hu
      obtain ⟨k1, b, rfl, hr⟩ := asInt_some hr
      obtain ⟨k2, c, rfl, hr⟩ := asInt_some hr
      simp only [VR] at hx hy; subst hx hy
      replace hr := cnd_inv hr
      have hk := keq_true hr.1; subst hk
      rw [run_equalIn_int _ _ _ _ _ _ _ (hE.und hu)]
      have := hr.2
      rw [ieq_eq] at this
      cases this
      congr 1
    · rename_i hu
      replace hr := asStr_some hr
      obtain ⟨b, rfl, h3⟩ := hr
      replace h3 := asStr_some h3
      obtain ⟨c, rfl, h4⟩ := h3
      simp only [VR] at hx hy
      obtain ⟨x, rfl, h1⟩ := hx
      obtain ⟨y, rfl, h2⟩ := hy
      rw [run_equalIn_string _ _ _ _ _ (hE.und hu)]
      subst h1 h2
      rw [leq_eq] at h4
      cases h4
      rw [Go.ByteArray.toList_eq, Go.ByteArray.toList_eq]
      congr 1
      rw [Bool.eq_iff_iff]
      simp only [beq_iff_eq, decide_eq_true_eq]
      exact ⟨fun h => by rw [h], map_inj⟩
    · rename_i el hu
      split at hr
      · rename_i n hsz
        unfold aeq at hr
        simp only at hr
        split at hr
        · simp only [VR] at hx hy; subst hx hy; cases hr
          simp [Op.equalIn, hE.runUnd hu]
        · simp only [VR] at hx hy; obtain ⟨b, s, n, _, _, rfl⟩ := hy; subst hx; cases hr
          simp [Op.equalIn, hE.runUnd hu]
        · simp only [VR] at hx hy; obtain ⟨b, s, n, _, _, rfl⟩ := hx; subst hy; cases hr
          simp [Op.equalIn, hE.runUnd hu]
        · rename_i f g o f' g' o'
          simp only [VR] at hx hy
          obtain ⟨b, s, m, hm, hs, rfl⟩ := hx
          obtain ⟨b', s', m', hm', hs', rfl⟩ := hy
          have red : (Op.equalIn (N + 1) t (.pointer (some ⟨b, o - s, none⟩)) (.pointer (some ⟨b', o' - s', none⟩))).run P w = (sameAddr ⟨b, o - s, none⟩ ⟨b', o' - s', none⟩).run P w := by
            simp [Op.equalIn, hE.runUnd hu, hE.runSize hsz]
          rw [red]
          replace hr : ptrEq f g o f' g' o' = some r := hr
          unfold ptrEq at hr
          have both : ∀ {r : Bool}, cnd (Nat.blt g strGen) (cnd (Nat.blt g' strGen) (some false) none) none = some r → r = false ∧ Plain w b ∧ Plain w b' := by
            intro r hh
            obtain ⟨h1, hh⟩ := cnd_inv hh
            obtain ⟨h2, hh⟩ := cnd_inv hh
            cases hh
            exact ⟨rfl, hH.plain hm (Nat.le_of_ble_eq_true h1), hH.plain hm' (Nat.le_of_ble_eq_true h2)⟩
          cases hf : Key.beq f f' with
          | false =>
            rw [hf] at hr
            obtain ⟨rfl, p1, p2⟩ := both hr
            have hne := Key.beq_ne hf
            exact run_same p1 p2 (fun hb => hne (by subst hb; exact (hH.inj _ _ _ _ _ _ _ _ _ hm hm').1))
          | true =>
            have := Key.beq_eq hf; subst this
            rw [hf] at hr
            simp only [cnd_true] at hr
            cases hgg : Nat.beq g g' with
            | true =>
              have := Nat.eq_of_beq_eq_true hgg; subst this
              rw [hgg] at hr
              cases hr
              rw [hm] at hm'
              simp only [Option.some.injEq, Prod.mk.injEq] at hm'
              obtain ⟨rfl, rfl, rfl⟩ := hm'
              by_cases ho : o = o'
              · subst ho; simp [sameAddr]
              · have e1 : Nat.beq o o' = false := by cases hh : Nat.beq o o' with
                  | false => rfl
                  | true => exact absurd (Nat.eq_of_beq_eq_true hh) ho
                have : o - s ≠ o' - s := by omega
                rw [e1]; simp [sameAddr, this]
            | false =>
              rw [hgg] at hr
              simp only [cnd_false] at hr
              obtain ⟨ho, hr⟩ := cnd_inv' hr
              obtain ⟨rfl, p1, p2⟩ := both hr
              have e1 : o ≠ o' := by intro hh; subst hh; simp at ho
              by_cases hb : b = b'
              · subst hb
                obtain ⟨_, rfl, rfl⟩ := hH.inj _ _ _ _ _ _ _ _ _ hm hm'
                have : o - s ≠ o' - s := by omega
                simp [sameAddr, this]
              · exact run_same p1 p2 hb
        · cases hr
      · cases hr
    · rename_i ms hu
      unfold aeq at hr
      simp only at hr
      split at hr
      · simp only [VR] at hx hy; subst hx hy; cases hr
        simp [Op.equalIn, hE.runUnd hu]
      · simp only [VR] at hx hy; obtain ⟨z, rfl, _⟩ := hy; subst hx; cases hr
        simp [Op.equalIn, hE.runUnd hu]
      · simp only [VR] at hx hy; obtain ⟨z, rfl, _⟩ := hx; subst hy; cases hr
        simp [Op.equalIn, hE.runUnd hu]
      · rename_i tx vx ty vy
        simp only [VR] at hx hy
        obtain ⟨x, rfl, hx⟩ := hx
        obtain ⟨y, rfl, hy⟩ := hy
        cases ht : Nat.beq tx ty with
        | false =>
          rw [ht] at hr
          have hr' : some false = some r := hr
          cases hr'
          have hne : tx ≠ ty := by intro hh; subst hh; simp at ht
          simp [Op.equalIn, hE.runUnd hu, hne]
        | true =>
          have := Nat.eq_of_beq_eq_true ht; subst this
          rw [ht] at hr
          have hr' : (match E.ts.get tx with | some i => cnd i.comparable (aeq E d (tyOf E 8 tx) vx vy) none | none => none) = some r := hr
          split at hr'
          · rename_i i hi
            replace hr' := cnd_inv hr'
            have ih := aeq_sound d 8 tx vx vy x y r N hr'.2 hx hy hdN
            have hinfo := hE.ts _ _ hi
            simp [Op.equalIn, hE.runUnd hu, typeInfo, hinfo, hr'.1, ih]
          · cases hr'
      · cases hr
    · rename_i el hu
      unfold aeq at hr
      simp only at hr
      split at hr
      · simp only [VR] at hx hy; subst hx hy; cases hr
        simp [Op.equalIn, hE.runUnd hu]
      · simp only [VR] at hx hy; obtain ⟨b, s, n, z, c, _, rfl, _⟩ := hy; subst hx; cases hr
        simp [Op.equalIn, hE.runUnd hu]
      · simp only [VR] at hx hy; obtain ⟨b, s, n, z, c, _, rfl, _⟩ := hx; subst hy; cases hr
        simp [Op.equalIn, hE.runUnd hu]
      · cases hr
    · rename_i k1 e1 hu
      unfold aeq at hr
      simp only at hr
      split at hr
      · simp only [VR] at hx hy; subst hx hy; cases hr
        simp [Op.equalIn, hE.runUnd hu]
      · simp only [VR] at hx hy; obtain ⟨b, s, n, _, rfl⟩ := hy; subst hx; cases hr
        simp [Op.equalIn, hE.runUnd hu]
      · simp only [VR] at hx hy; obtain ⟨b, s, n, _, rfl⟩ := hx; subst hy; cases hr
        simp [Op.equalIn, hE.runUnd hu]
      · cases hr
    · rename_i p1 p2 p3 hu
      unfold aeq at hr
      simp only at hr
      split at hr
      · simp only [VR] at hx hy; subst hx hy; cases hr
        simp [Op.equalIn, hE.runUnd hu]
      · simp only [VR] at hx hy; obtain ⟨F, fs, cs, rfl, _⟩ := hy; subst hx; cases hr
        simp [Op.equalIn, hE.runUnd hu]
      · simp only [VR] at hx hy; obtain ⟨F, fs, cs, rfl, _⟩ := hx; subst hy; cases hr
        simp [Op.equalIn, hE.runUnd hu]
      · cases hr
    · rename_i fs hu
      cases hst : E.P.stoodInHeld t with
      | true => rw [hst] at hr; cases hr
      | false =>
        rw [hst] at hr
        simp only [cond_false] at hr
        have hst' : P.stoodInHeld t = false := by rw [← hE.prog]; exact hst
        have hagg : ∃ xs ys, X = .agg xs ∧ Y = .agg ys ∧ eqFs (aeq E d) xs ys (tyFs E (tyOf E k) fs.toList) = some r := by
          rcases tyFs_cases (E := E) (tyOf E k) fs.toList with h0 | ⟨a, b, c, t', r', h0⟩ | h0
          · rw [h0] at hr ⊢
            replace hr := asAgg_some hr
            obtain ⟨xs, rfl, h3⟩ := hr
            replace h3 := asAgg_some h3
            obtain ⟨ys, rfl, h4⟩ := h3
            exact ⟨xs, ys, rfl, rfl, h4⟩
          · rw [h0] at hr ⊢
            replace hr := asAgg_some hr
            obtain ⟨xs, rfl, h3⟩ := hr
            replace h3 := asAgg_some h3
            obtain ⟨ys, rfl, h4⟩ := h3
            exact ⟨xs, ys, rfl, rfl, h4⟩
          · rw [h0] at hr; cases hr
        obtain ⟨xs, ys, rfl, rfl, hfs⟩ := hagg
        simp only [VR] at hx hy
        obtain ⟨us, rfl, hx⟩ := hx
        obtain ⟨vs, rfl, hy⟩ := hy
        have hund := hE.und hu
        have hfo : P.fieldsOf t = fs := by simp [Program.fieldsOf, hund]
        rw [run_equalIn_struct w N t us vs (by rw [hfo]; exact hund) hst', hfo]
        exact eqFs_sound hE (fun t' X' Y' u' v' r' he h1 h2 => aeq_sound d k t' X' Y' u' v' r' N he h1 h2 hdN) hx hy fs.toList r hfs
    · cases hr

end
end Go.Ev


namespace Go.Ev
set_option linter.unusedVariables false
set_option linter.unusedSectionVars false
set_option linter.unusedSimpArgs false

section
variable {E : Env} {P : Program} (hE : EnvOk E P) {B : Nat} {μ : Mu} {h : Hp} {w : World} (hH : HR B μ h w)
  {L : Lo} {ρ : Operand → Value} {q : Operand → Opd} (hq : ∀ x, VR μ (getO (q x) L) (ρ x))
  {d : Option Tmp} {ty : TypeId} {pos : String} {af : Array Edge} {gd : Option (Nat × Bool)} {a : AV}

include hq in
theorem p_minmax {mx : Bool} {xs : Array Operand} {ats : Array TypeId} {x : Operand} {l : List Operand} (hx : xs.toList = x :: l)
    (hev : xMinmax mx (q x) (l.map q) h L = some a) : Gives P ρ w μ ⟨d, .call { callee := .builtin (if mx then .max else .min), args := xs, argTypes := ats }, ty, pos, af, gd⟩ a := by
  obtain ⟨k, n, hs, hev⟩ := asInt_some hev
  have ex := q_int hq hs
  have key : ∀ (l : List Operand) (n : Int) (a : AV), minA mx k n (getOs (l.map q) L) = some a →
      ∃ v, ((l.map ρ).foldlM (if mx then Builtin.max2 else Builtin.min2) (.int k n)).run P w = .ok v w ∧ VR μ a v := by
    intro l
    induction l with
    | nil =>
      intro n a hr
      change some _ = some a at hr
      cases hr
      exact ⟨_, rfl, by simp only [VR]⟩
    | cons y l ih =>
      intro n a hr
      change minA mx k n (getO (q y) L :: getOs (l.map q) L) = some a at hr
      unfold minA at hr
      split at hr
      · rename_i hnil; cases hnil
      · rename_i k' m r hcons
        simp only [List.cons.injEq] at hcons
        obtain ⟨hy, rfl⟩ := hcons
        replace hr := cnd_inv hr
        have hk := keq_true hr.1; subst hk
        have ey := q_int hq hy
        obtain ⟨v, hv, hvr⟩ := ih _ _ hr.2
        refine ⟨v, ?_, hvr⟩
        rw [List.map_cons, List.foldlM_cons, Sem.run_bind, ey]
        rw [← hv]
        cases mx <;> simp [Builtin.max2, Builtin.min2, cnd_eq, ilt_eq]
      · cases hr
  obtain ⟨v, hv, hr⟩ := key l n a hev
  refine ⟨v, ?_, hr⟩
  have hl : (xs.map ρ).toList = ρ x :: l.map ρ := by simp [hx]
  cases mx with
  | true =>
    exact run_builtin rfl (s := Builtin.max_ ats ty (xs.map ρ)) (by simp only [Builtin.max_, hl, ex]; exact hv)
  | false =>
    exact run_builtin rfl (s := Builtin.min_ ats ty (xs.map ρ)) (by simp only [Builtin.min_, hl, ex]; exact hv)



/-- values for which '==' goes by Op.equal -/
def viaEq : Value → Bool
  | .int .. => false
  | .float .. => false
  | .complex .. => false
  | .string _ => false
  | _ => true
theorem run_eql_via {t : TypeId} {u v : Value} {r : Bool} (hu : viaEq u = true) (hr : (Op.equal t u v).run P w = .ok r w) :
    (binOp .eql t u v).run P w = .ok (.bool r) w ∧ (binOp .neq t u v).run P w = .ok (.bool (!r)) w := by
  have e1 : binOp .eql t u v = (do pure (.bool (← Op.equal t u v))) := by
    cases u <;> first | (cases hu; done) | (cases v <;> rfl)
  have e2 : binOp .neq t u v = (do pure (.bool (!(← Op.equal t u v)))) := by
    cases u <;> first | (cases hu; done) | (cases v <;> rfl)
  rw [e1, e2]
  simp [hr]


theorem aeq_via {dd k : Nat} {t : TypeId} {X Y : AV} {u : Value} {r : Bool} (hr : aeq E dd (tyOf E k t) X Y = some r) (hx : VR μ X u)
    (h1 : ∀ kk, E.und t ≠ some (.int kk)) (h2 : E.und t ≠ some .string) : viaEq u = true := by
  cases dd with
  | zero => cases hr
  | succ dd =>
  cases k with
  | zero => cases hr
  | succ k =>
    unfold tyOf at hr
    split at hr
    · obtain ⟨b, rfl, _⟩ := asBool_some hr; simp only [VR] at hx; subst hx; rfl
    · rename_i kk hu; exact absurd hu (h1 kk)
    · rename_i hu; exact absurd hu h2
    · split at hr
      · unfold aeq at hr
        simp only at hr
        split at hr
        · simp only [VR] at hx; subst hx; rfl
        · simp only [VR] at hx; subst hx; rfl
        · simp only [VR] at hx; obtain ⟨_, _, _, _, _, rfl⟩ := hx; rfl
        · simp only [VR] at hx; obtain ⟨_, _, _, _, _, rfl⟩ := hx; rfl
        · cases hr
      · cases hr
    · unfold aeq at hr
      simp only at hr
      split at hr
      · simp only [VR] at hx; subst hx; rfl
      · simp only [VR] at hx; subst hx; rfl
      · simp only [VR] at hx; obtain ⟨_, rfl, _⟩ := hx; rfl
      · simp only [VR] at hx; obtain ⟨_, rfl, _⟩ := hx; rfl
      · cases hr
    · unfold aeq at hr
      simp only at hr
      split at hr
      · simp only [VR] at hx; subst hx; rfl
      · simp only [VR] at hx; subst hx; rfl
      · simp only [VR] at hx; obtain ⟨_, _, _, _, _, _, rfl, _⟩ := hx; rfl
      · cases hr
    · unfold aeq at hr
      simp only at hr
      split at hr
      · simp only [VR] at hx; subst hx; rfl
      · simp only [VR] at hx; subst hx; rfl
      · simp only [VR] at hx; obtain ⟨_, _, _, _, rfl⟩ := hx; rfl
      · cases hr
    · unfold aeq at hr
      simp only at hr
      split at hr
      · simp only [VR] at hx; subst hx; rfl
      · simp only [VR] at hx; subst hx; rfl
      · simp only [VR] at hx; obtain ⟨_, _, _, rfl, _⟩ := hx; rfl
      · cases hr
    · rename_i fs hu
      cases hst : E.P.stoodInHeld t with
      | true => rw [hst] at hr; cases hr
      | false =>
        rw [hst] at hr
        simp only [cond_false] at hr
        rcases tyFs_cases (E := E) (tyOf E k) fs.toList with h0 | ⟨a, b, c, t', r', h0⟩ | h0
        · rw [h0] at hr
          obtain ⟨xs, rfl, _⟩ := asAgg_some hr
          simp only [VR] at hx; obtain ⟨_, rfl, _⟩ := hx; rfl
        · rw [h0] at hr
          obtain ⟨xs, rfl, _⟩ := asAgg_some hr
          simp only [VR] at hx; obtain ⟨_, rfl, _⟩ := hx; rfl
        · rw [h0] at hr; cases hr
    · cases hr


theorem aeq_agg {dd k : Nat} {t : TypeId} {xs : List AV} {Y : AV} {r : Bool} (hr : aeq E dd (tyOf E k t) (.agg xs) Y = some r) : ∃ fs, E.und t = some (.struct fs) := by
  cases dd with
  | zero => cases hr
  | succ dd =>
  cases k with
  | zero => cases hr
  | succ k =>
    unfold tyOf at hr
    split at hr
    · cases hr
    · cases hr
    · cases hr
    · split at hr <;> cases hr
    · cases hr
    · cases hr
    · cases hr
    · cases hr
    · rename_i fs hu; exact ⟨fs, hu⟩
    · cases hr
theorem aeq_nil {dd k : Nat} {t : TypeId} {Y : AV} {r : Bool} (hr : aeq E dd (tyOf E k t) .nilIface Y = some r) : ∃ ms, E.und t = some (.interface ms) := by
  cases dd with
  | zero => cases hr
  | succ dd =>
  cases k with
  | zero => cases hr
  | succ k =>
    unfold tyOf at hr
    split at hr
    · cases hr
    · cases hr
    · cases hr
    · split at hr <;> cases hr
    · rename_i ms hu; exact ⟨ms, hu⟩
    · cases hr
    · cases hr
    · cases hr
    · rename_i fs hu
      cases hst : E.P.stoodInHeld t with
      | true => rw [hst] at hr; cases hr
      | false =>
        rw [hst] at hr
        simp only [cond_false] at hr
        rcases tyFs_cases (E := E) (tyOf E k) fs.toList with h0 | ⟨a, b, c, t', r', h0⟩ | h0
        · rw [h0] at hr; cases hr
        · rw [h0] at hr; cases hr
        · rw [h0] at hr; cases hr
    · cases hr

theorem vr_nil {X : AV} (hx : VR μ X .nilIface) (hb : X ≠ .top) (hb' : X ≠ .any) : X = .nilIface := by
  cases X <;> simp only [VR] at hx <;> first
    | rfl
    | exact absurd rfl hb
    | exact absurd rfl hb'
    | (obtain ⟨_, h, _⟩ := hx; cases h; done)
    | (obtain ⟨_, h⟩ := hx; cases h; done)
    | (obtain ⟨_, _, _, _, _, h⟩ := hx; cases h; done)
    | (obtain ⟨_, _, _, _, _, _, h, _⟩ := hx; cases h; done)
    | (obtain ⟨_, _, _, _, h⟩ := hx; cases h; done)
    | (obtain ⟨_, _, _, h, _⟩ := hx; cases h; done)
    | cases hx
theorem vr_agg {X : AV} {us : Array Value} (hx : VR μ X (.agg us)) (hb : X ≠ .top) : ∃ l, X = .agg l := by
  cases X <;> simp only [VR, isScalar] at hx <;> first
    | exact ⟨_, rfl⟩
    | exact absurd rfl hb
    | (obtain ⟨_, h, _⟩ := hx; cases h; done)
    | (obtain ⟨_, h⟩ := hx; cases h; done)
    | (obtain ⟨_, _, _, _, _, h⟩ := hx; cases h; done)
    | (obtain ⟨_, _, _, _, _, _, h, _⟩ := hx; cases h; done)
    | (obtain ⟨_, _, _, _, h⟩ := hx; cases h; done)
    | (obtain ⟨_, _, _, h, _⟩ := hx; cases h; done)
    | cases hx


theorem aeq_top {dd k : Nat} {t : TypeId} {Y : AV} {r : Bool} (hr : aeq E dd (tyOf E k t) .top Y = some r) : False := by
  cases dd with
  | zero => cases hr
  | succ dd =>
  cases k with
  | zero => cases hr
  | succ k =>
    unfold tyOf at hr
    split at hr
    · cases hr
    · cases hr
    · cases hr
    · split at hr <;> cases hr
    · cases hr
    · cases hr
    · cases hr
    · cases hr
    · rename_i fs hu
      cases hst : E.P.stoodInHeld t with
      | true => rw [hst] at hr; cases hr
      | false =>
        rw [hst] at hr
        simp only [cond_false] at hr
        rcases tyFs_cases (E := E) (tyOf E k) fs.toList with h0 | ⟨a, b, c, t', r', h0⟩ | h0
        · rw [h0] at hr; cases hr
        · rw [h0] at hr; cases hr
        · rw [h0] at hr; cases hr
    · cases hr

theorem aeq_any {dd k : Nat} {t : TypeId} {Y : AV} {r : Bool} (hr : aeq E dd (tyOf E k t) .any Y = some r) : False := by
  cases dd with
  | zero => cases hr
  | succ dd =>
  cases k with
  | zero => cases hr
  | succ k =>
    unfold tyOf at hr
    split at hr
    · cases hr
    · cases hr
    · cases hr
    · split at hr <;> cases hr
    · cases hr
    · cases hr
    · cases hr
    · cases hr
    · rename_i fs hu
      cases hst : E.P.stoodInHeld t with
      | true => rw [hst] at hr; cases hr
      | false =>
        rw [hst] at hr
        simp only [cond_false] at hr
        rcases tyFs_cases (E := E) (tyOf E k) fs.toList with h0 | ⟨a, b, c, t', r', h0⟩ | h0
        · rw [h0] at hr; cases hr
        · rw [h0] at hr; cases hr
        · rw [h0] at hr; cases hr
    · cases hr

theorem run_guard_agg (op : BinOp) {t : TypeId} {x y : Operand} {us vs : Array Value} (hg : P.eqGuardType P.depth t = false) : (eqGuard op t x y (.agg us) (.agg vs)).run P w = .ok () w := by
  unfold eqGuard
  generalize Op.eqGuardIn Op.maxDepth t (.agg us) (.agg vs) = z
  by_cases ho : (!(match op with | .eql => true | .neq => true | _ => false)) = true
  · rw [if_pos (by cases op <;> first | rfl | cases ho)]; rfl
  · rw [if_neg (by cases op <;> first | exact ho | (intro hh; exact ho rfl))]
    simp only [Sem.run_bind, run_program, Result.andThen_ok]
    rw [hg]
    rfl

theorem run_guard_nil (op : BinOp) {t : TypeId} {x y : Operand} {b : Bool} (hg : (Op.eqGuardIn Op.maxDepth t .nilIface .nilIface).run P w = .ok (!b) w)
    (hc : isConstO x = true ∨ isConstO y = true ∨ b = true) : (eqGuard op t x y .nilIface .nilIface).run P w = .ok () w := by
  unfold eqGuard
  generalize Op.eqGuardIn Op.maxDepth t .nilIface .nilIface = z at *
  by_cases ho : (!(match op with | .eql => true | .neq => true | _ => false)) = true
  · rw [if_pos (by cases op <;> first | rfl | cases ho)]; rfl
  · rw [if_neg (by cases op <;> first | exact ho | (intro hh; exact ho rfl))]
    have key : ∀ bb : Bool, bb = true ∨ b = true → (if bb = true then (pure () : Sem Unit) else do
          let r ← z
          if r = true then unsupported (Unsupported.noEntry "binop/eql: two nil values of an interface type with methods, neither of them the literal nil") else pure ()).run P w = .ok () w := by
      intro bb hb
      cases bb with
      | true => simp only [if_true]; rfl
      | false =>
        rcases hb with hb | hb
        · cases hb
        · subst hb
          simp only [Bool.false_eq_true, if_false, Sem.run_bind, hg, Result.andThen_ok, Bool.not_true, Sem.run_pure]
    refine key _ ?_
    rcases hc with hc | hc | hc
    · left; cases x <;> first | (cases hc; done) | rfl
    · left; cases y <;> first | (cases hc; done) | (cases x <;> rfl)
    · exact .inr hc

include hE hH hq in
theorem p_eqv {neg : Bool} {t yt : TypeId} {x y : Operand} (h0 : isIntOrStr E t = false) (hev : xEqv E neg (eqTy E t) (eqSure E t x y) (q x) (q y) h L = some a) :
    Gives P ρ w μ ⟨d, .binOp (if neg then .neq else .eql) t x y yt, ty, pos, af, gd⟩ a := by
  obtain ⟨hs, hev⟩ := cnd_inv' hev
  obtain ⟨r, hr, hev⟩ := opt_inv hev
  rw [ev_bool_eq] at hev
  cases hev
  have hg : ∀ fs, E.und t = some (.struct fs) → P.eqGuardType P.depth t = false := by
    intro fs hu
    unfold eqTy at hr
    rw [hu] at hr
    simp only at hr
    cases hg : E.P.eqGuardType E.P.depth t with
    | true => rw [hg] at hr; cases hr
    | false => rw [← hE.prog]; exact hg
  have hty : aeq E 12 (tyOf E 8 t) (getO (q x) L) (getO (q y) L) = some r := by
    unfold eqTy at hr
    split at hr
    · cases hg : E.P.eqGuardType E.P.depth t with
      | true => rw [hg] at hr; cases hr
      | false => rw [hg] at hr; exact hr
    · cases hg : E.P.eqGuardType E.P.depth t with
      | true => rw [hg] at hr; cases hr
      | false => rw [hg] at hr; exact hr
    · exact hr
  have hX1 : getO (q x) L ≠ .top := fun hh => by rw [hh] at hty; exact aeq_top hty
  have hX2 : getO (q x) L ≠ .any := fun hh => by rw [hh] at hty; exact aeq_any hty
  have hint : ∀ kk, E.und t ≠ some (.int kk) := fun kk hu => by simp [isIntOrStr, hu] at h0
  have hstr : E.und t ≠ some .string := fun hu => by simp [isIntOrStr, hu] at h0
  have hrun := aeq_sound hE hH 12 8 t _ _ _ _ r 10000 hty (hq x) (hq y) (by omega)
  obtain ⟨e1, e2⟩ := run_eql_via (t := t) (u := ρ x) (v := ρ y) (aeq_via hty (hq x) hint hstr) hrun
  have guard : ∀ op, (eqGuard op t x y (ρ x) (ρ y)).run P w = .ok () w := by
    intro op
    by_cases hn : ρ x = .nilIface ∧ ρ y = .nilIface
    · obtain ⟨n1, n2⟩ := hn
      have hx := hq x
      have hy := hq y
      rw [n1] at hx
      rw [n2] at hy
      have eX := vr_nil hx hX1 hX2
      rw [eX] at hty hs
      obtain ⟨ms, hu⟩ := aeq_nil hty
      have eY : getO (q y) L = .nilIface := by
        unfold tyOf at hty
        rw [hu] at hty
        have hty' : (match AV.nilIface, getO (q y) L with | .nilIface, .nilIface => some true | .nilIface, .iface _ _ => some false | _, _ => none : Option Bool) = some r := by
          cases hY : getO (q y) L <;> rw [hY] at hty <;> first | exact hty | cases hty
        cases hY : getO (q y) L <;> rw [hY] at hty' hy <;> first
          | rfl
          | (simp only [VR] at hy; obtain ⟨_, h, _⟩ := hy; cases h; done)
          | (cases hty'; done)
      rw [eY] at hs
      have hsure : eqSure E t x y = true := by
        cases hh : eqSure E t x y with
        | true => rfl
        | false => rw [hh] at hs; cases hs
      rw [n1, n2]
      have hgi : (Op.eqGuardIn Op.maxDepth t .nilIface .nilIface).run P w = .ok (!ms.isEmpty) w := by
        have key : ∀ n, (Op.eqGuardIn (n + 1) t .nilIface .nilIface).run P w = .ok (!ms.isEmpty) w := by
          intro n
          simp [Op.eqGuardIn, hE.runUnd hu]
        exact key 9999
      unfold eqSure at hsure
      rw [hu] at hsure
      exact run_guard_nil op hgi (by
        cases x <;> first
          | exact .inl rfl
          | (cases y <;> first
              | exact .inr (.inl rfl)
              | (right; right; simpa [isConstO] using hsure)))
    · by_cases ha : ∃ c e, ρ x = .agg c ∧ ρ y = .agg e
      · obtain ⟨us, vs, n1, n2⟩ := ha
        have hx := hq x
        rw [n1] at hx
        obtain ⟨l, eX⟩ := vr_agg hx hX1
        rw [eX] at hty
        obtain ⟨fs, hu⟩ := aeq_agg hty
        have := hg fs hu
        rw [n1, n2]
        exact run_guard_agg op this
      · exact run_eqGuard_plain op t x y _ _ hn ha
  refine ⟨.bool (cnd neg (bnot r) r), run_val (s := do eqGuard (if neg then .neq else .eql) t x y (ρ x) (ρ y); binOp (if neg then .neq else .eql) t (ρ x) (ρ y)) ?_, by simp only [VR]⟩
  simp only [Sem.run_bind, guard, Result.andThen_ok]
  cases neg with
  | true => simp only [if_true]; rw [e2]; simp [cnd_true, bnot_eq]
  | false => simp only [Bool.false_eq_true, if_false]; rw [e1]; rfl

end
end Go.Ev


namespace Go.Ev
set_option linter.unusedVariables false
set_option linter.unusedSectionVars false
set_option linter.unusedSimpArgs false

section
variable {E : Env} {P : Program} (hE : EnvOk E P) {B : Nat} {μ : Mu} {h : Hp} {w : World} (hH : HR B μ h w)
  {L : Lo} {ρ : Operand → Value} {q : Operand → Opd} (hq : ∀ x, VR μ (getO (q x) L) (ρ x))
variable {d : Option Tmp} {ty : TypeId} {pos : String} {af : Array Edge} {gd : Option (Nat × Bool)} {a : AV}

/-! ## keys -/
include hE in
theorem checkFs_sound {dd N k : Nat} {em : Bool}
    (ih : ∀ (t : TypeId) (X : AV) (u : Value), aeq E dd (tyOf E k t) X X = some true → keyTy (tyOf E k t) = true → VR μ X u → (Instr.checkKey em N t u).run P w = .ok () w)
    {xs : List AV} {us : Array Value} (hx : VRs μ xs us.toList) : ∀ (fs : List Field), eqFs (aeq E dd) xs xs (tyFs E (tyOf E k) fs) = some true →
    keyTy (tyFs E (tyOf E k) fs) = true →
    (forIn fs PUnit.unit (fun f (_ : PUnit) => (if f.name ≠ "_" then (do Instr.checkKey em N f.type (← part f.type us f.offset); pure (ForInStep.yield PUnit.unit)) else pure (ForInStep.yield PUnit.unit) : Sem (ForInStep PUnit)))).run P w = .ok PUnit.unit w
  | [], hr, hk => by simp
  | f :: fs, hr, hk => by
    simp only [List.forIn_cons]
    unfold tyFs at hr hk
    by_cases hn : f.name = "_"
    · simp only [hn, decide_true, cond_true] at hr hk
      have := checkFs_sound ih hx fs hr hk
      simpa [hn] using this
    · simp only [hn, decide_false, cond_false] at hr hk
      cases hs : E.szA f.type with
      | none => rw [hs] at hr; cases hr
      | some p =>
        obtain ⟨n, ag⟩ := p
        rw [hs] at hr hk
        simp only [eqFs] at hr
        simp only [keyTy, Bool.and_eq_true] at hk
        split at hr
        · rename_i p1 p2 c1 c2
          rw [c1] at c2
          cases c2
          obtain ⟨ds, h1, h2, h3⟩ := szA_some hs
          obtain ⟨u, hu, hur⟩ := cut_sound (P := P) (w := w) h1 h2 h3 hE hx c1
          split at hr
          · rename_i he
            have i1 := ih f.type p1 u he hk.1 hur
            have := checkFs_sound ih hx fs hr hk.2
            simpa [hn, hu, i1] using this
          · cases hr
          · cases hr
        · cases hr

include hE in
theorem checkKey_sound (em : Bool) : ∀ (dd k : Nat) (t : TypeId) (X : AV) (u : Value) (N : Nat), aeq E dd (tyOf E k t) X X = some true → keyTy (tyOf E k t) = true → VR μ X u → dd ≤ N →
    (Instr.checkKey em N t u).run P w = .ok () w
  | 0, k, t, X, u, N, hr, _, _, _ => by cases hr
  | dd + 1, 0, t, X, u, N, hr, _, _, _ => by cases hr
  | dd + 1, k + 1, t, X, u, 0, hr, hk, hx, hN => by omega
  | dd + 1, k + 1, t, X, u, N + 1, hr, hk, hx, hN => by
    have hdN : dd ≤ N := by omega
    unfold tyOf at hr hk
    split at hr
    · rename_i hu
      simp [Instr.checkKey, hE.runUnd hu]
    · rename_i kk hu
      simp [Instr.checkKey, hE.runUnd hu]
    · rename_i hu
      simp [Instr.checkKey, hE.runUnd hu]
    · rename_i el hu
      simp [Instr.checkKey, hE.runUnd hu]
    · rename_i ms hu; rw [hu] at hk; cases hk
    · rename_i el hu; rw [hu] at hk; cases hk
    · rename_i k1 e1 hu; rw [hu] at hk; cases hk
    · rename_i p1 p2 p3 hu; rw [hu] at hk; cases hk
    · rename_i fs hu
      rw [hu] at hk
      simp only at hk
      cases hst : E.P.stoodInHeld t with
      | true => rw [hst] at hr; cases hr
      | false =>
        rw [hst] at hr hk
        simp only [cond_false] at hr hk
        have hagg : ∃ xs, X = .agg xs ∧ eqFs (aeq E dd) xs xs (tyFs E (tyOf E k) fs.toList) = some true := by
          rcases tyFs_cases (E := E) (tyOf E k) fs.toList with h0 | ⟨a, b, c, t', r', h0⟩ | h0
          · rw [h0] at hr ⊢
            replace hr := asAgg_some hr
            obtain ⟨xs, rfl, h3⟩ := hr
            exact ⟨xs, rfl, h3⟩
          · rw [h0] at hr ⊢
            replace hr := asAgg_some hr
            obtain ⟨xs, rfl, h3⟩ := hr
            exact ⟨xs, rfl, h3⟩
          · rw [h0] at hr; cases hr
        obtain ⟨xs, rfl, hfs⟩ := hagg
        simp only [VR] at hx
        obtain ⟨us, rfl, hx⟩ := hx
        have := checkFs_sound (em := em) (N := N) (w := w) hE (fun t' X' u' he hk' h1 => checkKey_sound em dd k t' X' u' N he hk' h1 hdN) hx fs.toList hfs hk
        rw [Instr.checkKey]
        simp only [Sem.run_bind, hE.runUnd hu, Result.andThen_ok]
        rw [← Array.forIn_toList, this]
        rfl
    · cases hr

/-- what findK found -/
def FoundR (μ : Mu) : Option (Nat × En) → Option (Nat × Value) → List En → List MapEntry → Nat → Prop
  | none, r, _, _, _ => r = none
  | some (i, e), r, es, xs, i0 => ∃ x, i0 ≤ i ∧ es[i - i0]? = some e ∧ xs[i - i0]? = some x ∧ EnR μ e x ∧ r = some (i, x.val)

include hE hH in
theorem findAsk_sound {kt : TypeId} {X : AV} {u : Value} (hx : VR μ X u) : ∀ (es : List En) (xs : List MapEntry) (i : Nat) (r : Option (Nat × En)), EnsR μ es xs →
    findK0 E (tyOf E 8 kt) X es i = some r → ∃ r', (Instr.findAsking kt u xs i).run P w = .ok r' w ∧ FoundR μ r r' es xs i
  | [], xs, i, r, hes, hr => by
    simp only [EnsR] at hes; subst hes
    cases hr
    exact ⟨none, by simp [Instr.findAsking], rfl⟩
  | e :: es, _, i, r, hes, hr => by
    simp only [EnsR] at hes
    obtain ⟨x, xs, rfl, he, hes⟩ := hes
    unfold findK0 at hr
    split at hr
    · rename_i heq
      cases hr
      have := aeq_sound hE hH 12 8 kt _ _ _ _ true 10000 heq hx he.1 (by omega)
      refine ⟨some (i, x.val), ?_, ?_⟩
      · have e1 : (Op.equal kt u x.key).run P w = .ok true w := this
        simp [Instr.findAsking, e1]
      · exact ⟨x, Nat.le_refl _, by simp, by simp, he, rfl⟩
    · rename_i heq
      have := aeq_sound hE hH 12 8 kt _ _ _ _ false 10000 heq hx he.1 (by omega)
      have e1 : (Op.equal kt u x.key).run P w = .ok false w := this
      obtain ⟨r', h1, h2⟩ := findAsk_sound hx es xs (i + 1) r hes hr
      refine ⟨r', by simp [Instr.findAsking, e1, h1], ?_⟩
      cases r with
      | none => exact h2
      | some p =>
        obtain ⟨j, e'⟩ := p
        obtain ⟨y, g1, g2, g3, g4⟩ := h2
        refine ⟨y, by omega, ?_, ?_, g4⟩
        · rw [show j - i = (j - (i + 1)) + 1 by omega]; simpa using g2
        · rw [show j - i = (j - (i + 1)) + 1 by omega]; simpa using g3
    · cases hr

/-- how findNow and findAsking agree -/
theorem now_asking {kt : TypeId} {kd : TypeDesc} {u : Value} (hu : P.underlying kt = some kd) : ∀ (xs : List MapEntry) (i : Nat) (r r' : Option (Nat × Value)), Instr.findNow kd u xs i = some r →
    (Instr.findAsking kt u xs i).run P w = .ok r' w → r = r'
  | [], i, r, r', h1, h2 => by
    simp [Instr.findNow] at h1
    simp [Instr.findAsking] at h2
    rw [← h1, ← h2]
  | x :: xs, i, r, r', h1, h2 => by
    have key : ∀ b, Instr.sameNow kd u x.key = some b → (Op.equal kt u x.key).run P w = .ok b w := by
      intro b hb
      revert hb
      generalize x.key = y
      intro hb
      unfold Instr.sameNow at hb
      split at hb
      · rename_i k1 a k2 c
        split at hb
        · rename_i hk
          cases hb
          subst hk
          show (Op.equalIn (9999 + 1) kt _ _).run P w = _
          rw [run_equalIn_int _ _ _ _ _ _ _ hu]
        · cases hb
      · rename_i a c
        cases hb
        show (Op.equalIn (9999 + 1) kt _ _).run P w = _
        rw [run_equalIn_string _ _ _ _ _ hu, Go.ByteArray.toList_eq, Go.ByteArray.toList_eq]
        congr 1
        show _ = (a.data == c.data)
        rw [Bool.eq_iff_iff]; simp
      · rename_i a c
        cases hb
        show (Op.equalIn (9999 + 1) kt _ _).run P w = _
        rw [run_equalIn_bool' _ _ _ _ _ hu]
      · cases hb
    unfold Instr.findNow at h1
    split at h1
    · rename_i hb
      have := key _ hb
      simp [Instr.findAsking, this] at h2
      cases h1; exact h2
    · rename_i hb
      have := key _ hb
      simp only [Instr.findAsking, Sem.run_bind, this, Result.andThen_ok, Bool.false_eq_true, if_false] at h2
      exact now_asking hu xs (i + 1) r r' h1 h2
    · cases h1

theorem tyOf_und {k : Nat} {t : TypeId} (h : tyOf E k t ≠ .bad) : ∃ ds, E.und t = some ds := by
  cases k with
  | zero => exact absurd rfl h
  | succ k =>
    cases hu : E.und t with
    | some ds => exact ⟨ds, rfl⟩
    | none => rw [tyOf, hu] at h; exact absurd rfl h

include hE hH in
theorem findKey_sound {kt : TypeId} {X : AV} {u : Value} {es : List En} {xs : List MapEntry} {r : Option (Nat × En)} (hx : VR μ X u) (hes : EnsR μ es xs)
    (hr : findK E (tyOf E 8 kt) X es = some r) : ∃ r', (Instr.findKey kt u xs).run P w = .ok r' w ∧ FoundR μ r r' es xs 0 := by
  obtain ⟨hok, hr⟩ := cnd_inv hr
  obtain ⟨r', h1, h2⟩ := findAsk_sound hE hH (w := w) hx es xs 0 r hes hr
  have hbad : tyOf E 8 kt ≠ .bad := fun hh => by rw [hh] at hok; cases hok
  obtain ⟨ds, hu⟩ := tyOf_und hbad
  refine ⟨r', ?_, h2⟩
  simp only [Instr.findKey, Sem.run_bind, hE.runUnd hu, Result.andThen_ok]
  split
  · rename_i r0 hn
    rw [now_asking (hE.und hu) _ _ _ _ hn h1]; rfl
  · exact h1
include hE in
theorem checkK {kt : TypeId} {X : AV} {u : Value} {es : List En} {r : Option (Nat × En)} (em : Bool) (hk : keyTy (tyOf E 8 kt) = true) (hx : VR μ X u) (hr : findK E (tyOf E 8 kt) X es = some r) :
    (Instr.checkKey em 10000 kt u).run P w = .ok () w := by
  obtain ⟨hok, hr⟩ := cnd_inv hr
  refine checkKey_sound hE em 12 8 kt X u 10000 ?_ hk hx (by omega)
  unfold okKey at hok
  cases h0 : aeq E 12 (tyOf E 8 kt) X X with
  | none => rw [h0] at hok; cases hok
  | some b => rw [h0] at hok; exact congrArg some hok

include hH in
theorem HR.mapOb {f : Key} {es : List En} {clock : Nat} (ho : hget f h = .map es clock) {b s n : Nat} (hm : μ f 0 = some (b, s, n)) :
    B ≤ b ∧ ∃ es' : Array MapEntry, w.heap[b]? = some (.map es' clock) ∧ EnsR μ es es'.toList := by
  have := hH.obj f
  rw [ho] at this
  exact this.2 b s n hm
theorem EnsR.length {es : List En} {xs : List MapEntry} (hh : EnsR μ es xs) : es.length = xs.length := by
  induction es generalizing xs with
  | nil => simp only [EnsR] at hh; subst hh; rfl
  | cons e es ih =>
    simp only [EnsR] at hh
    obtain ⟨x, r, rfl, _, h2⟩ := hh
    simp [ih h2]

include hH in
/-- the entries of a map -/
theorem mapEs_sound {X : AV} {v : Value} {es : List En} (hx : VR μ X v) (hm : mapEs h X = some es) :
    (X = .map0 ∧ v = .map none ∧ es = []) ∨ ∃ f b s n clock, X = .map f ∧ hget f h = .map es clock ∧ μ f 0 = some (b, s, n) ∧ v = .map (some b) ∧ B ≤ b ∧ ∃ es' : Array MapEntry, w.heap[b]? = some (.map es' clock) ∧ EnsR μ es es'.toList := by
  unfold mapEs at hm
  split at hm
  · simp only [VR] at hx; cases hm; exact .inl ⟨rfl, hx, rfl⟩
  · rename_i f
    simp only [VR] at hx
    obtain ⟨b, s, n, h1, rfl⟩ := hx
    obtain ⟨es0, c, ho, h2⟩ := asMapO_some hm
    cases h2
    obtain ⟨h3, es', h4, h5⟩ := hH.mapOb ho h1
    exact .inr ⟨f, b, s, n, c, rfl, ho, h1, rfl, h3, es', h4, h5⟩
  · cases hm

omit hE hH in
mutual
/-- values out of the text -/
theorem ofV_sound (μ : Mu) : ∀ (v : Value), VR μ (ofV v) v
  | .bool b => by simp only [ofV, VR]
  | .int k (.ofNat n) => by simp only [ofV, VR]
  | .int k (.negSucc n) => by simp only [ofV, VR]
  | .string s => by simp only [ofV, VR]; exact ⟨s, rfl, rfl⟩
  | .pointer none => by simp only [ofV, VR]
  | .slice none 0 0 => by simp only [ofV, VR]
  | .map none => by simp only [ofV, VR]
  | .func f ⟨fs⟩ ⟨cs⟩ => by simp only [ofV, VR]; exact ⟨f, _, _, rfl, rfl, ofVs_sound μ fs, ofVs_sound μ cs⟩
  | .nilFunc => by simp only [ofV, VR]
  | .nilIface => by simp only [ofV, VR]
  | .iface t v => by simp only [ofV, VR]; exact ⟨v, rfl, ofV_sound μ v⟩
  | .agg ⟨cs⟩ => by simp only [ofV, VR]; exact ⟨_, rfl, ofVs_sound μ cs⟩
  | .tuple ⟨cs⟩ => by simp only [ofV, VR]; exact ⟨_, rfl, ofVs_sound μ cs⟩
  | .pointer (some a) => by simp only [ofV, VR]
  | .slice (some a) n c => by simp only [ofV, VR]
  | .slice none (n + 1) c => by simp only [ofV, VR]
  | .slice none 0 (c + 1) => by simp only [ofV, VR]
  | .map (some a) => by simp only [ofV, VR]
  | .float _ _ => by simp only [ofV, VR]
  | .complex _ _ _ => by simp only [ofV, VR]
  | .chan _ => by simp only [ofV, VR]
theorem ofVs_sound (μ : Mu) : ∀ (vs : List Value), VRs μ (ofVs vs) vs
  | [] => by simp only [ofVs]; exact .nil
  | v :: vs => by simp only [ofVs]; exact .cons (ofV_sound μ v) (ofVs_sound μ vs)
end

end
end Go.Ev


namespace Go.Ev
noncomputable section
set_option linter.unusedVariables false
/-! maps whose order is unknown: looking up -/
theorem findU0_none {E : Env} {kt : Ty} {k : AV} : ∀ {es : List En}, findU0 E kt k es = some none → ∀ e ∈ es, aeq E 12 kt k e.k = some false
  | [], _, e, he => by cases he
  | e0 :: es, h, e, he => by
    unfold findU0 at h
    split at h
    · cases h
    · rename_i r h1 h2
      cases h
      rcases List.mem_cons.1 he with rfl | he
      · exact h1
      · exact findU0_none h2 e he
    · cases h
theorem findU0_some {E : Env} {kt : Ty} {k : AV} {e0 : En} : ∀ {es : List En}, findU0 E kt k es = some (some e0) →
    ∃ l1 l2, es = l1 ++ e0 :: l2 ∧ aeq E 12 kt k e0.k = some true ∧ ∀ e ∈ l1 ++ l2, aeq E 12 kt k e.k = some false
  | [], h => by cases h
  | e :: es, h => by
    unfold findU0 at h
    split at h
    · rename_i h1 h2
      cases h
      exact ⟨[], es, rfl, h1, fun e he => findU0_none h2 e (by simpa using he)⟩
    · rename_i r h1 h2
      cases h
      obtain ⟨l1, l2, rfl, h3, h4⟩ := findU0_some h2
      refine ⟨e :: l1, l2, rfl, h3, fun x hx => ?_⟩
      rcases List.mem_cons.1 hx with rfl | hx
      · exact h1
      · exact h4 x hx
    · cases h
theorem findK0_none {E : Env} {kt : Ty} {k : AV} : ∀ {es : List En} {i : Nat}, (∀ e ∈ es, aeq E 12 kt k e.k = some false) → findK0 E kt k es i = some none
  | [], _, _ => rfl
  | e :: es, i, h => by
    unfold findK0
    rw [h e (List.mem_cons_self ..)]
    exact findK0_none fun x hx => h x (List.mem_cons_of_mem _ hx)
theorem findK0_app {E : Env} {kt : Ty} {k : AV} {e0 : En} {l2 : List En} (h0 : aeq E 12 kt k e0.k = some true) : ∀ {l1 : List En} {i : Nat}, (∀ e ∈ l1, aeq E 12 kt k e.k = some false) →
    ∃ j, findK0 E kt k (l1 ++ e0 :: l2) i = some (some (j, e0))
  | [], i, _ => ⟨i, by
    show findK0 E kt k (e0 :: l2) i = _
    unfold findK0
    rw [h0]⟩
  | e :: l1, i, h => by
    obtain ⟨j, hj⟩ := findK0_app (l2 := l2) h0 (l1 := l1) (i := Nat.succ i) (fun x hx => h x (List.mem_cons_of_mem _ hx))
    refine ⟨j, ?_⟩
    show findK0 E kt k (e :: (l1 ++ e0 :: l2)) i = _
    unfold findK0
    rw [h e (List.mem_cons_self ..)]
    exact hj
/-- what is found does not hang on the order -/
theorem findU_find {E : Env} {kt : Ty} {k : AV} {es es' : List En} {r : Option En} (hp : (es.map kv).Perm (es'.map kv)) (h : findU0 E kt k es = some r) (i : Nat) :
    (r = none ∧ findK0 E kt k es' i = some none) ∨ ∃ e e' j, r = some e ∧ findK0 E kt k es' i = some (some (j, e')) ∧ e'.v = e.v := by
  have back : ∀ {l m : List En}, (l.map kv).Perm (m.map kv) → (∀ e ∈ l, aeq E 12 kt k e.k = some false) → ∀ e ∈ m, aeq E 12 kt k e.k = some false := by
    intro l m hlm hl e he
    have h1 : kv e ∈ l.map kv := hlm.mem_iff.2 (List.mem_map.2 ⟨e, he, rfl⟩)
    obtain ⟨e1, h2, h3⟩ := List.mem_map.1 h1
    have h4 : e1.k = e.k := congrArg Prod.fst h3
    rw [← h4]
    exact hl e1 h2
  cases r with
  | none => exact .inl ⟨rfl, findK0_none (back hp (findU0_none h))⟩
  | some e0 =>
    obtain ⟨l1, l2, rfl, h1, h2⟩ := findU0_some h
    have h3 : kv e0 ∈ es'.map kv := hp.mem_iff.1 (List.mem_map.2 ⟨e0, by simp, rfl⟩)
    obtain ⟨e1, h4, h5⟩ := List.mem_map.1 h3
    obtain ⟨m1, m2, rfl⟩ := List.append_of_mem h4
    have hk : e1.k = e0.k := congrArg Prod.fst h5
    have hv : e1.v = e0.v := congrArg Prod.snd h5
    have hp2 : ((l1 ++ l2).map kv).Perm ((m1 ++ m2).map kv) := by
      simp only [List.map_append, List.map_cons] at hp ⊢
      rw [h5] at hp
      exact ((List.perm_middle.symm.trans hp).trans List.perm_middle).cons_inv
    have h6 := back hp2 h2
    obtain ⟨j, hj⟩ := findK0_app (l2 := m2) (k := k) (e0 := e1) (by rw [hk]; exact h1) (l1 := m1) (i := i) (fun e he => h6 e (List.mem_append_left _ he))
    exact .inr ⟨e0, e1, j, rfl, hj, hv⟩
section
variable {E : Env} {P : Program} (hE : EnvOk E P) {B : Nat} {μ : Mu} {h : Hp} {w : World} (hH : HR B μ h w)
include hH in
theorem mapUs_sound {X : AV} {v : Value} {es : List En} (hx : VR μ X v) (hm : mapUs h X = some es) :
    ∃ b es' clock es0, v = .map (some b) ∧ w.heap[b]? = some (.map es' clock) ∧ EnsR μ es0 es'.toList ∧ (es.map kv).Perm (es0.map kv) := by
  unfold mapUs at hm
  split at hm
  · rename_i f
    simp only [VR] at hx
    obtain ⟨b, s, n, h1, rfl⟩ := hx
    have ho := hH.obj f
    cases hf : hget f h with
    | mapu es1 =>
      rw [hf] at hm ho
      have e : some es1 = some es := hm
      cases e
      obtain ⟨_, es', clock, es0, h2, h3, h4⟩ := ho.2 b s n h1
      exact ⟨b, es', clock, es0, rfl, h2, h3, h4⟩
    | _ => rw [hf] at hm; cases hm
  · cases hm
end
end
end Go.Ev
