/- THE EVALUATOR, part 4 of 10: EvPure7 EvMapU EvPure8 EvPure9 EvMem2 EvAlloc -/
import Derived.Test.YtmaokndfmohdpaaGreatDoorEv3
import Derived.MapKept
import Derived.Laws.BytesString
import Derived.Laws.NewFold
set_option linter.unusedVariables false
set_option linter.unusedSectionVars false
set_option linter.unusedSimpArgs false
namespace Go.Ev
set_option linter.unusedVariables false
set_option linter.unusedSectionVars false
set_option linter.unusedSimpArgs false
variable [Val]

section
variable {E : Env} {P : Program} (hE : EnvOk E P) {B : Nat} {μ : Mu} {h : Hp} {w : World} (hH : HR B μ h w)
  {L : Lo} {ρ : Operand → Value} {q : Operand → Opd} (hq : ∀ x, VR μ (getO (q x) L) (ρ x))
variable {d : Option Tmp} {ty : TypeId} {pos : String} {af : Array Edge} {gd : Option (Nat × Bool)} {a : AV}

/-! ## keys -/
include hE in
theorem checkFs_sound {dd N k : Nat} {em : Bool}
    (ih : ∀ (t : TypeId) (X : AV) (u : Value), aeq E dd (tyOf E k t) X X = some true → keyTy (tyOf E k t) = true → VR μ X u → (Instr.checkKey em N t u).run P w = .ok () w)
    {xs : List AV} {us : Array Value} (hx : VRs μ xs us.toList) : ∀ (fs : List Field), eqFs (aeq E dd) xs xs (tyFs E (tyOf E k) fs) = some true →
    keyTy (tyFs E (tyOf E k) fs) = true →
    (forIn fs PUnit.unit (fun f (_ : PUnit) => (if f.name ≠ "_" then (do Instr.checkKey em N f.type (← part f.type us f.offset); pure (ForInStep.yield PUnit.unit)) else pure (ForInStep.yield PUnit.unit) : Sem (ForInStep PUnit)))).run P w = .ok PUnit.unit w
  | [], hr, hk => by simp
  | f :: fs, hr, hk => by
    simp only [List.forIn_cons]
    unfold tyFs at hr hk
    by_cases hn : f.name = "_"
    · simp only [hn, decide_true, cond_true] at hr hk
      have := checkFs_sound ih hx fs hr hk
      simpa [hn] using this
    · simp only [hn, decide_false, cond_false] at hr hk
      cases hs : E.szA f.type with
      | none => rw [hs] at hr; cases hr
      | some p =>
        obtain ⟨n, ag⟩ := p
        rw [hs] at hr hk
        simp only [eqFs] at hr
        simp only [keyTy, Bool.and_eq_true] at hk
        split at hr
        · rename_i p1 p2 c1 c2
          rw [c1] at c2
          cases c2
          obtain ⟨ds, h1, h2, h3⟩ := szA_some hs
          obtain ⟨u, hu, hur⟩ := cut_sound (P := P) (w := w) h1 h2 h3 hE hx c1
          split at hr
          · rename_i he
            have i1 := ih f.type p1 u he hk.1 hur
            have := checkFs_sound ih hx fs hr hk.2
            simpa [hn, hu, i1] using this
          · cases hr
          · cases hr
        · cases hr

include hE in
theorem checkKey_sound (em : Bool) : ∀ (dd k : Nat) (t : TypeId) (X : AV) (u : Value) (N : Nat), aeq E dd (tyOf E k t) X X = some true → keyTy (tyOf E k t) = true → VR μ X u → dd ≤ N →
    (Instr.checkKey em N t u).run P w = .ok () w
  | 0, k, t, X, u, N, hr, _, _, _ => by cases hr
  | dd + 1, 0, t, X, u, N, hr, _, _, _ => by cases hr
  | dd + 1, k + 1, t, X, u, 0, hr, hk, hx, hN => by omega
  | dd + 1, k + 1, t, X, u, N + 1, hr, hk, hx, hN => by
    have hdN : dd ≤ N := by omega
    unfold tyOf at hr hk
    split at hr
    · rename_i hu
      simp [Instr.checkKey, hE.runUnd hu]
    · rename_i kk hu
      simp [Instr.checkKey, hE.runUnd hu]
    · rename_i hu
      simp [Instr.checkKey, hE.runUnd hu]
    · rename_i el hu
      simp [Instr.checkKey, hE.runUnd hu]
    · rename_i ms hu; rw [hu] at hk; cases hk
    · rename_i el hu; rw [hu] at hk; cases hk
    · rename_i k1 e1 hu; rw [hu] at hk; cases hk
    · rename_i p1 p2 p3 hu; rw [hu] at hk; cases hk
    · rename_i fs hu
      rw [hu] at hk
      simp only at hk
      cases hst : E.P.stoodInHeld t with
      | true => rw [hst] at hr; cases hr
      | false =>
        rw [hst] at hr hk
        simp only [cond_false] at hr hk
        have hagg : ∃ xs, X = .agg xs ∧ eqFs (aeq E dd) xs xs (tyFs E (tyOf E k) fs.toList) = some true := by
          rcases tyFs_cases (E := E) (tyOf E k) fs.toList with h0 | ⟨a, b, c, t', r', h0⟩ | h0
          · rw [h0] at hr ⊢
            replace hr := asAgg_some hr
            obtain ⟨xs, rfl, h3⟩ := hr
            exact ⟨xs, rfl, h3⟩
          · rw [h0] at hr ⊢
            replace hr := asAgg_some hr
            obtain ⟨xs, rfl, h3⟩ := hr
            exact ⟨xs, rfl, h3⟩
          · rw [h0] at hr; cases hr
        obtain ⟨xs, rfl, hfs⟩ := hagg
        simp only [VR] at hx
        obtain ⟨us, rfl, hx⟩ := hx
        have := checkFs_sound (em := em) (N := N) (w := w) hE (fun t' X' u' he hk' h1 => checkKey_sound em dd k t' X' u' N he hk' h1 hdN) hx fs.toList hfs hk
        rw [Instr.checkKey]
        simp only [Sem.run_bind, hE.runUnd hu, Result.andThen_ok]
        rw [← Array.forIn_toList, this]
        rfl
    · cases hr

/-- what findK found -/
def FoundR (μ : Mu) : Option (Nat × En) → Option (Nat × Value) → List En → List MapEntry → Nat → Prop
  | none, r, _, _, _ => r = none
  | some (i, e), r, es, xs, i0 => ∃ x, i0 ≤ i ∧ es[i - i0]? = some e ∧ xs[i - i0]? = some x ∧ EnR μ e x ∧ r = some (i, x.val)

include hE hH in
theorem findAsk_sound {kt : TypeId} {X : AV} {u : Value} (hx : VR μ X u) : ∀ (es : List En) (xs : List MapEntry) (i : Nat) (r : Option (Nat × En)), EnsR μ es xs →
    findK0 E (tyOf E 8 kt) X es i = some r → ∃ r', (Instr.findAsking kt u xs i).run P w = .ok r' w ∧ FoundR μ r r' es xs i
  | [], xs, i, r, hes, hr => by
    simp only [EnsR] at hes; subst hes
    cases hr
    exact ⟨none, by simp [Instr.findAsking], rfl⟩
  | e :: es, _, i, r, hes, hr => by
    simp only [EnsR] at hes
    obtain ⟨x, xs, rfl, he, hes⟩ := hes
    unfold findK0 at hr
    split at hr
    · rename_i heq
      cases hr
      have := aeq_sound hE hH 12 8 kt _ _ _ _ true 10000 heq hx he.1 (by omega)
      refine ⟨some (i, x.val), ?_, ?_⟩
      · have e1 : (Op.equal kt u x.key).run P w = .ok true w := this
        simp [Instr.findAsking, e1]
      · exact ⟨x, Nat.le_refl _, by simp, by simp, he, rfl⟩
    · rename_i heq
      have := aeq_sound hE hH 12 8 kt _ _ _ _ false 10000 heq hx he.1 (by omega)
      have e1 : (Op.equal kt u x.key).run P w = .ok false w := this
      obtain ⟨r', h1, h2⟩ := findAsk_sound hx es xs (i + 1) r hes hr
      refine ⟨r', by simp [Instr.findAsking, e1, h1], ?_⟩
      cases r with
      | none => exact h2
      | some p =>
        obtain ⟨j, e'⟩ := p
        obtain ⟨y, g1, g2, g3, g4⟩ := h2
        refine ⟨y, by omega, ?_, ?_, g4⟩
        · rw [show j - i = (j - (i + 1)) + 1 by omega]; simpa using g2
        · rw [show j - i = (j - (i + 1)) + 1 by omega]; simpa using g3
    · cases hr

/-- how findNow and findAsking agree -/
theorem now_asking {kt : TypeId} {kd : TypeDesc} {u : Value} (hu : P.underlying kt = some kd) : ∀ (xs : List MapEntry) (i : Nat) (r r' : Option (Nat × Value)), Instr.findNow kd u xs i = some r →
    (Instr.findAsking kt u xs i).run P w = .ok r' w → r = r'
  | [], i, r, r', h1, h2 => by
    simp [Instr.findNow] at h1
    simp [Instr.findAsking] at h2
    rw [← h1, ← h2]
  | x :: xs, i, r, r', h1, h2 => by
    have key : ∀ b, Instr.sameNow kd u x.key = some b → (Op.equal kt u x.key).run P w = .ok b w := by
      intro b hb
      revert hb
      generalize x.key = y
      intro hb
      unfold Instr.sameNow at hb
      split at hb
      · rename_i k1 a k2 c
        split at hb
        · rename_i hk
          cases hb
          subst hk
          show (Op.equalIn (9999 + 1) kt _ _).run P w = _
          rw [run_equalIn_int _ _ _ _ _ _ _ hu]
        · cases hb
      · rename_i a c
        cases hb
        show (Op.equalIn (9999 + 1) kt _ _).run P w = _
        rw [run_equalIn_string _ _ _ _ _ hu, Go.ByteArray.toList_eq, Go.ByteArray.toList_eq]
        congr 1
        show _ = (a.data == c.data)
        rw [Bool.eq_iff_iff]; simp
      · rename_i a c
        cases hb
        show (Op.equalIn (9999 + 1) kt _ _).run P w = _
        rw [run_equalIn_bool' _ _ _ _ _ hu]
      · cases hb
    unfold Instr.findNow at h1
    split at h1
    · rename_i hb
      have := key _ hb
      simp [Instr.findAsking, this] at h2
      cases h1; exact h2
    · rename_i hb
      have := key _ hb
      simp only [Instr.findAsking, Sem.run_bind, this, Result.andThen_ok, Bool.false_eq_true, if_false] at h2
      exact now_asking hu xs (i + 1) r r' h1 h2
    · cases h1

theorem tyOf_und {k : Nat} {t : TypeId} (h : tyOf E k t ≠ .bad) : ∃ ds, E.und t = some ds := by
  cases k with
  | zero => exact absurd rfl h
  | succ k =>
    cases hu : E.und t with
    | some ds => exact ⟨ds, rfl⟩
    | none => rw [tyOf, hu] at h; exact absurd rfl h

include hE hH in
theorem findKey_sound {kt : TypeId} {X : AV} {u : Value} {es : List En} {xs : List MapEntry} {r : Option (Nat × En)} (hx : VR μ X u) (hes : EnsR μ es xs)
    (hr : findK E (tyOf E 8 kt) X es = some r) : ∃ r', (Instr.findKey kt u xs).run P w = .ok r' w ∧ FoundR μ r r' es xs 0 := by
  obtain ⟨hok, hr⟩ := cnd_inv hr
  obtain ⟨r', h1, h2⟩ := findAsk_sound hE hH (w := w) hx es xs 0 r hes hr
  have hbad : tyOf E 8 kt ≠ .bad := fun hh => by rw [hh] at hok; cases hok
  obtain ⟨ds, hu⟩ := tyOf_und hbad
  refine ⟨r', ?_, h2⟩
  simp only [Instr.findKey, Sem.run_bind, hE.runUnd hu, Result.andThen_ok]
  split
  · rename_i r0 hn
    rw [now_asking (hE.und hu) _ _ _ _ hn h1]; rfl
  · exact h1
include hE in
theorem checkK {kt : TypeId} {X : AV} {u : Value} {es : List En} {r : Option (Nat × En)} (em : Bool) (hk : keyTy (tyOf E 8 kt) = true) (hx : VR μ X u) (hr : findK E (tyOf E 8 kt) X es = some r) :
    (Instr.checkKey em 10000 kt u).run P w = .ok () w := by
  obtain ⟨hok, hr⟩ := cnd_inv hr
  refine checkKey_sound hE em 12 8 kt X u 10000 ?_ hk hx (by omega)
  unfold okKey at hok
  cases h0 : aeq E 12 (tyOf E 8 kt) X X with
  | none => rw [h0] at hok; cases hok
  | some b => rw [h0] at hok; exact congrArg some hok

include hH in
theorem HR.mapOb {f : Key} {es : List En} {clock : Nat} (ho : hget f h = .map es clock) {b s n : Nat} (hm : μ f 0 = some (b, s, n)) :
    B ≤ b ∧ ∃ es' : Array MapEntry, w.heap[b]? = some (.map es' clock) ∧ EnsR μ es es'.toList := by
  have := hH.obj f
  rw [ho] at this
  exact this.2 b s n hm
theorem EnsR.length {es : List En} {xs : List MapEntry} (hh : EnsR μ es xs) : es.length = xs.length := by
  induction es generalizing xs with
  | nil => simp only [EnsR] at hh; subst hh; rfl
  | cons e es ih =>
    simp only [EnsR] at hh
    obtain ⟨x, r, rfl, _, h2⟩ := hh
    simp [ih h2]

include hH in
/-- the entries of a map -/
theorem mapEs_sound {X : AV} {v : Value} {es : List En} (hx : VR μ X v) (hm : mapEs h X = some es) :
    (X = .map0 ∧ v = .map none ∧ es = []) ∨ ∃ f b s n clock, X = .map f ∧ hget f h = .map es clock ∧ μ f 0 = some (b, s, n) ∧ v = .map (some b) ∧ B ≤ b ∧ ∃ es' : Array MapEntry, w.heap[b]? = some (.map es' clock) ∧ EnsR μ es es'.toList := by
  unfold mapEs at hm
  split at hm
  · simp only [VR] at hx; cases hm; exact .inl ⟨rfl, hx, rfl⟩
  · rename_i f
    simp only [VR] at hx
    obtain ⟨b, s, n, h1, rfl⟩ := hx
    obtain ⟨es0, c, ho, h2⟩ := asMapO_some hm
    cases h2
    obtain ⟨h3, es', h4, h5⟩ := hH.mapOb ho h1
    exact .inr ⟨f, b, s, n, c, rfl, ho, h1, rfl, h3, es', h4, h5⟩
  · cases hm

omit hE hH in
mutual
/-- values out of the text -/
theorem ofV_sound (μ : Mu) : ∀ (v : Value), VR μ (ofV v) v
  | .bool b => by simp only [ofV, VR]
  | .int k (.ofNat n) => by simp only [ofV, VR]
  | .int k (.negSucc n) => by simp only [ofV, VR]
  | .string s => by simp only [ofV, VR]; exact ⟨s, rfl, rfl⟩
  | .pointer none => by simp only [ofV, VR]
  | .slice none 0 0 => by simp only [ofV, VR]
  | .map none => by simp only [ofV, VR]
  | .func f ⟨fs⟩ ⟨cs⟩ => by simp only [ofV, VR]; exact ⟨f, _, _, rfl, rfl, ofVs_sound μ fs, ofVs_sound μ cs⟩
  | .nilFunc => by simp only [ofV, VR]
  | .nilIface => by simp only [ofV, VR]
  | .iface t v => by simp only [ofV, VR]; exact ⟨v, rfl, ofV_sound μ v⟩
  | .agg ⟨cs⟩ => by simp only [ofV, VR]; exact ⟨_, rfl, ofVs_sound μ cs⟩
  | .tuple ⟨cs⟩ => by simp only [ofV, VR]; exact ⟨_, rfl, ofVs_sound μ cs⟩
  | .pointer (some a) => by simp only [ofV, VR]
  | .slice (some a) n c => by simp only [ofV, VR]
  | .slice none (n + 1) c => by simp only [ofV, VR]
  | .slice none 0 (c + 1) => by simp only [ofV, VR]
  | .map (some a) => by simp only [ofV, VR]
  | .float _ _ => by simp only [ofV, VR]
  | .complex _ _ _ => by simp only [ofV, VR]
  | .chan _ => by simp only [ofV, VR]
theorem ofVs_sound (μ : Mu) : ∀ (vs : List Value), VRs μ (ofVs vs) vs
  | [] => by simp only [ofVs]; exact .nil
  | v :: vs => by simp only [ofVs]; exact .cons (ofV_sound μ v) (ofVs_sound μ vs)
end

end
end Go.Ev


namespace Go.Ev
noncomputable section
set_option linter.unusedVariables false
set_option linter.unusedSectionVars false
variable [Val]
/-! maps whose order is unknown: looking up -/
theorem findU0_none {E : Env} {kt : Ty} {k : AV} : ∀ {es : List En}, findU0 E kt k es = some none → ∀ e ∈ es, aeq E 12 kt k e.k = some false
  | [], _, e, he => by cases he
  | e0 :: es, h, e, he => by
    unfold findU0 at h
    split at h
    · cases h
    · rename_i r h1 h2
      cases h
      rcases List.mem_cons.1 he with rfl | he
      · exact h1
      · exact findU0_none h2 e he
    · cases h
theorem findU0_some {E : Env} {kt : Ty} {k : AV} {e0 : En} : ∀ {es : List En}, findU0 E kt k es = some (some e0) →
    ∃ l1 l2, es = l1 ++ e0 :: l2 ∧ aeq E 12 kt k e0.k = some true ∧ ∀ e ∈ l1 ++ l2, aeq E 12 kt k e.k = some false
  | [], h => by cases h
  | e :: es, h => by
    unfold findU0 at h
    split at h
    · rename_i h1 h2
      cases h
      exact ⟨[], es, rfl, h1, fun e he => findU0_none h2 e (by simpa using he)⟩
    · rename_i r h1 h2
      cases h
      obtain ⟨l1, l2, rfl, h3, h4⟩ := findU0_some h2
      refine ⟨e :: l1, l2, rfl, h3, fun x hx => ?_⟩
      rcases List.mem_cons.1 hx with rfl | hx
      · exact h1
      · exact h4 x hx
    · cases h
theorem findK0_none {E : Env} {kt : Ty} {k : AV} : ∀ {es : List En} {i : Nat}, (∀ e ∈ es, aeq E 12 kt k e.k = some false) → findK0 E kt k es i = some none
  | [], _, _ => rfl
  | e :: es, i, h => by
    unfold findK0
    rw [h e (List.mem_cons_self ..)]
    exact findK0_none fun x hx => h x (List.mem_cons_of_mem _ hx)
theorem findK0_app {E : Env} {kt : Ty} {k : AV} {e0 : En} {l2 : List En} (h0 : aeq E 12 kt k e0.k = some true) : ∀ {l1 : List En} {i : Nat}, (∀ e ∈ l1, aeq E 12 kt k e.k = some false) →
    ∃ j, findK0 E kt k (l1 ++ e0 :: l2) i = some (some (j, e0))
  | [], i, _ => ⟨i, by
    show findK0 E kt k (e0 :: l2) i = _
    unfold findK0
    rw [h0]⟩
  | e :: l1, i, h => by
    obtain ⟨j, hj⟩ := findK0_app (l2 := l2) h0 (l1 := l1) (i := Nat.succ i) (fun x hx => h x (List.mem_cons_of_mem _ hx))
    refine ⟨j, ?_⟩
    show findK0 E kt k (e :: (l1 ++ e0 :: l2)) i = _
    unfold findK0
    rw [h e (List.mem_cons_self ..)]
    exact hj
/-- what is found does not hang on the order -/
theorem findU_find {E : Env} {kt : Ty} {k : AV} {es es' : List En} {r : Option En} (hp : (es.map kv).Perm (es'.map kv)) (h : findU0 E kt k es = some r) (i : Nat) :
    (r = none ∧ findK0 E kt k es' i = some none) ∨ ∃ e e' j, r = some e ∧ findK0 E kt k es' i = some (some (j, e')) ∧ e'.v = e.v := by
  have back : ∀ {l m : List En}, (l.map kv).Perm (m.map kv) → (∀ e ∈ l, aeq E 12 kt k e.k = some false) → ∀ e ∈ m, aeq E 12 kt k e.k = some false := by
    intro l m hlm hl e he
    have h1 : kv e ∈ l.map kv := hlm.mem_iff.2 (List.mem_map.2 ⟨e, he, rfl⟩)
    obtain ⟨e1, h2, h3⟩ := List.mem_map.1 h1
    have h4 : e1.k = e.k := congrArg Prod.fst h3
    rw [← h4]
    exact hl e1 h2
  cases r with
  | none => exact .inl ⟨rfl, findK0_none (back hp (findU0_none h))⟩
  | some e0 =>
    obtain ⟨l1, l2, rfl, h1, h2⟩ := findU0_some h
    have h3 : kv e0 ∈ es'.map kv := hp.mem_iff.1 (List.mem_map.2 ⟨e0, by simp, rfl⟩)
    obtain ⟨e1, h4, h5⟩ := List.mem_map.1 h3
    obtain ⟨m1, m2, rfl⟩ := List.append_of_mem h4
    have hk : e1.k = e0.k := congrArg Prod.fst h5
    have hv : e1.v = e0.v := congrArg Prod.snd h5
    have hp2 : ((l1 ++ l2).map kv).Perm ((m1 ++ m2).map kv) := by
      simp only [List.map_append, List.map_cons] at hp ⊢
      rw [h5] at hp
      exact ((List.perm_middle.symm.trans hp).trans List.perm_middle).cons_inv
    have h6 := back hp2 h2
    obtain ⟨j, hj⟩ := findK0_app (l2 := m2) (k := k) (e0 := e1) (by rw [hk]; exact h1) (l1 := m1) (i := i) (fun e he => h6 e (List.mem_append_left _ he))
    exact .inr ⟨e0, e1, j, rfl, hj, hv⟩
section
variable {E : Env} {P : Program} (hE : EnvOk E P) {B : Nat} {μ : Mu} {h : Hp} {w : World} (hH : HR B μ h w)
include hH in
theorem mapUs_sound {X : AV} {v : Value} {es : List En} (hx : VR μ X v) (hm : mapUs h X = some es) :
    ∃ b es' clock es0, v = .map (some b) ∧ w.heap[b]? = some (.map es' clock) ∧ EnsR μ es0 es'.toList ∧ (es.map kv).Perm (es0.map kv) := by
  unfold mapUs at hm
  split at hm
  · rename_i f
    simp only [VR] at hx
    obtain ⟨b, s, n, h1, rfl⟩ := hx
    have ho := hH.obj f
    cases hf : hget f h with
    | mapu es1 =>
      rw [hf] at hm ho
      have e : some es1 = some es := hm
      cases e
      obtain ⟨_, es', clock, es0, h2, h3, h4⟩ := ho.2 b s n h1
      exact ⟨b, es', clock, es0, rfl, h2, h3, h4⟩
    | _ => rw [hf] at hm; cases hm
  · cases hm
end
end
end Go.Ev


namespace Go.Ev
set_option linter.unusedVariables false
set_option linter.unusedSectionVars false
set_option linter.unusedSimpArgs false
variable [Val]

section
variable {E : Env} {P : Program} (hE : EnvOk E P) {B : Nat} {μ : Mu} {h : Hp} {w : World} (hH : HR B μ h w)
  {L : Lo} {ρ : Operand → Value} {q : Operand → Opd} (hq : ∀ x, VR μ (getO (q x) L) (ρ x))
variable {d : Option Tmp} {ty : TypeId} {pos : String} {af : Array Edge} {gd : Option (Nat × Bool)} {a : AV}

include hE in
theorem EnvOk.runZero {t : TypeId} {z : AV} (hz : zeroA E t = some z) (w : World) : ∃ v, (zeroValue t).run P w = .ok v w ∧ z = ofV v := by
  obtain ⟨i, v, h1, h2, h3⟩ := hE.zero hz
  exact ⟨v, by simp [zeroValue, typeInfo, h1, h2], h3⟩

include hE hH hq in
theorem p_lookup {t kt el : TypeId} {z : AV} {x k : Operand} {ok : Bool} (hu : E.und t = some (.map kt el)) (hz : zeroA E el = some z) (hk : keyTy (tyOf E 8 kt) = true)
    (hev : xLookup E (tyOf E 8 kt) z ok (q x) (q k) h L = some a) : Gives P ρ w μ ⟨d, .lookup t x k ok, ty, pos, af, gd⟩ a := by
  obtain ⟨r, h1, hev⟩ := opt_inv hev
  obtain ⟨zv, hzv, rfl⟩ := hE.runZero hz w
  have main : ∀ (es : List En) (r0 : Option (Nat × En)) (xs : Array MapEntry), findK E (tyOf E 8 kt) (getO (q k) L) es = some r0 → (opt r0 none fun e => some e.2.v) = r → EnsR μ es xs.toList → (∀ e, (Instr.checkKey e 10000 kt (ρ k)).run P w = .ok () w) ∧
      ∃ r', (Instr.findKey kt (ρ k) xs.toList).run P w = .ok r' w ∧
        VR μ a (match r' with | some (_, v) => if ok then .tuple #[v, .bool true] else v | none => if ok then .tuple #[zv, .bool false] else zv) := by
    intro es r0 xs h2 hr0 hes
    refine ⟨fun e => checkK hE e hk (hq k) h2, ?_⟩
    obtain ⟨r', g1, g2⟩ := findKey_sound hE hH (hq k) hes h2
    refine ⟨r', g1, ?_⟩
    subst hr0
    cases r0 with
    | none =>
      cases hev
      simp only [FoundR] at g2; subst g2
      cases ok with
      | true => simp only [cnd_true, if_true, VR]; exact ⟨_, rfl, .cons (ofV_sound μ zv) (.cons (by simp only [VR]) .nil)⟩
      | false => simp only [cnd_false]; exact ofV_sound μ zv
    | some p =>
      obtain ⟨i, e⟩ := p
      cases hev
      obtain ⟨y, _, g3, g4, g5, rfl⟩ := g2
      cases ok with
      | true => simp only [cnd_true, if_true, VR]; exact ⟨_, rfl, .cons g5.2.1 (.cons (by simp only [VR]) .nil)⟩
      | false => simp only [cnd_false]; exact g5.2.1
  have all : (ρ x = .map none ∧ (∀ e, (Instr.checkKey e 10000 kt (ρ k)).run P w = .ok () w) ∧
      ∃ r', (Instr.findKey kt (ρ k) []).run P w = .ok r' w ∧
        VR μ a (match r' with | some (_, v) => if ok then .tuple #[v, .bool true] else v | none => if ok then .tuple #[zv, .bool false] else zv)) ∨
      ∃ b es' clock, ρ x = .map (some b) ∧ w.heap[b]? = some (.map es' clock) ∧ (∀ e, (Instr.checkKey e 10000 kt (ρ k)).run P w = .ok () w) ∧
      ∃ r', (Instr.findKey kt (ρ k) es'.toList).run P w = .ok r' w ∧
        VR μ a (match r' with | some (_, v) => if ok then .tuple #[v, .bool true] else v | none => if ok then .tuple #[zv, .bool false] else zv) := by
    unfold lookV at h1
    cases hes : mapEs h (getO (q x) L) with
    | some es =>
      rw [hes] at h1
      simp only [opt_some] at h1
      obtain ⟨r0, h2, h3⟩ := opt_inv h1
      simp only [Option.some.injEq] at h3
      rcases mapEs_sound hH (hq x) hes with ⟨_, hx, rfl⟩ | ⟨f, b, s, n, clock, _, ho, hm, hx, hB, es', hb, hR⟩
      · exact .inl ⟨hx, main [] r0 #[] h2 h3 (by simp [EnsR])⟩
      · exact .inr ⟨b, es', clock, hx, hb, main es r0 es' h2 h3 hR⟩
    | none =>
      rw [hes] at h1
      simp only [opt_none] at h1
      obtain ⟨us, h4, h1⟩ := opt_inv h1
      obtain ⟨r0, h2, h3⟩ := opt_inv h1
      simp only [Option.some.injEq] at h3
      obtain ⟨b, es', clock, es0, hx, hb, hR, hp⟩ := mapUs_sound hH (hq x) h4
      obtain ⟨h5, h6⟩ := cnd_inv h2
      obtain ⟨r1, h7, h8⟩ : ∃ r1, findK E (tyOf E 8 kt) (getO (q k) L) es0 = some r1 ∧ (opt r1 none fun e => some e.2.v) = r := by
        rcases findU_find hp h6 0 with ⟨e1, e2⟩ | ⟨e, e', j, e1, e2, e3⟩
        · refine ⟨none, by unfold findK; rw [h5]; exact e2, ?_⟩
          subst e1; rw [← h3]; rfl
        · refine ⟨some (j, e'), by unfold findK; rw [h5]; exact e2, ?_⟩
          subst e1; rw [← h3]; simp only [opt_some, e3]
      exact .inr ⟨b, es', clock, hx, hb, main es0 r1 es' h7 h8 hR⟩
  rcases all with ⟨hx, hc, r', hr, hv⟩ | ⟨b, es', clock, hx, hb, hc, r', hr, hv⟩
  · refine ⟨_, run_val (s := Instr.lookup t (ρ x) (ρ k) ok) ?_, hv⟩
    rw [hx]
    simp only [Instr.lookup, Sem.run_bind, hE.runUnd hu, Result.andThen_ok, Sem.run_pure, hc, hr]
    cases r' with
    | none => cases ok <;> simp [hzv]
    | some p => cases ok <;> simp
  · refine ⟨_, run_val (s := Instr.lookup t (ρ x) (ρ k) ok) ?_, hv⟩
    rw [hx]
    simp only [Instr.lookup, Sem.run_bind, hE.runUnd hu, Result.andThen_ok, Sem.run_pure, hc, MapKept.run_getObj_map hb, hr]
    cases r' with
    | none => cases ok <;> simp [hzv]
    | some p => cases ok <;> simp

include hE hH hq in
theorem p_lenMap {xs : Array Operand} {ats : Array TypeId} {x : Operand} {l : List Operand} {t kt el : TypeId} {ts : List TypeId} (hx : xs.toList = x :: l) (ht : ats.toList = t :: ts)
    (hu : E.und t = some (.map kt el)) (hev : xLenMap (q x) h L = some a) :
    Gives P ρ w μ ⟨d, .call { callee := .builtin .len, args := xs, argTypes := ats }, ty, pos, af, gd⟩ a := by
  obtain ⟨es, h1, hev⟩ := opt_inv hev
  cases hev
  rcases mapEs_sound hH (hq x) h1 with ⟨_, hv, rfl⟩ | ⟨f, b, s, n, clock, _, ho, hm, hv, hB, es', hb, hes⟩
  · refine ⟨.int .i64 0, run_builtin (s := Builtin.len_ ats ty (xs.map ρ)) rfl ?_, by simp only [VR]; rfl⟩
    simp only [Builtin.len_, head_types ht, head_args hx, Sem.run_bind, hE.runUnd hu, Result.andThen_ok, hv, Sem.run_pure]
    rfl
  · refine ⟨.int .i64 es'.size, run_builtin (s := Builtin.len_ ats ty (xs.map ρ)) rfl ?_, by simp only [VR]; rw [hes.length]; simp⟩
    simp only [Builtin.len_, head_types ht, head_args hx, Sem.run_bind, hE.runUnd hu, Result.andThen_ok, hv, MapKept.run_getObj_map hb, Sem.run_pure]
    rfl

include hE hq in
theorem p_assertC {x : Operand} {xt t : TypeId} {ok : Bool} {z : AV} {ds : TypeDesc} (hu : E.und t = some ds) (hn : ∀ ms, ds ≠ .interface ms) (hz : zeroA E t = some z)
    (hev : xAssertC t z ok (q x) h L = some a) : Gives P ρ w μ ⟨d, .typeAssert x xt t ok, ty, pos, af, gd⟩ a := by
  obtain ⟨zv, hzv, rfl⟩ := hE.runZero hz w
  have hx := hq x
  unfold xAssertC at hev
  split at hev
  · rename_i e
    rw [e] at hx; simp only [VR] at hx
    obtain ⟨hok, hev⟩ := cnd_inv hev
    cases hev
    subst hok
    refine ⟨.tuple #[zv, .bool false], run_val (s := Instr.typeAssert (ρ x) xt t true) ?_, by simp only [VR]; exact ⟨_, rfl, .cons (ofV_sound μ zv) (.cons (by simp only [VR]) .nil)⟩⟩
    rw [hx]
    simp only [Instr.typeAssert, Sem.run_bind, hE.runUnd hu, Result.andThen_ok]
    cases ds <;> first | (exact absurd rfl (hn _)) | simp [hzv]
  · rename_i u v e
    rw [e] at hx; simp only [VR] at hx
    obtain ⟨y, hx, hy⟩ := hx
    cases hut : Nat.beq u t with
    | true =>
      have := Nat.eq_of_beq_eq_true hut; subst this
      rw [hut] at hev
      cases hev
      refine ⟨if ok then .tuple #[y, .bool true] else y, run_val (s := Instr.typeAssert (ρ x) xt u ok) ?_, ?_⟩
      · rw [hx]
        simp only [Instr.typeAssert, Sem.run_bind, hE.runUnd hu, Result.andThen_ok]
        cases ds <;> first | (exact absurd rfl (hn _)) | (cases ok <;> simp)
      · cases ok with
        | true => simp only [cnd_true, if_true, VR]; exact ⟨_, rfl, .cons hy (.cons (by simp only [VR]) .nil)⟩
        | false => exact hy
    | false =>
      have hne : u ≠ t := by intro hh; subst hh; simp at hut
      rw [hut] at hev
      obtain ⟨hok, hev⟩ := cnd_inv hev
      cases hev
      subst hok
      refine ⟨.tuple #[zv, .bool false], run_val (s := Instr.typeAssert (ρ x) xt t true) ?_, by simp only [VR]; exact ⟨_, rfl, .cons (ofV_sound μ zv) (.cons (by simp only [VR]) .nil)⟩⟩
      rw [hx]
      simp only [Instr.typeAssert, Sem.run_bind, hE.runUnd hu, Result.andThen_ok]
      cases ds <;> first | (exact absurd rfl (hn _)) | simp [hzv, hne]
  · cases hev

theorem least_none {l : List String} : Instr.least l = none ↔ l = [] := by
  cases l <;> simp [Instr.least]
theorem missing_iff (want : Array (String × TypeId)) (got : Array Method) : Instr.missingMethod want got = none ↔ missing want.toList got.toList = false := by
  unfold Instr.missingMethod missing
  simp only [List.partition_eq_filter_filter]
  have orE : ∀ a b : Option String, (a <|> b) = none ↔ a = none ∧ b = none := fun a b => by cases a <;> cases b <;> simp
  rw [orE, least_none, least_none]
  simp only [List.map_eq_nil_iff, List.filter_eq_nil_iff, List.mem_map, List.mem_filter, Bool.not_eq_false', List.all_eq_true, Function.comp]
  constructor
  · rintro ⟨h1, h2⟩ ⟨n, s⟩ hm
    cases hc : (got.toList.any fun m => m.name == n && m.sig == s) with
    | true => rfl
    | false =>
      have hc' : (!got.any fun m => m.name == n && m.sig == s) = true := by rw [← Array.any_toList, hc]; rfl
      have a1 := h1 n ⟨(n, s), ⟨hm, hc'⟩, rfl⟩
      have a2 := h2 n ⟨(n, s), ⟨hm, hc'⟩, rfl⟩
      simp_all
  · intro hh
    constructor
    · rintro x ⟨⟨n, s⟩, ⟨hm, hc⟩, rfl⟩
      have := hh _ hm
      rw [Array.any_toList] at this
      simp only at this hc
      rw [this] at hc; cases hc
    · rintro x ⟨⟨n, s⟩, ⟨hm, hc⟩, rfl⟩
      have := hh _ hm
      rw [Array.any_toList] at this
      simp only at this hc
      rw [this] at hc; cases hc

include hE hq in
theorem p_assertI {x : Operand} {xt t : TypeId} {ok : Bool} {z : AV} {want : Array (String × TypeId)} (hu : E.und t = some (.interface want)) (hz : zeroA E t = some z)
    (hev : xAssertI E want.toList z ok (q x) h L = some a) : Gives P ρ w μ ⟨d, .typeAssert x xt t ok, ty, pos, af, gd⟩ a := by
  obtain ⟨zv, hzv, rfl⟩ := hE.runZero hz w
  have hx := hq x
  unfold xAssertI at hev
  split at hev
  · rename_i e
    rw [e] at hx; simp only [VR] at hx
    obtain ⟨hok, hev⟩ := cnd_inv hev
    cases hev
    subst hok
    refine ⟨.tuple #[zv, .bool false], run_val (s := Instr.typeAssert (ρ x) xt t true) ?_, by simp only [VR]; exact ⟨_, rfl, .cons (ofV_sound μ zv) (.cons (by simp only [VR]) .nil)⟩⟩
    rw [hx]
    simp [Instr.typeAssert, hE.runUnd hu, hzv]
  · rename_i u v e
    rw [e] at hx; simp only [VR] at hx
    obtain ⟨y, hx, hy⟩ := hx
    split at hev
    · rename_i i hi
      have hinfo := hE.ts _ _ hi
      cases hm : missing want.toList i.methods.toList with
      | true =>
        rw [hm] at hev
        obtain ⟨hok, hev⟩ := cnd_inv hev
        cases hev
        subst hok
        have hne : Instr.missingMethod want i.methods ≠ none := fun hh => by rw [(missing_iff _ _).1 hh] at hm; cases hm
        cases hmm : Instr.missingMethod want i.methods with
        | none => exact absurd hmm hne
        | some s =>
          refine ⟨.tuple #[zv, .bool false], run_val (s := Instr.typeAssert (ρ x) xt t true) ?_, by simp only [VR]; exact ⟨_, rfl, .cons (ofV_sound μ zv) (.cons (by simp only [VR]) .nil)⟩⟩
          rw [hx]
          simp [Instr.typeAssert, hE.runUnd hu, hzv, typeInfo, hinfo, hmm]
      | false =>
        rw [hm] at hev
        cases hev
        have hmm := (missing_iff _ _).2 hm
        refine ⟨if ok then .tuple #[.iface u y, .bool true] else .iface u y, run_val (s := Instr.typeAssert (ρ x) xt t ok) ?_, ?_⟩
        · rw [hx]
          cases ok <;> simp [Instr.typeAssert, hE.runUnd hu, hzv, typeInfo, hinfo, hmm]
        · have hv : VR μ (.iface u v) (.iface u y) := by simp only [VR]; exact ⟨_, rfl, hy⟩
          cases ok with
          | true => simp only [cnd_true, if_true, VR]; exact ⟨_, rfl, .cons hv (.cons (by simp only [VR]) .nil)⟩
          | false => exact hv
    · cases hev
  · cases hev

/-! ## build -/
theorem scalar_not {X : AV} {v : Value} (hx : VR μ X v) (hs : X.scalar = true) : isScalar v := by
  cases X <;> simp only [VR] at hx <;> first
    | (cases hs; done)
    | exact hx
    | (subst hx; trivial)
    | (obtain ⟨rfl, _, _⟩ := hx; trivial)
    | (obtain ⟨_, rfl⟩ := hx; trivial)
    | (obtain ⟨_, rfl, _⟩ := hx; trivial)
    | (obtain ⟨_, _, rfl, _⟩ := hx; trivial)
    | (obtain ⟨_, _, _, rfl, _⟩ := hx; trivial)
    | (obtain ⟨_, _, _, _, _, rfl⟩ := hx; trivial)
    | (obtain ⟨_, _, _, _, rfl⟩ := hx; trivial)
    | (obtain ⟨_, _, _, _, _, _, rfl, _⟩ := hx; trivial)
theorem isScalar_cells {v : Value} (hs : isScalar v) : v.cells = #[v] := by cases v <;> first | rfl | cases hs

theorem cellsK_some {X : AV} {R : Type} {k : List AV → Option R} {r : R} {v : Value} (hx : VR μ X v) (hk : cellsK X none k = some r) : ∃ l, k l = some r ∧ VRs μ l v.cells.toList := by
  have sc : X.scalar = true → k [X] = some r → ∃ l, k l = some r ∧ VRs μ l v.cells.toList := fun hs he =>
    ⟨[X], he, by rw [isScalar_cells (scalar_not hx hs)]; exact .cons hx .nil⟩
  rcases (by cases X <;> first | exact .inl ⟨_, rfl⟩ | exact .inr (fun l h => by cases h) : (∃ l, X = .agg l) ∨ ∀ l, X ≠ .agg l) with ⟨l, rfl⟩ | hn
  · simp only [VR] at hx; obtain ⟨cs, rfl, hx⟩ := hx; exact ⟨l, hk, hx⟩
  · have hk' : cnd X.scalar (k [X]) none = some r := by cases X <;> first | exact hk | exact absurd rfl (hn _)
    exact sc (cnd_inv hk').1 (cnd_inv hk').2

theorem ofV_cells (v : Value) : VRs μ (ofV v).cells v.cells.toList := by
  have hv := ofV_sound μ v
  cases v with
  | agg cs => obtain ⟨l⟩ := cs; simp only [ofV]; exact ofVs_sound μ l
  | tuple cs => obtain ⟨l⟩ := cs; simp only [ofV]; exact .cons (by simpa only [ofV] using hv) .nil
  | bool b => exact .cons hv .nil
  | int k n => cases n <;> exact .cons hv .nil
  | pointer p => cases p <;> exact .cons hv .nil
  | slice p n c => cases p <;> cases n <;> cases c <;> exact .cons hv .nil
  | map p => cases p <;> exact .cons hv .nil
  | func f a b => exact .cons hv .nil
  | _ => exact .cons hv .nil

/-- parts of a value -/
def PsR (ρ : Operand → Value) (q : Operand → Opd) (places : Nat → Option (Nat × Nat)) (ps : List (Nat × Operand)) (l : List (Nat × Nat × Opd)) : Prop := partsP q places ps = some l

theorem putAt_sound {cells l : List AV} {cs vs : List Value} {off : Nat} (h1 : VRs μ cells cs) (h2 : VRs μ l vs) : VRs μ (putAt cells off l) (cs.take off ++ vs ++ cs.drop (off + vs.length)) := by
  unfold putAt
  rw [h2.length]
  exact ((h1.take off).append h2).append (h1.drop _)

theorem foldl_zip : ∀ (vs : List Value) (cs : Array Value) (off i : Nat), off + i + vs.length ≤ cs.size →
    ((vs.zipIdx i).foldl (fun (cs : Array Value) (p : Value × Nat) => cs.setIfInBounds (off + p.2) p.1) cs).toList = cs.toList.take (off + i) ++ vs ++ cs.toList.drop (off + i + vs.length)
  | [], cs, off, i, hh => by simp
  | v :: vs, cs, off, i, hh => by
    simp only [List.zipIdx_cons, List.foldl_cons, List.length_cons] at hh ⊢
    rw [foldl_zip vs _ off (i + 1) (by simp; omega)]
    simp only [Array.toList_setIfInBounds]
    have e1 : (cs.toList.set (off + i) v).take (off + (i + 1)) = cs.toList.take (off + i) ++ [v] := by
      rw [show off + (i + 1) = (off + i) + 1 by omega, List.take_succ_eq_append_getElem (by simp; omega)]
      simp [List.take_set_of_le]
    rw [e1, List.drop_set_of_lt (by omega), show off + (i + 1) + vs.length = off + i + (vs.length + 1) by omega]
    simp

theorem fill_sound {places : Nat → Option (Nat × Nat)} (hq : ∀ x, VR μ (getO (q x) L) (ρ x)) : ∀ (ps : List (Nat × Operand)) (l : List (Nat × Nat × Opd)) (cells r : List AV) (cs : Array Value), partsP q places ps = some l →
    fillF L cells l = some r → VRs μ cells cs.toList → ∃ cs', Instr.fill places cs (ps.map fun p => (p.1, ρ p.2)) = some cs' ∧ VRs μ r cs'.toList
  | [], l, cells, r, cs, hp, hf, hc => by
    cases hp; cases hf
    exact ⟨cs, rfl, hc⟩
  | (i, o) :: ps, l, cells, r, cs, hp, hf, hc => by
    unfold partsP at hp
    split at hp
    · rename_i off n m h1 h2
      cases hp
      unfold fillF at hf
      obtain ⟨vs, hf, hvs⟩ := cellsK_some (hq o) hf
      obtain ⟨g1, hf⟩ := cnd_inv hf
      obtain ⟨g2, hf⟩ := cnd_inv hf
      have g1 := Nat.eq_of_beq_eq_true g1
      have g2 := Nat.le_of_ble_eq_true g2
      have s1 : (ρ o).cells.size = n := by have := hvs.length; simp at this; omega
      have s2 : cells.length = cs.size := by have := hc.length; simpa using this
      have g2' : off + n ≤ cells.length := g2
      have hz := foldl_zip (ρ o).cells.toList cs off 0 (by simp; omega)
      obtain ⟨cs', e1, e2⟩ := fill_sound hq ps m _ r ((ρ o).cells.zipIdx.foldl (fun cs (c, j) => cs.setIfInBounds (off + j) c) cs) h2 hf (by
        rw [← Array.foldl_toList, Array.toList_zipIdx]
        have hz' : ((ρ o).cells.toList.zipIdx.foldl (fun (cs : Array Value) (p : Value × Nat) => match p with | (c, j) => cs.setIfInBounds (off + j) c) cs).toList = _ := hz
        rw [hz']
        exact putAt_sound hc hvs)
      refine ⟨cs', ?_, e2⟩
      simp only [List.map_cons, Instr.fill, h1]
      rw [if_neg (by simp; omega)]
      exact e1
    · cases hp

include hE in
theorem run_places (fs : Array Field) (hs : (fs.toList.all fun f => (E.size f.type).isSome) = true) :
    (fs.mapM (fun f => do pure (f.offset, ← sizeOf f.type)) : Sem (Array (Nat × Nat))).run P w = .ok (fs.map fun f => (f.offset, (E.size f.type).getD 0)) w := by
  obtain ⟨fs⟩ := fs
  simp only [List.mapM_toArray, List.map_toArray, Sem.run_map]
  have main : ∀ l : List Field, (l.all fun f => (E.size f.type).isSome) = true → (l.mapM (fun f => do pure (f.offset, ← sizeOf f.type)) : Sem (List (Nat × Nat))).run P w = .ok (l.map fun f => (f.offset, (E.size f.type).getD 0)) w := by
    intro l
    induction l with
    | nil => intro _; simp
    | cons f l ih =>
      intro hh
      simp only [List.all_cons, Bool.and_eq_true] at hh
      obtain ⟨n, hn⟩ := Option.isSome_iff_exists.1 hh.1
      simp only [List.mapM_cons, Sem.run_bind, hE.runSize hn, Result.andThen_ok, Sem.run_pure, ih hh.2, List.map_cons, hn, Option.getD_some]
  rw [main fs hs]
  rfl

include hE hq in
theorem p_build {t : TypeId} {ps : Array (Nat × Operand)} (hev : (buildP q E t ps.toList).ev E h L = some a) : Gives P ρ w μ ⟨d, .build t ps, ty, pos, af, gd⟩ a := by
  unfold buildP at hev
  split at hev
  · rename_i z fs hz hu
    cases hall : fs.toList.all fun f => (E.size f.type).isSome with
    | false => rw [hall] at hev; cases hev
    | true =>
      rw [hall] at hev
      simp only [cond_true] at hev
      split at hev
      · rename_i l hl
        obtain ⟨r, hf, hev⟩ := opt_inv (show opt (fillF L z.cells l) none (fun l => some (AV.agg l)) = some a from hev)
        cases hev
        obtain ⟨zv, hzv, rfl⟩ := hE.runZero hz w
        obtain ⟨cs', e1, e2⟩ := fill_sound hq ps.toList l _ r zv.cells hl hf (ofV_cells zv)
        refine ⟨.agg cs', run_val (s := Instr.build t (ps.map fun (i, x) => (i, ρ x))) ?_, by simp only [VR]; exact ⟨_, rfl, e2⟩⟩
        have e3 : Instr.fill (fun i => (fs.map fun f => (f.offset, (E.size f.type).getD 0))[i]?) zv.cells (ps.map fun (i, x) => (i, ρ x)).toList = some cs' := by
          rw [Array.toList_map]
          have ef : (fun i => (fs.map fun f => (f.offset, (E.size f.type).getD 0))[i]?) = fplace E fs.toList := by
            funext i
            simp only [fplace, Array.getElem?_map, Array.getElem?_toList]
            cases hf : fs[i]? with
            | none => rfl
            | some f =>
              have hm : f ∈ fs.toList := by rw [Array.mem_toList_iff]; exact Array.mem_of_getElem? hf
              have := List.all_eq_true.1 hall f hm
              obtain ⟨n, hn⟩ := Option.isSome_iff_exists.1 this
              simp only [Option.map_some, hn, Option.getD_some]
          rw [ef]
          exact e1
        simp only [Instr.build, Sem.run_bind, hzv, Result.andThen_ok, hE.runUnd hu, run_places hE fs hall, e3, Sem.run_pure]
      · cases hev
  · rename_i z n el hz hu
    split at hev
    · rename_i n hn
      split at hev
      · rename_i l hl
        obtain ⟨r, hf, hev⟩ := opt_inv (show opt (fillF L z.cells l) none (fun l => some (AV.agg l)) = some a from hev)
        cases hev
        obtain ⟨zv, hzv, rfl⟩ := hE.runZero hz w
        obtain ⟨cs', e1, e2⟩ := fill_sound hq ps.toList l _ r zv.cells hl hf (ofV_cells zv)
        refine ⟨.agg cs', run_val (s := Instr.build t (ps.map fun (i, x) => (i, ρ x))) ?_, by simp only [VR]; exact ⟨_, rfl, e2⟩⟩
        have e3 : (ps.map fun (i, x) => (i, ρ x)).toList = ps.toList.map fun p => (p.1, ρ p.2) := by rw [Array.toList_map]
        simp only [Instr.build, Sem.run_bind, hzv, Result.andThen_ok, hE.runUnd hu, hE.runSize hn, e3, e1, Sem.run_pure]
      · cases hev
    · cases hev
  · cases hev


/-! ## strings of numbers, of bytes; entries of a map -/
include hE hq in
theorem p_convS {s t : TypeId} {x : Operand} {ds : TypeDesc} (h1 : E.und s = some ds) (hn : ∀ e, ds ≠ .slice e) (h2 : E.und t = some .string) (hev : xConvS (q x) h L = some a) :
    Gives P ρ w μ ⟨d, .convert s t x, ty, pos, af, gd⟩ a := by
  have hx := hq x
  unfold xConvS at hev
  split at hev
  · rename_i u e
    rw [e] at hx; cases hev
    simp only [VR] at hx
    obtain ⟨b, hx, hb⟩ := hx
    refine ⟨.string b, run_val (s := convert s t (ρ x)) ?_, by simp only [VR]; exact ⟨b, rfl, hb⟩⟩
    rw [hx]
    simp only [convert, Sem.run_bind, hE.runUnd h1, hE.runUnd h2, Result.andThen_ok]
    cases ds <;> first | rfl | exact absurd rfl (hn _)
  · rename_i k n e
    rw [e] at hx; cases hev
    simp only [VR] at hx
    refine ⟨.string (Utf8.encode n), run_val (s := convert s t (ρ x)) ?_, by simp only [VR]; exact ⟨_, rfl, rfl⟩⟩
    rw [hx]
    simp only [convert, Sem.run_bind, hE.runUnd h1, hE.runUnd h2, Result.andThen_ok]
    cases ds <;> first | rfl | exact absurd rfl (hn _)
  · cases hev

theorem allBytes_sound : ∀ (l : List AV) (s : List Nat) (vs : List Value), allBytes l = some s → VRs μ l vs → (vs = s.map fun n => .int .u8 (n : Nat)) ∧ ∀ n ∈ s, n < 256
  | [], s, vs, hb, hv => by cases hb; rw [hv.nil_inv]; exact ⟨rfl, by simp⟩
  | x :: l, s, vs, hb, hv => by
    obtain ⟨v, r, rfl, h1, h2⟩ := hv.cons_inv
    unfold allBytes at hb
    split at hb
    · rename_i heq; cases heq
    · rename_i n l' heq
      cases heq
      obtain ⟨hn, hb⟩ := cnd_inv hb
      split at hb
      · rename_i m hm
        cases hb
        simp only [VR] at h1
        subst h1
        obtain ⟨e1, e2⟩ := allBytes_sound _ _ _ hm h2
        rw [e1]
        refine ⟨rfl, ?_⟩
        intro k hk
        rcases List.mem_cons.1 hk with rfl | hk
        · exact Nat.lt_of_lt_of_le (Nat.lt_succ_self _) (Nat.le_of_ble_eq_true hn)
        · exact e2 k hk
      · cases hb
    · cases hb

theorem allU8_sound {μ : Mu} : ∀ (l : List AV) (vs : List Value), allU8 l = true → VRs μ l vs → ∃ s : List Nat, (vs = s.map fun n => .int .u8 (n : Nat)) ∧ ∀ n ∈ s, n < 256
  | [], vs, hb, hv => by rw [hv.nil_inv]; exact ⟨[], rfl, by simp⟩
  | x :: l, vs, hb, hv => by
    obtain ⟨v, r, rfl, h1, h2⟩ := hv.cons_inv
    unfold allU8 at hb
    split at hb
    · rename_i heq; cases heq
    · rename_i n l' heq
      cases heq
      cases hn : Nat.blt n 256 with
      | false => rw [hn] at hb; cases hb
      | true =>
        rw [hn] at hb
        obtain ⟨s, e1, e2⟩ := allU8_sound l r hb h2
        simp only [VR] at h1
        subst h1
        refine ⟨n :: s, by rw [e1]; rfl, fun k hk => ?_⟩
        rcases List.mem_cons.1 hk with rfl | hk
        · exact Nat.lt_of_lt_of_le (Nat.lt_succ_self _) (Nat.le_of_ble_eq_true hn)
        · exact e2 k hk
    · rename_i f c lo hi l' heq
      cases heq
      obtain ⟨s, e1, e2⟩ := allU8_sound l r hb h2
      simp only [VR] at h1
      obtain ⟨rfl, _, _⟩ := h1
      rw [wrap_u8_eq]
      refine ⟨((Val.n f + c) % 256).toNat :: s, ?_, fun k hk => ?_⟩
      · rw [e1, List.map_cons]
        congr 2
        omega
      · rcases List.mem_cons.1 hk with rfl | hk
        · omega
        · exact e2 k hk
    · cases hb

theorem foldl_bytes : ∀ (s : List Nat) (b : ByteArray), ((s.map fun n : Nat => (n : Int)).foldl (fun r n => r.push (UInt8.ofNat n.toNat)) b).data.toList = b.data.toList ++ s.map UInt8.ofNat
  | [], b => by simp
  | n :: s, b => by
    simp only [List.map_cons, List.foldl_cons]
    rw [foldl_bytes s]
    simp [ByteArray.push]

include hE hH hq in
theorem p_b2s {s t e : TypeId} {x : Operand} (h1 : E.und s = some (.slice e)) (h0 : isU8 E e = true) (h2 : E.und t = some .string) (hev : xB2s (q x) h L = some a) :
    Gives P ρ w μ ⟨d, .convert s t x, ty, pos, af, gd⟩ a := by
  have hx := hq x
  have he : E.und e = some (.int .u8) := by
    unfold isU8 at h0
    split at h0
    · assumption
    · cases h0
  unfold xB2s at hev
  split at hev
  · rename_i eq
    rw [eq] at hx; cases hev
    simp only [VR] at hx
    refine ⟨.string .empty, run_val (s := convert s t (ρ x)) ?_, by simp only [VR]; exact ⟨_, rfl, rfl⟩⟩
    rw [hx, run_convert_bytes_string w s t e none 0 0 (hE.und h1) (hE.und he) (hE.und h2)]
    rfl
  · rename_i f g o len cp ex eq
    rw [eq] at hx
    split at hev
    · rename_i l hl
      split at hev
      · rename_i str hb
        cases hev
        simp only [VR] at hx
        obtain ⟨b, st, n, y, c, hm, hx, _, _, _, hpl⟩ := hx
        refine ⟨.string ((str.map fun n : Nat => (n : Int)).foldl (fun r n => r.push (UInt8.ofNat n.toNat)) ByteArray.empty), run_val (s := convert s t (ρ x)) ?_, ?_⟩
        · rw [hx, run_convert_bytes_string w s t e _ _ _ (hE.und h1) (hE.und he) (hE.und h2)]
          refine run_bytesToString w _ _ _ _ ?_
          rcases hpl with ⟨hs, rfl, _⟩ | ⟨rfl, _⟩
          · obtain ⟨hlen, vs, hvs, hcell⟩ := getCells_sound hH hm hs hl
            obtain ⟨e1, e2⟩ := allBytes_sound _ _ _ hb hvs
            have hrun := run_loadCells_list (P := P) w ⟨b, o - st, none⟩ vs (fun j v hj => by
              have := hcell j v hj
              unfold Addr.add
              split
              · rename_i h0; subst h0; simpa using this
              · exact this)
            rw [← hvs.length, hlen] at hrun
            rw [hrun, e1]
            simp
          · have : l = [] := by
              have hl' : (some [] : Option (List AV)) = some l := hl
              cases hl'; rfl
            subst this
            cases hb
            rfl
        · simp only [VR]
          refine ⟨_, rfl, ?_⟩
          rw [foldl_bytes]
          have e2 : ∀ n ∈ str, n < 256 := by
            have key : ∀ (l : List AV) (s : List Nat), allBytes l = some s → ∀ n ∈ s, n < 256 := by
              intro l
              induction l with
              | nil => intro s hh; cases hh; simp
              | cons x l ih =>
                intro s hh
                unfold allBytes at hh
                split at hh
                · rename_i heq; cases heq
                · rename_i n l' heq
                  cases heq
                  obtain ⟨hn, hh⟩ := cnd_inv hh
                  split at hh
                  · rename_i m hm
                    cases hh
                    intro k hk
                    rcases List.mem_cons.1 hk with rfl | hk
                    · exact Nat.lt_of_lt_of_le (Nat.lt_succ_self _) (Nat.le_of_ble_eq_true hn)
                    · exact ih _ hm k hk
                  · cases hh
                · cases hh
            exact key _ _ hb
          simp only [List.map_append, List.map_map]
          show [] ++ _ = _
          rw [List.nil_append]
          conv => rhs; rw [← List.map_id str]
          refine List.map_congr_left fun n hn => ?_
          have := e2 n hn
          simp [Function.comp]; omega
      · rename_i hb
        obtain ⟨hu, hev⟩ := cnd_inv hev
        cases hev
        simp only [VR] at hx
        obtain ⟨b, st, n, y, c, hm, hx, _, _, _, hpl⟩ := hx
        rcases hpl with ⟨hs, rfl, _⟩ | ⟨rfl, _⟩
        · obtain ⟨hlen, vs, hvs, hcell⟩ := getCells_sound hH hm hs hl
          obtain ⟨str, e1, e2⟩ := allU8_sound _ _ hu hvs
          refine ⟨.string ((str.map fun n : Nat => (n : Int)).foldl (fun r n => r.push (UInt8.ofNat n.toNat)) ByteArray.empty), run_val (s := convert s t (ρ x)) ?_, ?_⟩
          · rw [hx, run_convert_bytes_string w s t e _ _ _ (hE.und h1) (hE.und he) (hE.und h2)]
            refine run_bytesToString w _ _ _ _ ?_
            have hrun := run_loadCells_list (P := P) w ⟨b, o - st, none⟩ vs (fun j v hj => by
              have := hcell j v hj
              unfold Addr.add
              split
              · rename_i h0; subst h0; simpa using this
              · exact this)
            rw [← hvs.length, hlen] at hrun
            rw [hrun, e1]
            simp
          · simp only [VR]
            refine ⟨_, rfl, ?_⟩
            rw [foldl_bytes]
            show VRs μ l (List.map _ ([] ++ _))
            rw [List.nil_append, List.map_map, List.map_congr_left (g := fun n : Nat => Value.int .u8 (n : Int))]
            · rw [e1] at hvs; exact hvs
            · intro n hn
              have := e2 n hn
              simp; omega
        · have hl' : (some [] : Option (List AV)) = some l := hl
          cases hl'
          cases hb
    · cases hev
  · cases hev

theorem lastN_eq : ∀ (l : List Nat), lastN l = l.getLast?
  | [] => rfl
  | [a] => rfl
  | a :: b :: l => by
    show lastN (b :: l) = _
    rw [lastN_eq (b :: l)]; simp
theorem findB_sound {b : Nat} : ∀ (es : List En) (xs : List MapEntry) (e : En), EnsR μ es xs → findB b es = some e → ∃ x, xs.find? (·.born == b) = some x ∧ EnR μ e x
  | [], xs, e, _, hf => by cases hf
  | y :: es, xs, e, hes, hf => by
    simp only [EnsR] at hes
    obtain ⟨x, r, rfl, h1, h2⟩ := hes
    unfold findB at hf
    rw [cnd_eq] at hf
    split at hf
    · rename_i hb
      cases hf
      have := Nat.eq_of_beq_eq_true hb
      refine ⟨x, ?_, h1⟩
      rw [List.find?_cons_of_pos]; simp [← h1.2.2, this]
    · rename_i hb
      obtain ⟨x', g1, g2⟩ := findB_sound es r e h2 hf
      refine ⟨x', ?_, g2⟩
      rw [List.find?_cons_of_neg]; exact g1
      simp [← h1.2.2]; intro hh; rw [hh] at hb; simp at hb

include hH hq in
theorem p_entry {x : Operand} (hev : xEntry (q x) h L = some a) : Gives P ρ w μ ⟨d, .entry x, ty, pos, af, gd⟩ a := by
  obtain ⟨f, g, o, hp, hev⟩ := asPtr_some hev
  obtain ⟨ho, hev⟩ := cnd_inv hev
  have ho := Nat.eq_of_beq_eq_true ho
  subst ho
  obtain ⟨b, s, n, hm, hs, hx⟩ := q_ptr hq hp
  split at hev
  · rename_i m since seen stepped hob
    obtain ⟨es, clock, hmo, hev⟩ := asMapO_some hev
    obtain ⟨hcl, hev⟩ := cnd_inv hev
    have hcl := Nat.eq_of_beq_eq_true hcl
    obtain ⟨bn, hbn, hev⟩ := opt_inv hev
    obtain ⟨e, he, hev⟩ := opt_inv hev
    cases hev
    have hO := hH.obj f
    rw [hob] at hO
    obtain ⟨hO1, hO2⟩ := hO
    have hg : g = 0 := by
      rcases Nat.eq_zero_or_pos g with h0 | h0
      · exact h0
      · rw [hO1 g h0] at hm; cases hm
    subst hg
    obtain ⟨_, hs0, m', hb, c, s2, n2, hm2, rfl⟩ := hO2 b s n hm
    subst hs0
    obtain ⟨_, es', hes', hR⟩ := hH.mapOb hmo hm2
    obtain ⟨y, hy1, hy2⟩ := findB_sound es es'.toList e hR he
    refine ⟨.tuple #[y.key, y.val], run_val (s := Instr.entry (ρ x)) ?_, by simp only [VR]; exact ⟨_, rfl, .cons hy2.1 (.cons hy2.2.1 .nil)⟩⟩
    rw [hx]
    have g1 : (getObj b).run P w = .ok (.mapIter (some c) since seen.toArray stepped) w := by
      simp only [getObj, Sem.run, hb]
    have g2 : seen.toArray.back? = some bn := by rw [List.back?_toArray, ← lastN_eq]; exact hbn
    have g3 : es'.find? (·.born == bn) = some y := by rw [← Array.find?_toList]; exact hy1
    simp only [Instr.entry, Sem.run_bind, g1, Result.andThen_ok, g2, MapKept.run_getObj_map hes', hcl, bne_self_eq_false, Bool.false_eq_true, if_false, g3, Sem.run_pure]
  · cases hev

end
end Go.Ev


namespace Go.Ev
set_option linter.unusedVariables false
set_option linter.unusedSectionVars false
set_option linter.unusedSimpArgs false
variable [Val]

/-- the known package-level variables lie where they lie -/
def GR (E : Env) (μ : Mu) : Prop := ∀ g, inM (gl E) g = true → ∃ n, μ (Key.ofNat g) 0 = some (g, 0, n)

section
variable {E : Env} {P : Program} (hE : EnvOk E P) {B : Nat} {μ : Mu} {h : Hp} {w : World} (hH : HR B μ h w) (hG : GR E μ)
  {L : Lo} {ρ : Operand → Value} {q : Operand → Opd} (hq : ∀ x, VR μ (getO (q x) L) (ρ x))
variable {d : Option Tmp} {ty : TypeId} {pos : String} {af : Array Edge} {gd : Option (Nat × Bool)} {a : AV}

include hE hH hq in
theorem pure_bin {op : BinOp} {t yt : TypeId} {x y : Operand} (hev : (binI q E op t x y).ev E h L = some a) : Gives P ρ w μ ⟨d, .binOp op t x y yt, ty, pos, af, gd⟩ a := by
  unfold binI at hev
  split at hev
  · cases hb : isIntOrStr E t with
    | true => rw [hb] at hev; exact p_ibin (h := h) hq hev
    | false => rw [hb] at hev; exact p_eqv (h := h) hE hH hq (neg := false) hb hev
  · cases hb : isIntOrStr E t with
    | true => rw [hb] at hev; exact p_ibin (h := h) hq hev
    | false => rw [hb] at hev; exact p_eqv (h := h) hE hH hq (neg := true) hb hev
  · exact p_ibin (h := h) hq hev

include hE hH hq in
theorem pure_conv {s t : TypeId} {x : Operand} (hev : (convP q E s t x).ev E h L = some a) : Gives P ρ w μ ⟨d, .convert s t x, ty, pos, af, gd⟩ a := by
  unfold convP at hev
  split at hev
  · rename_i ds k h1 h2
    exact p_convI (h := h) hE hq h1 h2 hev
  · rename_i e h1 h2
    cases hb : isU8 E e with
    | true => rw [hb] at hev; exact p_b2s (h := h) hE hH hq h1 hb h2 hev
    | false => rw [hb] at hev; cases hev
  · rename_i ds hn h1 h2
    exact p_convS (h := h) hE hq h1 (fun e he => hn e he) h2 hev
  · cases hev

include hE hH hq in
theorem pure_slice {t : TypeId} {x : Operand} {lo hi mx : Option Operand} (hev : (sliceP q E t x lo hi mx).ev E h L = some a) : Gives P ρ w μ ⟨d, .slice t x lo hi mx, ty, pos, af, gd⟩ a := by
  have nn : (hi.isNone && mx.isSome) = false → ¬ (hi = none ∧ mx.isSome = true) := by
    rintro h1 ⟨rfl, h2⟩; rw [h2] at h1; cases h1
  unfold sliceP at hev
  split at hev
  · rename_i hu
    split at hev
    · exact p_sliceStr (h := h) hE hq hu hev
    · cases hev
  · rename_i el hu
    cases hb : hi.isNone && mx.isSome with
    | true => rw [hb] at hev; cases hev
    | false =>
      rw [hb] at hev
      simp only [cond_false] at hev
      split at hev
      · rename_i n hn; exact p_sliceSl (h := h) hE hq hu hn (nn hb) hev
      · cases hev
  · rename_i n el hu
    cases hb : hi.isNone && mx.isSome with
    | true => rw [hb] at hev; cases hev
    | false =>
      rw [hb] at hev
      simp only [cond_false] at hev
      split at hev
      · rename_i sz hn; exact p_sliceArr (h := h) hE hH hq (.inl hu) hn (nn hb) hev
      · cases hev
  · rename_i arr hu
    split at hev
    · rename_i n el hu2
      cases hb : hi.isNone && mx.isSome with
      | true => rw [hb] at hev; cases hev
      | false =>
        rw [hb] at hev
        simp only [cond_false] at hev
        split at hev
        · rename_i sz hn; exact p_sliceArr (h := h) hE hH hq (.inr ⟨arr, hu, hu2⟩) hn (nn hb) hev
        · cases hev
    · cases hev
  · cases hev

include hE hH hq in
theorem pure_call {c : Call} (hev : (callP q E c).ev E h L = some a) : Gives P ρ w μ ⟨d, .call c, ty, pos, af, gd⟩ a := by
  obtain ⟨callee, args, ats⟩ := c
  unfold callP at hev
  simp only at hev
  split at hev
  · rename_i t ts x xs h2 h3
    unfold lenP at hev
    split at hev
    · rename_i hu; exact p_lenStr (h := h) hE hq h3 h2 hu hev
    · rename_i n el hu; exact p_lenArr (h := h) (L := L) hE h3 h2 hu hev
    · rename_i el hu; exact p_lenSl (h := h) hE hq h3 h2 hu hev
    · rename_i kt el hu; exact p_lenMap (h := h) hE hH hq h3 h2 hu hev
    · rename_i arr hu
      split at hev
      · rename_i n el hu2; exact p_lenPArr (h := h) (L := L) hE h3 h2 hu hu2 hev
      · cases hev
    · cases hev
  · rename_i t ts x xs h2 h3
    split at hev
    · rename_i el hu; exact p_capSl (h := h) hE hq h3 h2 hu hev
    · cases hev
  · rename_i x xs h3
    exact p_minmax (h := h) hq (mx := false) h3 hev
  · rename_i x xs h3
    exact p_minmax (h := h) hq (mx := true) h3 hev
  · cases hev

include hE hH hG hq in
/-- WHAT A QUIET INSTRUCTION COMES TO IS WHAT ITS OPERATION COMES TO -/
theorem pure_sound {op : Op} (hev : (pureI q E op).ev E h L = some a) : Gives P ρ w μ ⟨d, op, ty, pos, af, gd⟩ a := by
  unfold pureI at hev
  split at hev
  · exact p_move (h := h) hq hev
  · exact p_pick (h := h) hq hev
  · split at hev
    · rename_i n ag hs
      cases ag with
      | true => exact p_loadN (h := h) hE hH hq hs hev
      | false => exact p_load1 (h := h) hE hH hq hs hev
    · cases hev
  · exact pure_bin hE hH hq hev
  · exact p_un (h := h) hq hev
  · exact pure_conv hE hH hq hev
  · split at hev
    · cases hev
    · rename_i ds hn hu; exact p_iface (h := h) hE hq hu (fun ms hm => by subst hm; exact hn _ rfl) hev
    · cases hev
  · exact p_func (h := h) hq hev
  · exact pure_slice hE hH hq hev
  · split at hev
    · rename_i fs hf
      split at hev
      · rename_i off n hp; exact p_addOff (h := h) hE hq hf hp hev
      · cases hev
    · cases hev
  · split at hev
    · rename_i fs hf
      split at hev
      · rename_i f hfi
        split at hev
        · rename_i n ag hs; exact p_field (h := h) hE hq hf hfi hs hev
        · cases hev
      · cases hev
    · cases hev
  · split at hev
    · rename_i el hu
      split at hev
      · rename_i n hn; exact p_idxSl (h := h) hE hq hu hn hev
      · cases hev
    · rename_i n el hu
      split at hev
      · rename_i sz hn; exact p_idxArr (h := h) hE hq hu hn hev
      · cases hev
    · cases hev
  · split at hev
    · rename_i hu; exact p_idxStr (h := h) hE hq hu hev
    · rename_i n el hu
      split at hev
      · rename_i sz ag hs; exact p_idxAgg (h := h) hE hq hu hs hev
      · cases hev
    · cases hev
  · unfold lookupP at hev
    split at hev
    · rename_i kt el hu
      split at hev
      · rename_i z hz
        cases hk : keyTy (tyOf E 8 kt) with
        | true => rw [hk] at hev; exact p_lookup (h := h) hE hH hq hu hz hk hev
        | false => rw [hk] at hev; cases hev
      · cases hev
    · cases hev
  · unfold assertP at hev
    split at hev
    · rename_i want z hu hz; exact p_assertI (h := h) hE hq hu hz hev
    · rename_i ds z hn hu hz; exact p_assertC (h := h) hE hq hu (fun ms hm => hn ms hm) hz hev
    · cases hev
  · exact p_extract (h := h) hq hev
  · exact p_build (h := h) hE hq hev
  · exact p_nilck (h := h) hq hev
  · exact p_entry (h := h) hH hq hev
  · rename_i g
    cases hb : inM (gl E) g with
    | true =>
      rw [hb] at hev
      obtain ⟨n, hn⟩ := hG g hb
      exact p_waits (h := h) (L := L) (b := 0) hH hev hn
    | false => rw [hb] at hev; cases hev
  · exact pure_call hE hH hq hev
  · cases hev

end
end Go.Ev


namespace Go.Ev
set_option linter.unusedVariables false
set_option linter.unusedSectionVars false
set_option linter.unusedSimpArgs false
variable [Val]

/-! ## a new place for a family's generation -/
noncomputable def Mu.ins (μ : Mu) (f : Key) (g : Nat) (x : Nat × Nat × Nat) : Mu := fun f' g' => if Key.beq f f' && Nat.beq g g' then some x else μ f' g'
theorem Mu.ins_same (μ : Mu) (f : Key) (g : Nat) (x : Nat × Nat × Nat) : μ.ins f g x f g = some x := by
  simp [Mu.ins, Key.beq_refl]
theorem Mu.ins_other (μ : Mu) {f f' : Key} {g g' : Nat} (h : f ≠ f' ∨ g ≠ g') (x : Nat × Nat × Nat) : μ.ins f g x f' g' = μ f' g' := by
  unfold Mu.ins
  split
  · rename_i hh
    simp only [Bool.and_eq_true] at hh
    rcases h with h | h
    · exact absurd (Key.beq_eq hh.1) h
    · exact absurd (Nat.eq_of_beq_eq_true hh.2) h
  · rfl
theorem Mu.ins_le {μ : Mu} {f : Key} {g : Nat} (h : μ f g = none) (x : Nat × Nat × Nat) : μ.le (μ.ins f g x) := by
  intro f' g' y hy
  rw [Mu.ins_other]
  · exact hy
  · by_cases hf : f = f'
    · subst hf
      right; rintro rfl; rw [h] at hy; cases hy
    · exact .inl hf
theorem Mu.ins_inv {μ : Mu} {f f' : Key} {g g' : Nat} {x y : Nat × Nat × Nat} (h : μ.ins f g x f' g' = some y) : (f' = f ∧ g' = g ∧ y = x) ∨ μ f' g' = some y := by
  by_cases hh : f = f' ∧ g = g'
  · obtain ⟨rfl, rfl⟩ := hh
    rw [Mu.ins_same] at h
    cases h
    exact .inl ⟨rfl, rfl, rfl⟩
  · right
    rw [Mu.ins_other _ (by by_cases hf : f = f'; (right; intro hg; exact hh ⟨hf, hg⟩); exact .inl hf)] at h
    exact h

theorem EnR.mono {μ ν : Mu} (h : μ.le ν) {e : En} {x : MapEntry} (k : EnR μ e x) : EnR ν e x := ⟨VR.mono h _ _ k.1, VR.mono h _ _ k.2.1, k.2.2⟩
theorem EnsR.mono {μ ν : Mu} (h : μ.le ν) : ∀ {es : List En} {xs : List MapEntry}, EnsR μ es xs → EnsR ν es xs
  | [], _, k => by simpa only [EnsR] using k
  | e :: es, _, k => by
    simp only [EnsR] at k ⊢
    obtain ⟨x, r, rfl, h1, h2⟩ := k
    exact ⟨x, r, rfl, h1.mono h, EnsR.mono h h2⟩
theorem RowR.mono {μ ν : Mu} (h : μ.le ν) {cs : Array Value} {s sz r : Nat} {l : List AV} (k : RowR μ cs s sz r l) : RowR ν cs s sz r l :=
  ⟨k.1, k.2.1, fun j a hj => let ⟨v, h1, h2⟩ := k.2.2 j a hj; ⟨v, h1, VR.mono h _ _ h2⟩⟩
theorem TmR.mono {μ ν : Mu} (h : μ.le ν) {t : Tm} {tmps : Array Value} (k : TmR μ t tmps) : TmR ν t tmps := fun a b c => VR.mono h _ _ (k a b c)
theorem DfR.mono {μ ν : Mu} (h : μ.le ν) : ∀ {d : Df} {x : Deferred}, DfR μ d x → DfR ν d x
  | .fn f cap args, x, k => by
    simp only [DfR] at k ⊢
    obtain ⟨F, cs, vs, e, h1, h2, h3⟩ := k
    exact ⟨F, cs, vs, e, h1.mono h, VRs.mono h _ _ h2, VRs.mono h _ _ h3⟩
  | .bi b args, x, k => by simp only [DfR] at k
  | .del t m key, x, k => by
    simp only [DfR] at k ⊢
    obtain ⟨ats, ty, cn, xs, v, w, e, a0, a1, h1, h2, h3⟩ := k
    exact ⟨ats, ty, cn, xs, v, w, e, a0, a1, h1, VR.mono h _ _ h2, VR.mono h _ _ h3⟩
  | .collected r, x, k => by
    simp only [DfR] at k ⊢
    obtain ⟨b, s, n, h1, e⟩ := k
    exact ⟨b, s, n, h _ _ _ h1, e⟩
theorem DfsR.mono {μ ν : Mu} (h : μ.le ν) : ∀ {ds : List Df} {xs : List Deferred}, DfsR μ ds xs → DfsR ν ds xs
  | [], _, k => by simpa only [DfsR] using k
  | d :: ds, _, k => by
    simp only [DfsR] at k ⊢
    obtain ⟨x, r, rfl, h1, h2⟩ := k
    exact ⟨x, r, rfl, h1.mono h, DfsR.mono h h2⟩

/-- a family that was left alone -/
theorem OR.mono {B : Nat} {μ ν : Mu} {w w' : World} (h : μ.le ν) {f : Key} (hs : ∀ g, ν f g = μ f g) (hb : ∀ g b s n, μ f g = some (b, s, n) → w'.heap[b]? = w.heap[b]?) :
    ∀ {o : Ob}, OR B μ w f o → OR B ν w' f o
  | .none, k => by simp only [OR] at k ⊢; intro g; rw [hs]; exact k g
  | .cells ro gen sz dp ext c, k => by
    simp only [OR] at k ⊢
    obtain ⟨k1, k2, k3⟩ := k
    refine ⟨k1, ⟨fun g hg => by rw [hs]; exact k2.1 g hg, k2.2⟩, fun g b s n hm => ?_⟩
    rw [hs] at hm
    obtain ⟨a1, a2, cs, e, fz, a3, a4, a5, a6⟩ := k3 g b s n hm
    exact ⟨a1, a2, cs, e, fz, by rw [hb _ _ _ _ hm]; exact a3, a4, a5, fun r l gw h1 h2 h3 => (a6 r l gw h1 h2 h3).mono h⟩
  | .map es clock, k => by
    simp only [OR] at k ⊢
    obtain ⟨k2, k3⟩ := k
    refine ⟨fun g hg => by rw [hs]; exact k2 g hg, fun b s n hm => ?_⟩
    rw [hs] at hm
    obtain ⟨a1, es', a2, a3⟩ := k3 b s n hm
    exact ⟨a1, es', by rw [hb _ _ _ _ hm]; exact a2, a3.mono h⟩
  | .strIter x pos, k => by
    simp only [OR] at k ⊢
    obtain ⟨k2, k3⟩ := k
    refine ⟨fun g hg => by rw [hs]; exact k2 g hg, fun b s n hm => ?_⟩
    rw [hs] at hm
    obtain ⟨a1, a2, y, a3, a4⟩ := k3 b s n hm
    exact ⟨a1, a2, y, by rw [hb _ _ _ _ hm]; exact a3, a4⟩
  | .mapIter m since seen st, k => by
    simp only [OR] at k ⊢
    obtain ⟨k2, k3⟩ := k
    refine ⟨fun g hg => by rw [hs]; exact k2 g hg, fun b s n hm => ?_⟩
    rw [hs] at hm
    obtain ⟨a1, a2, m', a3, a4⟩ := k3 b s n hm
    refine ⟨a1, a2, m', by rw [hb _ _ _ _ hm]; exact a3, ?_⟩
    cases m with
    | none => exact a4
    | some q => obtain ⟨c, s2, n2, a5, a6⟩ := a4; exact ⟨c, s2, n2, h _ _ _ a5, a6⟩
  | .loop st pend fn tm ps a b df x, k => by
    simp only [OR] at k ⊢
    obtain ⟨k2, k3⟩ := k
    refine ⟨fun g hg => by rw [hs]; exact k2 g hg, fun c s n hm => ?_⟩
    rw [hs] at hm
    obtain ⟨a1, tmps, dfb, s', n', a2, a3, a4⟩ := k3 c s n hm
    exact ⟨a1, tmps, dfb, s', n', by rw [hb _ _ _ _ hm]; exact a2, ⟨a3.1.mono h, a3.2⟩, h _ _ _ a4⟩
  | .deferred ds, k => by
    simp only [OR] at k ⊢
    obtain ⟨k2, k3⟩ := k
    refine ⟨fun g hg => by rw [hs]; exact k2 g hg, fun b s n hm => ?_⟩
    rw [hs] at hm
    obtain ⟨a1, ds', a2, a3⟩ := k3 b s n hm
    refine ⟨a1, ds', by rw [hb _ _ _ _ hm]; exact a2, ?_⟩
    cases ds with
    | none => exact a3
    | some l => obtain ⟨l', a4, a5⟩ := a3; exact ⟨l', a4, a5.mono h⟩
  | .iv lo hi, k => by
    simp only [OR] at k ⊢
    exact ⟨fun g => by rw [hs]; exact k.1 g, k.2⟩
  | .mapu es, k => by
    simp only [OR] at k ⊢
    obtain ⟨k2, k3⟩ := k
    refine ⟨fun g hg => by rw [hs]; exact k2 g hg, fun b s n hm => ?_⟩
    rw [hs] at hm
    obtain ⟨a1, es', clock, es0, a2, a3, a4⟩ := k3 b s n hm
    exact ⟨a1, es', clock, es0, by rw [hb _ _ _ _ hm]; exact a2, a3.mono h, a4⟩

/-- what a step of the world leaves of what was there -/
structure Ext (B : Nat) (w w' : World) : Prop where
  os : w'.os = w.os
  tape : w'.tape = w.tape
  output : w'.output = w.output
  size : w.heap.size ≤ w'.heap.size
  block : ∀ k, k < B → w'.heap[k]? = w.heap[k]?
theorem Ext.refl (B : Nat) (w : World) : Ext B w w := ⟨rfl, rfl, rfl, Nat.le_refl _, fun _ _ => rfl⟩
theorem Ext.trans {B : Nat} {w1 w2 w3 : World} (h : Ext B w1 w2) (k : Ext B w2 w3) : Ext B w1 w3 :=
  ⟨k.os.trans h.os, k.tape.trans h.tape, k.output.trans h.output, Nat.le_trans h.size k.size, fun b hb => (k.block b hb).trans (h.block b hb)⟩

/-- objects stay, and families that lie nowhere yet still lie nowhere -/
def Kp (h : Hp) (μ : Mu) (h' : Hp) (ν : Mu) : Prop := ∀ f, (hget f h).isNone = false → (hget f h').isNone = false ∧ ((∀ g, μ f g = none) → ∀ g, ν f g = none)
theorem Kp.refl (h : Hp) (μ : Mu) : Kp h μ h μ := fun _ hf => ⟨hf, fun k => k⟩
theorem Kp.trans {h1 h2 h3 : Hp} {a b c : Mu} (k : Kp h1 a h2 b) (l : Kp h2 b h3 c) : Kp h1 a h3 c := fun f hf =>
  let ⟨k1, k2⟩ := k f hf
  let ⟨l1, l2⟩ := l f k1
  ⟨l1, fun hn => l2 (k2 hn)⟩
theorem Kp.set {h : Hp} {μ : Mu} {f : Key} {ob : Ob} (hob : ob.isNone = false) : Kp h μ (hset f ob h) μ := fun f1 hf => by
  by_cases hff : f = f1
  · subst hff; rw [hget_hset]; exact ⟨hob, fun k => k⟩
  · rw [hget_hset_ne hff]; exact ⟨hf, fun k => k⟩
theorem Kp.setIns {h : Hp} {μ : Mu} {f : Key} {ob : Ob} {g g' : Nat} {x y : Nat × Nat × Nat} (hob : ob.isNone = false) (hm : μ f g = some x) : Kp h μ (hset f ob h) (μ.ins f g' y) := fun f1 hf => by
  by_cases hff : f = f1
  · subst hff; rw [hget_hset]; exact ⟨hob, fun k => by rw [k g] at hm; cases hm⟩
  · rw [hget_hset_ne hff]; exact ⟨hf, fun k g1 => by rw [Mu.ins_other _ (.inl hff)]; exact k g1⟩
theorem Kp.new {h : Hp} {μ : Mu} {f : Key} {ob : Ob} {g : Nat} {y : Nat × Nat × Nat} (hn : (hget f h).isNone = true) : Kp h μ (hset f ob h) (μ.ins f g y) := fun f1 hf => by
  have hff : f ≠ f1 := fun hh => by subst hh; rw [hn] at hf; cases hf
  rw [hget_hset_ne hff]; exact ⟨hf, fun k g1 => by rw [Mu.ins_other _ (.inl hff)]; exact k g1⟩

section
variable {B : Nat} {μ : Mu} {h : Hp} {w w' : World}

/-- a new object -/
theorem HR.alloc (hH : HR B μ h w) {f : Key} (hf : (hget f h).isNone = true) {ob : Ob} {o : Obj} {gen n : Nat} (hw : w'.heap = w.heap.push o)
    (hob : OR B (μ.ins f gen (w.heap.size, 0, n)) w' f ob) : HR B (μ.ins f gen (w.heap.size, 0, n)) (hset f ob h) w' ∧ μ.le (μ.ins f gen (w.heap.size, 0, n)) := by
  have hn : hget f h = .none := by cases hh : hget f h <;> rw [hh] at hf <;> first | rfl | cases hf
  have hno : ∀ g, μ f g = none := by have := hH.obj f; rw [hn] at this; exact this
  have hle := Mu.ins_le (hno gen) (w.heap.size, 0, n)
  refine ⟨⟨?_, ?_, ?_, ?_⟩, hle⟩
  · intro f1 g1 b s m f2 g2 s2 m2 h1 h2
    rcases Mu.ins_inv h1 with ⟨i1, _, e1⟩ | k1 <;> rcases Mu.ins_inv h2 with ⟨i2, _, e2⟩ | k2
    · cases e1; cases e2; exact ⟨i1.trans i2.symm, rfl, rfl⟩
    · cases e1; exact absurd (hH.lt _ _ _ _ _ k2) (Nat.lt_irrefl _)
    · cases e2; exact absurd (hH.lt _ _ _ _ _ k1) (Nat.lt_irrefl _)
    · exact hH.inj _ _ _ _ _ _ _ _ _ k1 k2
  · intro f1 g1 b s m h1
    rw [hw, Array.size_push]
    rcases Mu.ins_inv h1 with ⟨rfl, rfl, e1⟩ | h1
    · cases e1; omega
    · have := hH.lt _ _ _ _ _ h1; omega
  · intro f1
    by_cases hff : f = f1
    · subst hff; rw [hget_hset]; exact hob
    · rw [hget_hset_ne hff]
      refine OR.mono hle (fun g => Mu.ins_other _ (.inl hff) _) (fun g b s m hm => ?_) (hH.obj f1)
      rw [hw, Array.getElem?_push]
      have := hH.lt _ _ _ _ _ hm
      rw [if_neg (by omega)]
  · intro f1 g1 g2 b s m s2 m2 h1 h2 hg
    rcases Mu.ins_inv h1 with ⟨_, i1, e1⟩ | k1 <;> rcases Mu.ins_inv h2 with ⟨_, i2, e2⟩ | k2
    · omega
    · cases e1; exact absurd (hH.lt _ _ _ _ _ k2) (Nat.lt_irrefl _)
    · cases e2; exact absurd (hH.lt _ _ _ _ _ k1) (Nat.lt_irrefl _)
    · exact hH.side _ _ _ _ _ _ _ _ k1 k2 hg

/-- one family's block is written -/
theorem HR.write (hH : HR B μ h w) {f : Key} {gen sz dp ext dp' ext' : Nat} {c c' : Tr Row} (ho : hget f h = .cells false gen sz dp ext c) {b s n : Nat} (hm : μ f gen = some (b, s, n))
    {cs cs' : Array Value} {e : TypeId} {fz : Nat × Nat} (hheap : w.heap[b]? = some (.cells cs e fz)) (hsz : cs'.size = cs.size) (hw : w'.heap = w.heap.setIfInBounds b (.cells cs' e fz))
    (hwf : Tr.Wf dp' c') (hext : ∀ r, ext' ≤ r → c'.get r = none)
    (hrows : ∀ r l gw, c'.get r = some (.mk l gw) → (c.get r = some (.mk l gw) ∧ (s ≤ r * sz → ∀ j, j < sz → cs'[r * sz + j - s]? = cs[r * sz + j - s]?)) ∨ (gw = gen ∧ (s ≤ r * sz → RowR μ cs' s sz r l))) :
    HR B μ (hset f (.cells false gen sz dp' ext' c') h) w' := by
  obtain ⟨_, hgen, hblk⟩ := hH.cells ho
  have hbl := hH.lt _ _ _ _ _ hm
  refine ⟨hH.inj, ?_, ?_, hH.side⟩
  · intro f1 g1 b1 s1 m1 h1
    rw [hw, Array.size_setIfInBounds]; exact hH.lt _ _ _ _ _ h1
  · intro f1
    by_cases hff : f = f1
    · subst hff
      rw [hget_hset]
      refine ⟨⟨hwf, hext⟩, ⟨hgen.1, fun r l gw hr => by rcases hrows r l gw hr with ⟨h1, _⟩ | ⟨h1, _⟩; (exact hgen.2 r l gw h1); exact Nat.le_of_eq h1⟩, ?_⟩
      intro g b1 s1 n1 hm1
      obtain ⟨a1, a2, cs1, e1, fz1, a3, a4, a5, a6⟩ := hblk g b1 s1 n1 hm1
      have hg : g ≤ gen := Nat.le_of_not_lt fun hlt => by rw [hgen.1 g hlt] at hm1; cases hm1
      by_cases hb : b1 = b
      · subst hb
        obtain ⟨_, rfl, rfl⟩ := hH.inj _ _ _ _ _ _ _ _ _ hm hm1
        rw [hheap] at a3
        simp only [Option.some.injEq, Obj.cells.injEq] at a3
        obtain ⟨rfl, rfl, rfl⟩ := a3
        refine ⟨a1, a2, cs', e, fz, ?_, ?_, by rw [hsz]; exact a5, ?_⟩
        · rw [hw, Array.getElem?_setIfInBounds_self]; simp [hbl]
        · rcases a4 with h0 | ⟨h0, h1⟩
          · exact .inl h0
          · exact .inr ⟨h0, by rw [hsz]; exact h1⟩
        · intro r l gw g1 g2 g3
          rcases hrows r l gw g1 with ⟨h1, h2⟩ | ⟨h1, h2⟩
          · obtain ⟨k1, k2, k3⟩ := a6 r l gw h1 g2 g3
            refine ⟨k1, k2, fun j a hj => ?_⟩
            have hjl : j < sz := by
              have := (List.getElem?_eq_some_iff.1 hj).1
              omega
            rw [h2 g3 j hjl]
            exact k3 j a hj
          · exact h2 g3
      · refine ⟨a1, a2, cs1, e1, fz1, ?_, a4, a5, ?_⟩
        · rw [hw, Array.getElem?_setIfInBounds_ne (Ne.symm hb)]; exact a3
        · intro r l gw g1 g2 g3
          rcases hrows r l gw g1 with ⟨h1, _⟩ | ⟨h1, h2⟩
          · exact a6 r l gw h1 g2 g3
          · have : g = gen := by omega
            subst this
            rw [hm] at hm1
            simp only [Option.some.injEq, Prod.mk.injEq] at hm1
            exact absurd hm1.1.symm hb
    · rw [hget_hset_ne hff]
      refine OR.mono (Mu.le_refl μ) (fun _ => rfl) (fun g b1 s1 m1 hm1 => ?_) (hH.obj f1)
      have hne : b ≠ b1 := fun hb => by subst hb; exact hff (hH.inj _ _ _ _ _ _ _ _ _ hm hm1).1
      rw [hw, Array.getElem?_setIfInBounds_ne hne]

/-- one object of another kind is turned -/
theorem HR.turn (hH : HR B μ h w) {f : Key} {b s n : Nat} (hm : μ f 0 = some (b, s, n)) {ob : Ob} {o : Obj} (hw : w'.heap = w.heap.setIfInBounds b o)
    (hob : OR B μ w' f ob) : HR B μ (hset f ob h) w' := by
  refine ⟨hH.inj, ?_, ?_, hH.side⟩
  · intro f1 g1 b1 s1 m1 h1
    rw [hw, Array.size_setIfInBounds]; exact hH.lt _ _ _ _ _ h1
  · intro f1
    by_cases hff : f = f1
    · subst hff; rw [hget_hset]; exact hob
    · rw [hget_hset_ne hff]
      refine OR.mono (Mu.le_refl μ) (fun _ => rfl) (fun g b1 s1 m1 hm1 => ?_) (hH.obj f1)
      have hne : b ≠ b1 := fun hb => by subst hb; exact hff (hH.inj _ _ _ _ _ _ _ _ _ hm hm1).1
      rw [hw, Array.getElem?_setIfInBounds_ne hne]

end
end Go.Ev


namespace Go.Ev
set_option linter.unusedVariables false
set_option linter.unusedSectionVars false
set_option linter.unusedSimpArgs false
variable [Val]

theorem chunks_get : ∀ (sz n : Nat) (l : List AV) (r : Nat) (l' : List AV) (gw : Nat), (chunks sz n l)[r]? = some (.mk l' gw) → r < n ∧ gw = 0 ∧ l' = (l.drop (r * sz)).take sz
  | sz, 0, l, r, l', gw, h => by simp [chunks] at h
  | sz, n + 1, l, 0, l', gw, h => by
    simp [chunks] at h
    obtain ⟨rfl, rfl⟩ := h
    simp
  | sz, n + 1, l, r + 1, l', gw, h => by
    simp only [chunks, List.getElem?_cons_succ] at h
    obtain ⟨h1, h2, h3⟩ := chunks_get sz n _ r l' gw h
    refine ⟨by omega, h2, ?_⟩
    rw [h3, List.drop_drop]
    congr 2
    rw [Nat.add_mul]; omega
theorem chunks_length : ∀ (sz n : Nat) (l : List AV), (chunks sz n l).length = n
  | _, 0, _ => rfl
  | sz, n + 1, l => by simp [chunks, chunks_length sz n]

/-- the values say what the cells are -/
def CellsR (μ : Mu) (l : List AV) (cs : Array Value) : Prop := ∀ (i : Nat) (a : AV), l[i]? = some a → ∃ v, cs[i]? = some v ∧ VR μ a v
theorem CellsR.of {μ : Mu} {l : List AV} {cs : Array Value} (h : VRs μ l cs.toList) : CellsR μ l cs := fun i a hi => by
  obtain ⟨v, h1, h2⟩ := h.get hi
  exact ⟨v, by simpa using h1, h2⟩
theorem CellsR.mono {μ ν : Mu} (h : μ.le ν) {l : List AV} {cs : Array Value} (k : CellsR μ l cs) : CellsR ν l cs := fun i a hi => let ⟨v, h1, h2⟩ := k i a hi; ⟨v, h1, VR.mono h _ _ h2⟩

theorem chunk_row {μ : Mu} {sz n r gw : Nat} {l l' : List AV} {cs : Array Value} (hl : l.length = n * sz) (hc : CellsR μ l cs) (h : (chunks sz n l)[r]? = some (.mk l' gw)) : RowR μ cs 0 sz r l' := by
  obtain ⟨h1, h2, rfl⟩ := chunks_get sz n l r l' gw h
  have h3 : (r + 1) * sz ≤ n * sz := Nat.mul_le_mul_right sz h1
  rw [Nat.add_mul, Nat.one_mul] at h3
  refine ⟨Nat.zero_le _, by simp; omega, fun j a hj => ?_⟩
  rw [List.getElem?_take, List.getElem?_drop] at hj
  split at hj
  · obtain ⟨v, e1, e2⟩ := hc _ a hj
    exact ⟨v, by simpa using e1, e2⟩
  · cases hj

section
variable {E : Env} {P : Program} (hE : EnvOk E P) {B : Nat} {μ : Mu} {h : Hp} {w : World} (hH : HR B μ h w) {nx : Key} (hnx : (hget nx h).isNone = true) (hB : B ≤ w.heap.size)
  {L : Lo} {ρ : Operand → Value} {q : Operand → Opd} (hq : ∀ x, VR μ (getO (q x) L) (ρ x))
variable {d : Option Tmp} {ty : TypeId} {pos : String} {af : Array Edge} {gd : Option (Nat × Bool)} {a : AV} {ob : Ob}

/-- an operation makes one object, that lies at nx -/
def Makes (P : Program) (ρ : Operand → Value) (B : Nat) (μ : Mu) (h : Hp) (nx : Key) (w : World) (o : Oper) (ob : Ob) (a : AV) : Prop :=
  ∃ v w' μ', (execOp ρ o).run P w = .ok (.value v) w' ∧ VR μ' a v ∧ μ.le μ' ∧ HR B μ' (hset nx ob h) w' ∧ Ext B w w' ∧ Kp h μ (hset nx ob h) μ'

include hH hnx in
theorem HR.noneAt (g : Nat) : μ nx g = none := by
  have := hH.obj nx
  have hn : hget nx h = .none := by cases hh : hget nx h <;> rw [hh] at hnx <;> first | rfl | cases hnx
  rw [hn] at this; exact this g

include hH hnx hB in
theorem makes_of {o : Oper} {v : Value} {w' : World} {no : Obj} {gen n : Nat} (hrun : (execOp ρ o).run P w = .ok (.value v) w') (hw : w'.heap = w.heap.push no)
    (h1 : w'.os = w.os) (h2 : w'.tape = w.tape) (h3 : w'.output = w.output)
    (hv : VR (μ.ins nx gen (w.heap.size, 0, n)) a v) (hob : OR B (μ.ins nx gen (w.heap.size, 0, n)) w' nx ob) : Makes P ρ B μ h nx w o ob a := by
  obtain ⟨e1, e2⟩ := hH.alloc hnx hw hob
  refine ⟨v, w', _, hrun, hv, e2, e1, ⟨h1, h2, h3, by rw [hw]; simp, fun k hk => ?_⟩, .new hnx⟩
  rw [hw, Array.getElem?_push, if_neg (by omega)]

include hH hnx hB in
theorem new_cells {w' : World} {cs : Array Value} {e : TypeId} {fz : Nat × Nat} {gen sz dp ext : Nat} {c : Tr Row} (hw : w'.heap = w.heap.push (.cells cs e fz)) (hf : FzOk gen cs fz)
    (hwf : Tr.Wf dp c) (hext : ∀ r, ext ≤ r → c.get r = none)
    (hrows : ∀ r l gw, c.get r = some (.mk l gw) → gw = 0 ∧ RowR (μ.ins nx gen (w.heap.size, 0, cs.size)) cs 0 sz r l) :
    OR B (μ.ins nx gen (w.heap.size, 0, cs.size)) w' nx (.cells false gen sz dp ext c) := by
  refine ⟨⟨hwf, hext⟩, ⟨fun g hg => ?_, fun r l gw hr => by rw [(hrows r l gw hr).1]; exact Nat.zero_le _⟩, fun g b s n hm => ?_⟩
  · rw [Mu.ins_other _ (.inr (by omega))]; exact hH.noneAt hnx g
  · rcases Mu.ins_inv hm with ⟨_, rfl, e1⟩ | k1
    · cases e1
      exact ⟨fun _ => hB, Nat.zero_mod _, cs, e, fz, by rw [hw]; simp, hf, rfl, fun r l gw g1 _ _ => (hrows r l gw g1).2⟩
    · rw [hH.noneAt hnx g] at k1; cases k1

include hH hnx hB in
theorem new_rowOf {w' : World} {cs : Array Value} {e : TypeId} {l : List AV} (hw : w'.heap = w.heap.push (.cells cs e (0, 0))) (hc : CellsR μ l cs) :
    OR B (μ.ins nx 0 (w.heap.size, 0, cs.size)) w' nx (rowOf l) := by
  refine new_cells hH hnx hB hw (.inl rfl) (.lf _) (fun r hr => ?_) (fun r l' gw hg => ?_)
  · rw [Tr.get_lf, if_neg (by omega)]
  · rw [Tr.get_lf] at hg
    split at hg
    · rename_i h0
      simp only [Option.some.injEq, Row.mk.injEq] at hg
      obtain ⟨rfl, rfl⟩ := hg
      subst h0
      refine ⟨rfl, Nat.zero_le _, rfl, fun j a hj => ?_⟩
      obtain ⟨v, e1, e2⟩ := (hc.mono (Mu.ins_le (hH.noneAt hnx 0) _)) j a hj
      exact ⟨v, by simpa using e1, e2⟩
    · cases hg
include hH hnx hB in
theorem new_rowsOfG {w' : World} {cs : Array Value} {e : TypeId} {l : List AV} {g sz n : Nat} (hw : w'.heap = w.heap.push (.cells cs e (0, 0))) (hc : CellsR μ l cs) (hl : l.length = n * sz) :
    OR B (μ.ins nx g (w.heap.size, 0, cs.size)) w' nx (rowsOfG g sz n l) := by
  refine new_cells hH hnx hB hw (.inl rfl) (Tr.ofList_wf _ _) (fun r hr => ?_) (fun r l' gw hg => ?_)
  · cases hg : (Tr.ofList (depthFor n 25 0) (chunks sz n l)).get r with
    | none => rfl
    | some x =>
      have := Tr.ofList_some _ _ _ _ hg
      have := (List.getElem?_eq_some_iff.1 this).1
      rw [chunks_length] at this; omega
  · exact ⟨(chunks_get _ _ _ _ _ _ (Tr.ofList_some _ _ _ _ hg)).2.1, chunk_row hl (hc.mono (Mu.ins_le (hH.noneAt hnx g) _)) (Tr.ofList_some _ _ _ _ hg)⟩
include hH hnx hB in
theorem new_rowsOf {w' : World} {cs : Array Value} {e : TypeId} {l : List AV} {sz n : Nat} (hw : w'.heap = w.heap.push (.cells cs e (0, 0))) (hc : CellsR μ l cs) (hl : l.length = n * sz) :
    OR B (μ.ins nx 0 (w.heap.size, 0, cs.size)) w' nx (rowsOf sz n l) := new_rowsOfG hH hnx hB hw hc hl

theorem vr_new {gen n : Nat} : VR (μ.ins nx 0 (w.heap.size, 0, n)) (.ptr nx 0 0) (.pointer (some ⟨w.heap.size, 0, none⟩)) := by
  simp only [VR]; exact ⟨_, _, _, Mu.ins_same _ _ _ _, Nat.le_refl _, rfl⟩

include hE hH hnx hB in
theorem a_alloc {t : TypeId} {z : AV} (hz : zeroA E t = some z) : Makes P ρ B μ h nx w ⟨d, .alloc t, ty, pos, af, gd⟩ (allocOb E t z) (.ptr nx 0 0) := by
  obtain ⟨zv, hzv, rfl⟩ := hE.runZero hz w
  have hrun : (execOp ρ ⟨d, .alloc t, ty, pos, af, gd⟩).run P w = .ok (.value (.pointer (some ⟨w.heap.size, 0, none⟩))) (w.alloc (.cells zv.cells t)) := by
    refine run_val (s := Instr.alloc t true (.tuple #[])) ?_
    simp [Instr.alloc, hzv, newVar, newRow]
  have hc := CellsR.of (ofV_cells (μ := μ) zv)
  refine makes_of hH hnx hB hrun rfl rfl rfl rfl (n := zv.cells.size) (gen := 0) (vr_new (gen := 0)) ?_
  have one : OR B (μ.ins nx 0 (w.heap.size, 0, zv.cells.size)) (w.alloc (.cells zv.cells t)) nx (rowOf (ofV zv).cells) := new_rowOf hH hnx hB rfl hc
  unfold allocOb
  split
  · rename_i n el hu
    split
    · rename_i k hk
      cases hb : Nat.beq (ofV zv).cells.length (n * (k + 1)) with
      | true => exact new_rowsOf hH hnx hB rfl hc (Nat.eq_of_beq_eq_true hb)
      | false => exact one
    · exact one
  · exact one

include hH hnx hB hq in
theorem a_box {sz n : Nat} {t : TypeId} {x : Operand} (hev : (AI.box sz n (q x)).ev h nx L = some (ob, a)) : Makes P ρ B μ h nx w ⟨d, .box t x, ty, pos, af, gd⟩ ob a := by
  obtain ⟨l, hev, hl⟩ := cellsK_some (hq x) (show cellsK (getO (q x) L) none (fun l => some (boxOb sz n l, AV.ptr nx 0 0)) = some (ob, a) from hev)
  simp only [Option.some.injEq, Prod.mk.injEq] at hev
  obtain ⟨rfl, rfl⟩ := hev
  have hrun : (execOp ρ ⟨d, .box t x, ty, pos, af, gd⟩).run P w = .ok (.value (.pointer (some ⟨w.heap.size, 0, none⟩))) (w.alloc (.cells (ρ x).cells t)) := by
    refine run_val (s := Instr.box t (ρ x)) ?_
    simp [Instr.box, newVar, newRow]
  refine makes_of hH hnx hB hrun rfl rfl rfl rfl (n := (ρ x).cells.size) (gen := 0) (vr_new (gen := 0)) ?_
  unfold boxOb
  cases h1 : Nat.beq sz 0 with
  | true => exact new_rowOf hH hnx hB rfl (CellsR.of hl)
  | false =>
    cases h2 : Nat.beq l.length (Nat.mul n sz) with
    | false => exact new_rowOf hH hnx hB rfl (CellsR.of hl)
    | true => exact new_rowsOf hH hnx hB rfl (CellsR.of hl) (Nat.eq_of_beq_eq_true h2)

theorem repL_length : ∀ (l : List AV) (n : Nat), (repL l n).length = n * l.length
  | l, 0 => by simp [repL]
  | l, n + 1 => by simp only [repL, List.length_append, repL_length l n, Nat.add_mul, Nat.one_mul]; omega
/-- zero cells, as the model lays them -/
theorem zeros_sound {z : List AV} {zs : Array Value} (hz : VRs μ z zs.toList) (n : Nat) (hpos : n * z.length ≠ 0) : VRs μ (repL z n) ((Array.range (n * z.length)).map (zs[· % zs.size]!)).toList := by
  have hzl : z.length = zs.size := by have := hz.length; simpa using this
  refine VRs.of_get (by simp [repL_length]) ?_
  intro i a hi
  have hil : i < n * z.length := by
    have := (List.getElem?_eq_some_iff.1 hi).1
    rw [repL_length] at this; exact this
  have key : ∀ (n i : Nat), i < n * z.length → (repL z n)[i]? = z[i % z.length]? := by
    intro n
    induction n with
    | zero => intro i hi; simp at hi
    | succ n ih =>
      intro i hi
      simp only [repL, List.getElem?_append]
      split
      · rename_i h1; rw [Nat.mod_eq_of_lt h1]
      · rename_i h1
        rw [ih (i - z.length) (by rw [Nat.add_mul] at hi; omega)]
        congr 1
        rw [← Nat.mod_eq_sub_mod (by omega)]
  rw [key n i hil] at hi
  obtain ⟨v, e1, e2⟩ := hz.get hi
  refine ⟨v, ?_, e2⟩
  have hlt : i % zs.size < zs.size := by rw [← hzl]; exact Nat.mod_lt _ (by rcases Nat.eq_zero_or_pos z.length with h0 | h0; (rw [h0] at hpos; simp at hpos); exact h0)
  rw [Array.getElem?_toList, Array.getElem?_map, Array.getElem?_range, if_pos hil]
  simp only [Option.map_some]
  rw [hzl] at e1
  rw [Array.getElem?_toList] at e1
  rw [getElem!_pos zs _ hlt]
  rw [Array.getElem?_eq_getElem hlt] at e1
  exact e1

theorem vr_newSl {gen n len cap c sz : Nat} {ex : Bool} (h1 : len ≤ cap) (h2 : cap ≤ c) (h3 : ex = true → c = cap) (h4 : c * sz ≤ n) :
    VR (μ.ins nx gen (w.heap.size, 0, n)) (.slice nx gen 0 len cap sz ex) (.slice (some ⟨w.heap.size, 0, none⟩) len c) := by
  simp only [VR]
  exact ⟨_, _, _, 0, c, Mu.ins_same _ _ _ _, rfl, h1, h2, h3, .inl ⟨Nat.le_refl _, rfl, by omega⟩⟩

omit hE hH hnx hB hq in
theorem exec_buildSlice {t : TypeId} {len : Nat} {ps : Array (Nat × Operand)} : execOp ρ ⟨d, .buildSlice t len ps, ty, pos, af, gd⟩ = (do pure (Next.value (← Instr.buildSlice t len (ps.map fun (i, x) => (i, ρ x)))) : Sem Next) := by
  simp only [execOp]
omit hE hH hnx hB hq in
theorem run_buildSlice {t el : TypeId} {n len : Nat} {parts : Array (Nat × Value)} {cs0 cs' : Array Value} (hu : (underlying t).run P w = .ok (.slice el) w) (hn : (sizeOf el).run P w = .ok n w) (h2 : len * n ≤ 16777216)
    (hr0 : (if len * n = 0 then pure #[] else do pure (← zeroValue el).cells : Sem (Array Value)).run P w = .ok cs0 w)
    (e1 : Instr.fill (fun i => some (i * n, n)) ((Array.range (len * n)).map (cs0[· % cs0.size]!)) parts.toList = some cs') :
    (Instr.buildSlice t len parts).run P w = .ok (.slice (some ⟨w.heap.size, 0, none⟩) len len) (w.alloc (.cells cs' el)) := by
  have hle : ¬ len * n > 2 ^ 24 := by
    have : (2 : Nat) ^ 24 = 16777216 := rfl
    omega
  unfold Instr.buildSlice
  simp only [Sem.run_bind, hu, hn, Result.andThen_ok, hle, if_false, Sem.run_pure]
  by_cases h0 : len * n = 0
  · simp only [h0, if_true] at hr0 ⊢
    simp only [Sem.run_pure, Result.ok.injEq, and_true] at hr0
    subst hr0
    rw [h0] at e1
    simp only [Sem.run_bind, Sem.run_pure, Result.andThen_ok, e1, newRow, run_newObj_alloc]
  · simp only [h0, if_false] at hr0 ⊢
    simp only [Sem.run_bind] at hr0
    simp only [Sem.run_bind]
    cases hz : (zeroValue el).run P w with
    | halt _ _ => rw [hz] at hr0; cases hr0
    | ok z w1 =>
      rw [hz] at hr0
      simp only [Result.andThen_ok, Sem.run_pure, Result.ok.injEq] at hr0
      obtain ⟨rfl, rfl⟩ := hr0
      simp only [Sem.run_bind, Sem.run_pure, Result.andThen_ok, e1, newRow, run_newObj_alloc]

include hE hH hnx hB hq in
theorem a_bslice {t el : TypeId} {n len : Nat} {ps : Array (Nat × Operand)} {l : List (Nat × Nat × Opd)} {z : AV} (hu : E.und t = some (.slice el)) (hn : E.size el = some n) (hz : zeroA E el = some z)
    (h1 : Nat.beq z.cells.length n = true) (h2 : Nat.ble (len * n) 16777216 = true) (hl : partsP q (fun i => some (i * n, n)) ps.toList = some l)
    {g : Nat} (hev : (AI.bslice g n len z.cells l).ev h nx L = some (ob, a)) : Makes P ρ B μ h nx w ⟨d, .buildSlice t len ps, ty, pos, af, gd⟩ ob a := by
  have h1 := Nat.eq_of_beq_eq_true h1
  have h2 : len * n ≤ 16777216 := Nat.le_of_ble_eq_true h2
  obtain ⟨zv, hzv, rfl⟩ := hE.runZero hz w
  have hzc := ofV_cells (μ := μ) zv
  have hzs : zv.cells.size = n := by have := hzc.length; simp at this; omega
  have hev' : (match fillF L (repL (ofV zv).cells len) l with | some r => some (rowsOfG g n len r, AV.slice nx g 0 len len n true) | none => none) = some (ob, a) := hev
  split at hev'
  · rename_i r hf
    simp only [Option.some.injEq, Prod.mk.injEq] at hev'
    obtain ⟨rfl, rfl⟩ := hev'
    have hcells : ∃ cs0 : Array Value, ((if len * n = 0 then pure #[] else do pure (← zeroValue el).cells : Sem (Array Value)).run P w = .ok cs0 w) ∧
        VRs μ (repL (ofV zv).cells len) ((Array.range (len * n)).map (cs0[· % cs0.size]!)).toList := by
      by_cases h0 : len * n = 0
      · refine ⟨#[], by simp [h0], ?_⟩
        have : repL (ofV zv).cells len = [] := List.length_eq_zero_iff.1 (by rw [repL_length, h1]; exact h0)
        rw [this, h0]; simpa using VRs.nil
      · refine ⟨zv.cells, by simp [h0, hzv], ?_⟩
        have := zeros_sound hzc len (by rw [h1]; exact h0)
        rw [h1] at this; exact this
    obtain ⟨cs0, hr0, hv0⟩ := hcells
    obtain ⟨cs', e1, e2⟩ := fill_sound hq ps.toList l _ r _ hl hf hv0
    have hlen : r.length = len * n := by
      have key : ∀ (ps : List (Nat × Nat × Opd)) (c r : List AV), fillF L c ps = some r → r.length = c.length := by
        intro ps
        induction ps with
        | nil => intro c r hh; cases hh; rfl
        | cons p ps ih =>
          intro c r hh
          obtain ⟨off, size, o⟩ := p
          unfold fillF at hh
          have : ∀ l, cnd (Nat.beq l.length size) (cnd (Nat.ble (Nat.add off size) c.length) (fillF L (putAt c off l) ps) none) none = some r → r.length = c.length := by
            intro l hh
            obtain ⟨g1, hh⟩ := cnd_inv hh
            obtain ⟨g2, hh⟩ := cnd_inv hh
            have g1 := Nat.eq_of_beq_eq_true g1
            have g2 : off + size ≤ c.length := Nat.le_of_ble_eq_true g2
            rw [ih _ _ hh]
            simp only [putAt, List.length_append, List.length_take, List.length_drop]; omega
          unfold cellsK at hh
          rcases (by cases getO o L <;> first | exact .inl ⟨_, rfl⟩ | exact .inr (fun l h => by cases h) : (∃ l, getO o L = .agg l) ∨ ∀ l, getO o L ≠ .agg l) with ⟨l, hl⟩ | hn
          · rw [hl] at hh; exact this l hh
          · have hk' : cnd (getO o L).scalar (cnd (Nat.beq [getO o L].length size) (cnd (Nat.ble (Nat.add off size) c.length) (fillF L (putAt c off [getO o L]) ps) none) none) none = some r := by
              cases hh' : getO o L <;> rw [hh'] at hh hn <;> first | exact hh | exact absurd rfl (hn _)
            exact this _ (cnd_inv hk').2
      rw [key _ _ _ hf, repL_length, h1]
    have hcs : cs'.size = len * n := by have := e2.length; simp at this; omega
    have hrun : (execOp ρ ⟨d, .buildSlice t len ps, ty, pos, af, gd⟩).run P w = .ok (.value (.slice (some ⟨w.heap.size, 0, none⟩) len len)) (w.alloc (.cells cs' el)) := by
      rw [exec_buildSlice]
      refine run_val ?_
      have e3 : (ps.map fun (i, x) => (i, ρ x)).toList = ps.toList.map fun p => (p.1, ρ p.2) := by rw [Array.toList_map]
      exact run_buildSlice (hE.runUnd hu w) (hE.runSize hn w) h2 hr0 (by rw [e3]; exact e1)
    refine makes_of hH hnx hB hrun rfl rfl rfl rfl (n := cs'.size) (gen := g) (vr_newSl (Nat.le_refl _) (Nat.le_refl _) (fun _ => rfl) (by omega)) (new_rowsOfG hH hnx hB rfl (CellsR.of e2) hlen)
  · cases hev'

include hH hnx hB in
theorem new_map {w' : World} (hw : w'.heap = w.heap.push (.map #[] 0)) : OR B (μ.ins nx 0 (w.heap.size, 0, 0)) w' nx (.map [] 0) := by
  refine ⟨fun g hg => ?_, fun b s n hm => ?_⟩
  · rw [Mu.ins_other _ (.inr (by omega))]; exact hH.noneAt hnx g
  · rcases Mu.ins_inv hm with ⟨_, _, e1⟩ | k1
    · cases e1
      exact ⟨hB, #[], by rw [hw]; simp, by simp [EnsR]⟩
    · rw [hH.noneAt hnx 0] at k1; cases k1

include hH hnx hB hq in
theorem a_mkMap {t : TypeId} {x : Option Operand} (hx : ∀ y, x = some y → ∃ k n, ρ y = .int k n) (hu : x.isSome = true → ∃ k e, P.underlying t = some (.map k e)) :
    Makes P ρ B μ h nx w ⟨d, .makeMap t x, ty, pos, af, gd⟩ (.map [] 0) (.map nx) := by
  have hrun : (execOp ρ ⟨d, .makeMap t x, ty, pos, af, gd⟩).run P w = .ok (.value (.map (some w.heap.size))) (w.alloc (.map #[] 0)) := by
    refine run_val (s := Instr.makeMap t (x.map ρ)) ?_
    cases x with
    | none => simp [Instr.makeMap]
    | some y =>
      obtain ⟨k, n, e⟩ := hx y rfl
      obtain ⟨k', e', hu⟩ := hu rfl
      simp [Instr.makeMap, run_underlying hu, e, Go.asInt, asIntOf]
  refine makes_of hH hnx hB hrun rfl rfl rfl rfl (n := 0) (gen := 0) ?_ (new_map hH hnx hB rfl)
  simp only [VR]; exact ⟨_, _, _, Mu.ins_same _ _ _ _, rfl⟩


theorem wrap64_small (n : Nat) (hn : n ≤ 100000) : IntKind.i64.wrap (n : Int) = n := by
  have := wrap_small .i64 n (by show n ≤ 9223372036854775807; omega)
  simpa using this

omit hE hH hnx hB hq in
theorem run_makeSlice {t el : TypeId} {i : TypeInfo} {l c : Nat} {kl kc : IntKind} {cs0 : Array Value} (hu : (underlying t).run P w = .ok (.slice el) w) (hi : P.info? el = some i)
    (h1 : l ≤ c) (h2 : c ≤ 100000) (h3 : i.bytes ≤ 1000000)
    (hr0 : (if c * i.size = 0 then pure #[] else do pure (← zeroValue el).cells : Sem (Array Value)).run P w = .ok cs0 w) :
    (Instr.makeSlice t (.int kl (l : Nat)) (.int kc (c : Nat))).run P w = .ok (.slice (some ⟨w.heap.size, 0, none⟩) l c) (w.alloc (.cells ((Array.range (c * i.size)).map (cs0[· % cs0.size]!)) el)) := by
  have hinfo : (typeInfo el).run P w = .ok i w := by simp [typeInfo, hi]
  have hsz : (sizeOf el).run P w = .ok i.size w := by simp [sizeOf, typeInfo, hi]
  have hb : i.bytes * c ≤ 1000000 * 100000 := Nat.mul_le_mul h3 h2
  have t1 : ¬ (2 ^ 48 : Int) < (i.bytes : Int) * (c : Int) := by
    have : ((i.bytes * c : Nat) : Int) ≤ ((1000000 * 100000 : Nat) : Int) := Int.ofNat_le.2 hb
    rw [Int.natCast_mul] at this
    have h48 : (2 ^ 48 : Int) = 281474976710656 := rfl
    omega
  unfold Instr.makeSlice
  simp only [Sem.run_bind, hu, Result.andThen_ok, Go.asInt, asIntOf, Sem.run_pure, hinfo, wrap64_small l (by omega), wrap64_small c h2]
  have c1 : (decide ((c : Int) < 0) || decide ((i.bytes : Int) * (c : Int) > 2 ^ 48)) = false := by simp; omega
  have c2 : (decide ((l : Int) < 0)) = false := by simp
  have c3 : ¬ ((l : Int) > (c : Int)) := by omega
  have c4 : ¬ ((l : Int) < 0) := by omega
  have c5 : (decide ((c : Int) < 0) || decide ((i.bytes : Int) * (c : Int) > 2 ^ 48) || decide ((l : Int) < 0) || decide ((l : Int) > (c : Int))) = false := by rw [c1]; simp; omega
  rw [if_neg (by rw [c5]; simp)]
  simp only [Int.toNat_natCast, Sem.run_bind, run_askRoom, Result.andThen_ok, hsz, Sem.run_pure]
  by_cases h0 : c * i.size = 0
  · simp only [h0, if_true] at hr0 ⊢
    simp only [Sem.run_pure, Result.ok.injEq, and_true] at hr0
    subst hr0
    simp only [Sem.run_bind, Sem.run_pure, Result.andThen_ok, newRow, run_newObj_alloc]
  · simp only [h0, if_false] at hr0 ⊢
    simp only [Sem.run_bind] at hr0
    simp only [Sem.run_bind]
    cases hz : (zeroValue el).run P w with
    | halt _ _ => rw [hz] at hr0; cases hr0
    | ok z w1 =>
      rw [hz] at hr0
      simp only [Result.andThen_ok, Sem.run_pure, Result.ok.injEq] at hr0
      obtain ⟨rfl, rfl⟩ := hr0
      simp only [Sem.run_bind, Sem.run_pure, Result.andThen_ok, newRow, run_newObj_alloc]

include hE hH hnx hB hq in
theorem a_mkSlice {t el : TypeId} {n : Nat} {x y : Operand} {z : AV} (hu : E.und t = some (.slice el)) (hn : E.size el = some n) (hz : zeroA E el = some z)
    (h1 : Nat.beq z.cells.length n = true) (h2 : Nat.ble (bytesO E el) 1000000 = true)
    (hev : (AI.mkSlice n z.cells (q x) (q y)).ev h nx L = some (ob, a)) : Makes P ρ B μ h nx w ⟨d, .makeSlice t x y, ty, pos, af, gd⟩ ob a := by
  have h1 := Nat.eq_of_beq_eq_true h1
  have h2 := Nat.le_of_ble_eq_true h2
  obtain ⟨zv, hzv, rfl⟩ := hE.runZero hz w
  have hzc := ofV_cells (μ := μ) zv
  have hzs : zv.cells.size = n := by have := hzc.length; simp at this; omega
  obtain ⟨k1, l, ex, hev⟩ := idx_q hq (show idx (q x) L none (fun l => idx (q y) L none fun c => cnd (Nat.ble l c) (cnd (Nat.ble c 100000) (some (rowsOf n c (repL (ofV zv).cells c), AV.slice nx 0 0 l c n true)) none) none) = some (ob, a) from hev)
  obtain ⟨k2, c, ey, hev⟩ := idx_q hq hev
  obtain ⟨g1, hev⟩ := cnd_inv hev
  obtain ⟨g2, hev⟩ := cnd_inv hev
  have g1 := Nat.le_of_ble_eq_true g1
  have g2 := Nat.le_of_ble_eq_true g2
  simp only [Option.some.injEq, Prod.mk.injEq] at hev
  obtain ⟨rfl, rfl⟩ := hev
  unfold Env.size at hn
  unfold bytesO at h2
  split at hn
  · rename_i i hi
    rw [hi] at h2
    simp only at h2
    have hi' := hE.ts _ _ hi
    simp only [Option.some.injEq] at hn
    subst hn
    have hcells : ∃ cs0 : Array Value, ((if c * i.size = 0 then pure #[] else do pure (← zeroValue el).cells : Sem (Array Value)).run P w = .ok cs0 w) ∧
        VRs μ (repL (ofV zv).cells c) ((Array.range (c * i.size)).map (cs0[· % cs0.size]!)).toList := by
      by_cases h0 : c * i.size = 0
      · refine ⟨#[], by simp [h0], ?_⟩
        have : repL (ofV zv).cells c = [] := List.length_eq_zero_iff.1 (by rw [repL_length, h1]; exact h0)
        rw [this, h0]; simpa using VRs.nil
      · refine ⟨zv.cells, by simp [h0, hzv], ?_⟩
        have := zeros_sound hzc c (by rw [h1]; exact h0)
        rw [h1] at this; exact this
    obtain ⟨cs0, hr0, hv0⟩ := hcells
    have hrun : (execOp ρ ⟨d, .makeSlice t x y, ty, pos, af, gd⟩).run P w = .ok (.value (.slice (some ⟨w.heap.size, 0, none⟩) l c)) (w.alloc (.cells ((Array.range (c * i.size)).map (cs0[· % cs0.size]!)) el)) := by
      refine run_val (s := Instr.makeSlice t (ρ x) (ρ y)) ?_
      rw [ex, ey]
      exact run_makeSlice (hE.runUnd hu w) hi' g1 g2 h2 hr0
    refine makes_of hH hnx hB hrun rfl rfl rfl rfl (gen := 0) (vr_newSl g1 (Nat.le_refl _) (fun _ => rfl) (by simp)) (new_rowsOf hH hnx hB rfl (CellsR.of hv0) (by rw [repL_length, h1]))
  · cases hn

theorem heap_new {o : Obj} {w : World} : (w.alloc o).heap[w.heap.size]? = some o := by
  show (w.heap.push o)[w.heap.size]? = _
  rw [Array.getElem?_push]; simp
theorem shape_new {cs : Array Value} {e : TypeId} {w : World} : (w.alloc (.cells cs e)).shape? w.heap.size = some (e, cs.size) := by
  unfold World.shape?
  rw [heap_new]
theorem byteCells_get : ∀ (s : List Nat) (i : Nat), (byteCells s)[i]? = (s[i]?).map fun b => .int .u8 (.ofNat b)
  | [], i => by simp [byteCells]
  | b :: s, 0 => by simp [byteCells]
  | b :: s, i + 1 => by simp only [byteCells, List.getElem?_cons_succ]; exact byteCells_get s i
theorem byteCells_length : ∀ (s : List Nat), (byteCells s).length = s.length
  | [] => rfl
  | b :: s => by simp [byteCells, byteCells_length s]

include hE hH hnx hB hq in
theorem a_s2b {s t e : TypeId} {x : Operand} (h1 : E.und s = some .string) (h2 : E.und t = some (.slice e)) (h0 : isU8 E e = true)
    (hev : (AI.s2b (q x)).ev h nx L = some (ob, a)) : Makes P ρ B μ h nx w ⟨d, .convert s t x, ty, pos, af, gd⟩ ob a := by
  have he : E.und e = some (.int .u8) := by
    unfold isU8 at h0
    split at h0
    · assumption
    · cases h0
  obtain ⟨str, hs, hev⟩ := asStr_some (show asStr (getO (q x) L) none (fun s => some (bytesOb s, AV.slice nx strGen 0 s.length s.length 1 false)) = some (ob, a) from hev)
  simp only [Option.some.injEq, Prod.mk.injEq] at hev
  obtain ⟨rfl, rfl⟩ := hev
  obtain ⟨b, hx, hb⟩ := q_str hq hs
  have hlen : str.length = b.size := by rw [← hb]; simp
  generalize hcap : (Question.appendCap b.size 0 e).cut (w.tape w.drawn (.appendCap b.size 0 e)) = cp
  have hcp : b.size ≤ cp := by rw [← hcap]; simp [Question.cut]
  generalize hcs : (b.data.map fun b => Value.int .u8 b.toNat) ++ Array.replicate (cp - b.size) (.int .u8 0) = cs
  have hsz : cs.size = cp := by rw [← hcs]; simp; omega
  have hrun : (execOp ρ ⟨d, .convert s t x, ty, pos, af, gd⟩).run P w = .ok (.value (.slice (some ⟨w.heap.size, 0, none⟩) b.size cp)) ((w.drew.alloc (.cells cs e)).freeze ⟨w.heap.size, cs.size, none⟩ 1) := by
    refine run_val (s := convert s t (ρ x)) ?_
    rw [hx]
    have hf : (Question.appendCap b.size 0 e).forced = false := rfl
    simp only [convert, Sem.run_bind, hE.runUnd h1, hE.runUnd h2, hE.runUnd he, Result.andThen_ok, Conv.stringToBytes, run_choose_drew, hf, Bool.false_eq_true, if_false, hcap, hcs, newRow, run_newObj_alloc, Sem.run_pure, markStringish, run_shape]
    have hshape : (w.drew.alloc (.cells cs e)).shape? w.drew.heap.size = some (e, cs.size) := shape_new
    simp only [hshape, Sem.run_bind, run_freeze, Result.andThen_ok, Sem.run_pure]
    rfl
  have hheap : ((w.drew.alloc (.cells cs e)).freeze ⟨w.heap.size, cs.size, none⟩ 1).heap = w.heap.push (.cells cs e (cs.size, cs.size + 1)) := by
    simp only [World.freeze, Nat.one_ne_zero, if_false, World.alloc, World.drew]
    apply Array.ext_getElem?
    intro i
    simp only [Array.getElem?_modify, Array.getElem?_push]
    by_cases hi : i = w.heap.size
    · subst hi; simp
    · simp only [hi, if_false, Ne.symm hi]
  refine makes_of hH hnx hB hrun hheap rfl rfl rfl (n := cs.size) (gen := strGen) (by rw [← hlen]; exact vr_newSl (Nat.le_refl _) (by omega) (fun h => by cases h) (by omega)) ?_
  refine new_cells hH hnx hB hheap (.inr ⟨Nat.le_refl _, rfl⟩) (Tr.ofList_wf _ _) (fun r hr => ?_) (fun r l' gw hg => ?_)
  · cases hg : (Tr.ofList (depthFor str.length 25 0) (chunks 1 str.length (byteCells str))).get r with
    | none => rfl
    | some x =>
      have := Tr.ofList_some _ _ _ _ hg
      have := (List.getElem?_eq_some_iff.1 this).1
      rw [chunks_length] at this; omega
  · refine ⟨(chunks_get _ _ _ _ _ _ (Tr.ofList_some _ _ _ _ hg)).2.1, chunk_row (by rw [byteCells_length]; omega) ?_ (Tr.ofList_some _ _ _ _ hg)⟩
    intro i a hi
    rw [byteCells_get] at hi
    cases hsi : str[i]? with
    | none => rw [hsi] at hi; cases hi
    | some c =>
      rw [hsi] at hi
      cases hi
      have hil : i < b.size := by have := (List.getElem?_eq_some_iff.1 hsi).1; omega
      refine ⟨.int .u8 c, ?_, by simp only [VR]; rfl⟩
      rw [← hcs, Array.getElem?_append_left (by simpa using hil)]
      rw [← hb, List.getElem?_map, Array.getElem?_toList] at hsi
      rw [Array.getElem?_map]
      cases hd : b.data[i]? with
      | none => rw [hd] at hsi; cases hsi
      | some u => rw [hd] at hsi; simp only [Option.map_some, Option.some.injEq] at hsi; subst hsi; rfl

include hE hH hnx hB hq in
theorem a_rangeS {t : TypeId} {x : Operand} (h1 : E.und t = some .string) (hev : (AI.rangeS (q x)).ev h nx L = some (ob, a)) : Makes P ρ B μ h nx w ⟨d, .range t x, ty, pos, af, gd⟩ ob a := by
  obtain ⟨str, hs, hev⟩ := asStr_some (show asStr (getO (q x) L) none (fun s => some (Ob.strIter s 0, AV.ptr nx 0 0)) = some (ob, a) from hev)
  simp only [Option.some.injEq, Prod.mk.injEq] at hev
  obtain ⟨rfl, rfl⟩ := hev
  obtain ⟨b, hx, hb⟩ := q_str hq hs
  have hrun : (execOp ρ ⟨d, .range t x, ty, pos, af, gd⟩).run P w = .ok (.value (.pointer (some ⟨w.heap.size, 0, none⟩))) (w.alloc (.stringIter b 0)) := by
    refine run_val (s := Instr.range t (ρ x)) ?_
    rw [hx]
    simp only [Instr.range, Sem.run_bind, hE.runUnd h1, Result.andThen_ok, Sem.run_pure, run_newObj_alloc]
  refine makes_of hH hnx hB hrun rfl rfl rfl rfl (n := 0) (gen := 0) (vr_new (gen := 0)) ⟨fun g hg => ?_, fun b' s n hm => ?_⟩
  · rw [Mu.ins_other _ (.inr (by omega))]; exact hH.noneAt hnx g
  · rcases Mu.ins_inv hm with ⟨_, _, e1⟩ | k1
    · cases e1
      exact ⟨hB, rfl, b, heap_new, hb⟩
    · rw [hH.noneAt hnx 0] at k1; cases k1

include hE hH hnx hB hq in
theorem a_rangeM {t kt el : TypeId} {x : Operand} (h1 : E.und t = some (.map kt el)) (hev : (AI.rangeM (q x)).ev h nx L = some (ob, a)) : Makes P ρ B μ h nx w ⟨d, .range t x, ty, pos, af, gd⟩ ob a := by
  have hxx := hq x
  have hev' : (match getO (q x) L with
    | .map0 => some (Ob.mapIter none 0 [] 0, AV.ptr nx 0 0)
    | .map f => asMapO (hget f h) none fun _ clock => some (Ob.mapIter (some f) clock [] clock, AV.ptr nx 0 0)
    | _ => none : Option (Ob × AV)) = some (ob, a) := hev
  split at hev'
  · rename_i e
    rw [e] at hxx; simp only [VR] at hxx
    simp only [Option.some.injEq, Prod.mk.injEq] at hev'
    obtain ⟨rfl, rfl⟩ := hev'
    have hrun : (execOp ρ ⟨d, .range t x, ty, pos, af, gd⟩).run P w = .ok (.value (.pointer (some ⟨w.heap.size, 0, none⟩))) (w.alloc (.mapIter none 0 #[] 0)) := by
      refine run_val (s := Instr.range t (ρ x)) ?_
      rw [hxx]
      simp only [Instr.range, Sem.run_bind, hE.runUnd h1, Result.andThen_ok, Sem.run_pure, run_newObj_alloc]
    refine makes_of hH hnx hB hrun rfl rfl rfl rfl (n := 0) (gen := 0) (vr_new (gen := 0)) ⟨fun g hg => ?_, fun b' s n hm => ?_⟩
    · rw [Mu.ins_other _ (.inr (by omega))]; exact hH.noneAt hnx g
    · rcases Mu.ins_inv hm with ⟨_, _, e1⟩ | k1
      · cases e1
        exact ⟨hB, rfl, none, heap_new, rfl⟩
      · rw [hH.noneAt hnx 0] at k1; cases k1
  · rename_i f e
    rw [e] at hxx; simp only [VR] at hxx
    obtain ⟨b, s, n, hm, hx⟩ := hxx
    obtain ⟨es, clock, ho, hev'⟩ := asMapO_some hev'
    simp only [Option.some.injEq, Prod.mk.injEq] at hev'
    obtain ⟨rfl, rfl⟩ := hev'
    obtain ⟨hb, es', hes, _⟩ := hH.mapOb ho hm
    have hrun : (execOp ρ ⟨d, .range t x, ty, pos, af, gd⟩).run P w = .ok (.value (.pointer (some ⟨w.heap.size, 0, none⟩))) (w.alloc (.mapIter (some b) clock #[] clock)) := by
      refine run_val (s := Instr.range t (ρ x)) ?_
      rw [hx]
      simp only [Instr.range, Sem.run_bind, hE.runUnd h1, Result.andThen_ok, Sem.run_pure, MapKept.run_getObj_map hes, run_newObj_alloc]
    refine makes_of hH hnx hB hrun rfl rfl rfl rfl (n := 0) (gen := 0) (vr_new (gen := 0)) ⟨fun g hg => ?_, fun b' s' n' hm' => ?_⟩
    · rw [Mu.ins_other _ (.inr (by omega))]; exact hH.noneAt hnx g
    · rcases Mu.ins_inv hm' with ⟨_, _, e1⟩ | k1
      · cases e1
        exact ⟨hB, rfl, some b, heap_new, b, s, n, (Mu.ins_le (hH.noneAt hnx 0) _) _ _ _ hm, rfl⟩
      · rw [hH.noneAt hnx 0] at k1; cases k1
  · cases hev'

include hE hH hnx hB hq in
/-- WHAT AN INSTRUCTION THAT MAKES AN OBJECT COMES TO IS WHAT ITS OPERATION COMES TO -/
theorem alloc_sound {op : Op} (hev : (allocI q E op).ev h nx L = some (ob, a)) : Makes P ρ B μ h nx w ⟨d, op, ty, pos, af, gd⟩ ob a := by
  unfold allocI at hev
  split at hev
  · split at hev
    · rename_i z hz
      have : some (allocOb E _ z, AV.ptr nx 0 0) = some (ob, a) := hev
      simp only [Option.some.injEq, Prod.mk.injEq] at this
      obtain ⟨rfl, rfl⟩ := this
      exact a_alloc hE hH hnx hB hz
    · cases hev
  · split at hev
    · split at hev <;> exact a_box hH hnx hB hq hev
    · exact a_box hH hnx hB hq hev
  · split at hev
    · rename_i el hu
      split at hev
      · rename_i n z hn hz
        cases hb : Nat.beq z.cells.length n && Nat.ble (_ * n) 16777216 with
        | false => rw [hb] at hev; cases hev
        | true =>
          rw [hb] at hev
          simp only [cond_true] at hev
          simp only [Bool.and_eq_true] at hb
          split at hev
          · rename_i l hl; exact a_bslice hE hH hnx hB hq hu hn hz hb.1 hb.2 hl hev
          · cases hev
      · cases hev
    · cases hev
  · split at hev
    · have : some (Ob.map [] 0, AV.map nx) = some (ob, a) := hev
      simp only [Option.some.injEq, Prod.mk.injEq] at this
      obtain ⟨rfl, rfl⟩ := this
      exact a_mkMap hH hnx hB hq (fun y hy => by cases hy) (fun hh => by cases hh)
    · rename_i x
      split at hev
      · rename_i kt el hu
        obtain ⟨k, n, hs, hev⟩ := asInt_some (show asInt (getO (q x) L) none (fun _ _ => some (Ob.map [] 0, AV.map nx)) = some (ob, a) from hev)
        simp only [Option.some.injEq, Prod.mk.injEq] at hev
        obtain ⟨rfl, rfl⟩ := hev
        exact a_mkMap hH hnx hB hq (fun y hy => by cases hy; exact ⟨k, n, q_int hq hs⟩) (fun _ => ⟨kt, el, hE.und hu⟩)
      · cases hev
  · split at hev
    · rename_i el hu
      split at hev
      · rename_i n z hn hz
        cases hb : Nat.beq z.cells.length n && Nat.ble (bytesO E el) 1000000 with
        | false => rw [hb] at hev; cases hev
        | true =>
          rw [hb] at hev
          simp only [Bool.and_eq_true] at hb
          exact a_mkSlice hE hH hnx hB hq hu hn hz hb.1 hb.2 hev
      · cases hev
    · cases hev
  · rename_i s t x
    cases hb : convB E s t with
    | false => rw [hb] at hev; cases hev
    | true =>
      rw [hb] at hev
      unfold convB at hb
      split at hb
      · rename_i e hu
        simp only [Bool.and_eq_true] at hb
        obtain ⟨b1, b2⟩ := hb
        split at b2
        · rename_i hs; exact a_s2b hE hH hnx hB hq hs hu b1 hev
        · cases b2
      · cases hb
  · split at hev
    · rename_i hu; exact a_rangeS hE hH hnx hB hq hu hev
    · rename_i kt el hu; exact a_rangeM hE hH hnx hB hq hu hev
    · cases hev
  · cases hev

end
end Go.Ev
