/- THE EVALUATOR, part 8 of 12: EvCtl6 EvCtl7 EvDr1 EvDr2 EvDr3 EvDr4 EvDr5 -/
import Derived.Test.YtdhfgfdpncmopaaGreatDoorEv7
import Derived.Orders
set_option linter.unusedVariables false
set_option linter.unusedSectionVars false
set_option linter.unusedSimpArgs false
namespace Go.Ev
set_option linter.unusedVariables false
set_option linter.unusedSectionVars false
set_option linter.unusedSimpArgs false
noncomputable section
variable [Val] [Fk]
theorem HR.ext {B : Nat} {μ : Mu} {h : Hp} {w w' : World} (hH : HR B μ h w) (he : Ext w.heap.size w w') : HR B μ h w' :=
  ⟨hH.inj, fun f g b s n hm => Nat.lt_of_lt_of_le (hH.lt f g b s n hm) he.size, fun f => OR.mono (Mu.le_refl μ) (fun _ => rfl) (fun g b s n hm => he.block b (hH.lt f g b s n hm)) (hH.obj f), hH.side, hH.fk, hH.start⟩
theorem Ext.weaken {A B : Nat} {w w' : World} (h : Ext A w w') (hab : B ≤ A) : Ext B w w' := ⟨h.os, h.tape, h.output, h.size, fun k hk => h.block k (Nat.lt_of_lt_of_le hk hab)⟩
def SmOk (P : Program) (C : Call0) : Sme → Prop
  | .mk f us a nd => ∀ w μ (args : Array Value), Ext C.W.heap.size C.W w → VRs μ us args.toList → (∀ x ∈ nd, LnOk μ w x.1 x.2.1 x.2.2) →
    Calls P f args w (fun e w' => ∃ v, e = .returned v ∧ (∀ ν, VR ν a v) ∧ Ext w.heap.size w w')
structure SumOk (E : Env) (P : Program) (C : Call0) : Prop where
  one : ∀ w, Ext C.W.heap.size C.W w → hasBody E E.sum = true → Calls P E.sum #[] w (fun e w' => e = .returned (.bool true) ∧ Ext w.heap.size w w')
  all : ∀ s ∈ Fk.sm, SmOk P C s
section
variable {E : Env} {P : Program} (hE : EnvOk E P) {C : Call0} (hS : SumOk E P C)
variable {ih : Ko} {l : List Ins} {rest : List Ci} {fn : Nat} {ds : List Df} {dd : Bool} {rnd : Option Key} {cs : List Fr} {d : Dst} {L : Lo} {h : Hp} {nx : Key}
    {μ : Mu} {fr : Frame} {frs : List Frame} {F Fs : List Key} {w : World} {arr : Array Oper} {i : Nat} {is : List Nat} {k : List Item} {o : Oper}
theorem At.plainTop (a : At E P C ih l rest fn ds dd rnd cs d L h nx μ fr frs F Fs w arr i is k o) : plainTop fr.todo := by
  intro d b r s k' hh; rw [a.todo] at hh; cases hh
theorem At.waits (a : At E P C ih l rest fn ds dd rnd cs d L h nx μ fr frs F Fs w arr i is k o) : FrR E μ L (.wait d l :: rest) (.mk fn ds .run dd rnd) fr F :=
  .mk a.fi (a.wait μ (Mu.le_refl _))
theorem Good.next {s : Sp} {m m' : Machine} (h : Go.step P m = .next m') (g : Good E P C s m') : Good E P C s m := .of_steps (.one h) g
theorem lst_LnOk {B : Nat} {μ : Mu} {h : Hp} {w : World} (hH : HR B μ h w) {f q : Key} {ro : Bool} {gen sz : Nat} {sfx : List (List AV)} (ho : hget f h = .lst ro gen sz q sfx) : LnOk μ w f sz q := by
  intro g v hv
  obtain ⟨⟨⟨h1, h2⟩, _⟩, _, h3⟩ := hH.lst ho
  simp only [VR] at hv
  have z := nz_kZ
  obtain ⟨base, len, cp, rfl, k1, k2, k3, k4⟩ := hv
  have hlen : len = (Val.l q).length := by omega
  subst hlen
  refine ⟨h2, base, cp, rfl, k1, ?_⟩
  rcases k4 with k4 | ⟨b, s, n, r, hm, k5, rfl, k6⟩
  · exact .inl k4
  · have hr : r = 0 := by omega
    subst hr
    obtain ⟨_, cs, e, fz, e1, _, e2, e3, _⟩ := h3 _ _ _ _ hm
    exact .inr ⟨b, _, rfl, cs, e, fz, e1, by simp only [Nat.zero_mul, Nat.add_zero, Nat.zero_add] at k6 ⊢; omega, by simpa using e3⟩
theorem needO_ok {B : Nat} {μ : Mu} {h : Hp} {w : World} (hH : HR B μ h w) : ∀ {nd : List (Key × Nat × Key)}, needO h nd = true → ∀ x ∈ nd, LnOk μ w x.1 x.2.1 x.2.2
  | [], _, x, hx => by cases hx
  | (f, sz, q) :: l, e, x, hx => by
    have e : asLst (hget f h) false (fun _ _ z q' _ => cnd (Nat.beq z sz) (cnd (Key.beq q q') (needO h l) false) false) = true := e
    cases ho : hget f h with
    | lst ro gen z q' sfx =>
      rw [ho] at e
      obtain ⟨e1, e2⟩ := cnd_true_inv (show cnd (Nat.beq z sz) (cnd (Key.beq q q') (needO h l) false) false = true from e)
      obtain ⟨e2, e3⟩ := cnd_true_inv e2
      obtain rfl := Nat.eq_of_beq_eq_true e1
      obtain rfl := Key.beq_eq e2
      rcases List.mem_cons.1 hx with rfl | hx
      · exact lst_LnOk hH ho
      · exact needO_ok hH e3 x hx
    | _ => rw [ho] at e; cases e
theorem findS_ok {h : Hp} {f : Nat} {vs : List AV} : ∀ {l : List Sme} {a : AV}, findS h f vs l = some a → ∃ nd, Sme.mk f vs a nd ∈ l ∧ needO h nd = true
  | [], _, e => by cases e
  | .mk g us b nd :: l, a, e => by
    have e : cnd (Nat.beq g f) (cnd (aveqs us vs) (cnd (needO h nd) (some b) (findS h f vs l)) (findS h f vs l)) (findS h f vs l) = some a := e
    have tail : findS h f vs l = some a → ∃ nd', Sme.mk f vs a nd' ∈ Sme.mk g us b nd :: l ∧ needO h nd' = true := fun e => by
      obtain ⟨nd', h1, h2⟩ := findS_ok e
      exact ⟨nd', List.mem_cons_of_mem _ h1, h2⟩
    cases e1 : Nat.beq g f with
    | false => rw [e1] at e; exact tail e
    | true =>
      rw [e1] at e
      have e : cnd (aveqs us vs) (cnd (needO h nd) (some b) (findS h f vs l)) (findS h f vs l) = some a := e
      cases e2 : aveqs us vs with
      | false => rw [e2] at e; exact tail e
      | true =>
        rw [e2] at e
        have e : cnd (needO h nd) (some b) (findS h f vs l) = some a := e
        cases e3 : needO h nd with
        | false => rw [e3] at e; exact tail e
        | true =>
          rw [e3] at e
          cases e
          obtain rfl := Nat.eq_of_beq_eq_true e1
          obtain rfl := aveqs_eq _ _ e2
          exact ⟨nd, List.mem_cons_self .., e3⟩
include hE hS in
theorem call_good (a : At E P C ih l rest fn ds dd rnd cs d L h nx μ fr frs F Fs w arr i is k o) {s : Sem Next}
    (hs : stepG P true (gor fr (frs ++ C.cs0)) w = stepG.apply P true fr (frs ++ C.cs0) none s w) :
    (∀ f avs (args' : Array Value), VRs μ avs args'.toList → s.run P w = (callFunc f args').run P w → Good E P C (callS E f avs d l ih (.mk rest (.mk fn ds .run dd rnd) cs) L h nx) (lone fr (frs ++ C.cs0) w)) ∧
    (∀ l' b f tm tmps asg body, AtR μ l' b → s.run P w = .ok (.round b f tmps asg body) w → NeedR (cxOf E f).nd NoX μ tm tmps → nOf E f ≤ tmps.size → (∃ fu, E.fs.get f = some fu) →
      Good E P C (roundCfg E l' f tm asg body (.mk L (.wait d l :: rest) (.mk fn ds .run dd rnd) :: cs) h nx) (lone fr (frs ++ C.cs0) w)) := by
  refine ⟨fun f avs args' hv hr => ?_, fun l' b f tm tmps asg body hl hr hn hsz hfu => ?_⟩
  · show Good E P C (opt (findS h f avs Fk.sm) (enter E f avs false (.mk L (.wait d l :: rest) (.mk fn ds .run dd rnd) :: cs) h nx) fun b => cnd (hasBody E f) (ih (.mk rest (.mk fn ds .run dd rnd) cs) (put d b L) h nx) .fail) _
    cases hfs : findS h f avs Fk.sm with
    | none =>
      show Good E P C (enter E f avs false (.mk L (.wait d l :: rest) (.mk fn ds .run dd rnd) :: cs) h nx) _
      cases hc : compBody E f with
      | none => rw [enter_none hc]; trivial
      | some b =>
        have h1 := callFunc_run hE hc args' w
        refine Good.next (next_of (by rw [hs]; exact apply_enter a.plainTop (hr.trans h1))) ?_
        exact enter_good hE (dfd := false) hv a.hr a.gr a.ext a.waits a.st a.kept
    | some b =>
      show Good E P C (cnd (hasBody E f) (ih (.mk rest (.mk fn ds .run dd rnd) cs) (put d b L) h nx) .fail) _
      cases hb : hasBody E f with
      | false => trivial
      | true =>
        show Good E P C (ih (.mk rest (.mk fn ds .run dd rnd) cs) (put d b L) h nx) _
        obtain ⟨nd, hin, hnd⟩ := findS_ok hfs
        have hb4 := hb
        unfold hasBody at hb4
        split at hb4
        · rename_i fu hfu
          have hPf := hE.fs _ _ hfu
          obtain ⟨c, hbody⟩ := Option.isSome_iff_exists.1 hb4
          have hnm := hE.names _ _ hfu hb4
          obtain ⟨e, w', fr', ⟨v, he, hv2, hext⟩, hcomes, hfn', hleave⟩ := hS.all _ hin w μ args' a.ext hv (needO_ok a.hr hnd) (fr :: (frs ++ C.cs0))
          subst he
          have hcf : (callFunc f args').run P w = .ok (.enter f args') w := by
            simp only [callFunc, Sem.run_bind, run_program, Result.andThen_ok, hPf, hnm, Bool.false_eq_true, if_false, hbody, Option.isNone_some, Sem.run_pure]
          refine Good.next (next_of (by rw [hs]; exact apply_enter a.plainTop (hr.trans hcf))) ?_
          refine Good.of_steps hcomes ?_
          refine Good.next (step_leave_returned hleave) ?_
          exact a.go μ b v h nx w' ds fr cs frs (Mu.le_refl _) (hv2 μ) (a.hr.ext hext) a.gr (a.ext.trans (hext.weaken a.size)) a.fi rfl rfl a.st a.kept
        · cases hb4
  · refine Good.next (next_of (by rw [hs]; exact apply_round hr)) ?_
    exact round_good hl hn hsz hfu a.hr a.gr a.ext a.waits a.st a.kept
theorem resolve_value {ρ : Operand → Value} {f : Operand} {xs : Array Operand} {ats : Array TypeId} {ty : TypeId} {F : Fn} {fs cs : Array Value} (hf : ρ f = .func F fs cs) :
    resolve ρ { callee := .value f, args := xs, argTypes := ats } ty = pure { target := .fn F cs, args := fs ++ xs.map ρ } := by
  simp only [resolve, hf, Deferred.ofValue]
theorem panic_good {q : Operand → Opd} {x : Operand} (hq : ∀ x, VR μ (getO (q x) L) (fr.eval x)) (a : At E P C ih l rest fn ds dd rnd cs d L h nx μ fr frs F Fs w arr i is k o)
    (hs : stepG P true (gor fr (frs ++ C.cs0)) w = stepG.apply P true fr (frs ++ C.cs0) none (execOp fr.eval o) w)
    (hrun : ∀ y t, fr.eval x = .iface t y → (execOp fr.eval o).run P w = .halt (.panic (.iface t y)) w) :
    Good E P C ((CI.panic (q x)).run E d l ih (.mk rest (.mk fn ds .run dd rnd) cs) L h nx) (lone fr (frs ++ C.cs0) w) := by
  show Good E P C (asIface (getO (q x) L) .fail fun t v => .go (.mk L (.wait d l :: rest) (raise1 (.mk fn ds .run dd rnd) (.iface t v)) cs h nx)) _
  cases hv : getO (q x) L with
  | iface t v =>
    obtain ⟨y, hy, hvy⟩ := q_iface hq hv
    refine ⟨_, .one (next_of (by rw [hs]; exact apply_panic (hrun y t hy))), ?_⟩
    refine Sim.mk (F := []) (Fs := Fs) a.hr a.gr a.ext ?_ a.st ⟨(List.nodup_append.1 a.kept.1).2.1, fun f hf => a.kept.2 f (List.mem_append_right _ (by simpa using hf))⟩
    have hfi := a.fi
    cases hfi with
    | mk h1 h2 h3 h4 h5 h6 h7 =>
      have hmd : fr.mode = .run := h3
      have hraise : fr.raise [{ v := .iface t y, recovered := false }] = { fr with mode := .panicking [{ v := .iface t y, recovered := false }] } := by simp [Frame.raise, hmd]
      rw [hraise]
      obtain ⟨X, x1, x2⟩ := a.out
      exact .mk (.mk h1 h2 ⟨_, rfl, .iface t y, [], rfl, by simp only [VR]; exact ⟨_, rfl, hvy⟩, rfl⟩ h4 h5 h6 h7) (.out trivial x1 x2)
  | _ => trivial
theorem later_good {x : Df} {dv : Deferred} (a : At E P C ih l rest fn ds dd rnd cs d L h nx μ fr frs F Fs w arr i is k o)
    (hs : rnd = none → stepG P true (gor fr (frs ++ C.cs0)) w = stepG.apply P true fr (frs ++ C.cs0) none (execOp fr.eval o) w)
    (hx : DfR μ x dv) (hrun : (execOp fr.eval o).run P w = .ok (.defer dv) w) :
    Good E P C (later d ih x (.mk rest (.mk fn ds .run dd rnd) cs) L h nx) (lone fr (frs ++ C.cs0) w) := by
  unfold later
  simp only [inK]
  cases rnd with
  | some l' => trivial
  | none =>
    show Good E P C (ih (.mk rest (.mk fn (x :: ds) .run dd none) cs) (put d undefA L) h nx) _
    refine Good.next (next_of (by rw [hs rfl]; exact apply_defer hrun)) ?_
    refine a.go μ undefA undef h nx w (x :: ds) { fr with defers := dv :: fr.defers } cs frs (Mu.le_refl _) vr_undef a.hr a.gr a.ext ?_ rfl rfl a.st a.kept
    have hfi := a.fi
    cases hfi with
    | mk h1 h2 h3 h4 h5 h6 h7 => exact .mk h1 (by simp only [DfsR]; exact ⟨dv, _, rfl, hx, h2⟩) h3 h4 h5 h6 h7
theorem leftE_sound {seen : List Nat} {since : Nat} : ∀ (es : List En) (xs : List MapEntry) (lf : List En), EnsR μ es xs → leftE seen since es = some lf →
    EnsR μ lf (xs.filter fun e => !seen.contains e.born) ∧ ∀ x ∈ xs.filter (fun e => !seen.contains e.born), x.born < since
  | [], xs, lf, he, h => by
    simp only [EnsR] at he; subst he
    cases h
    exact ⟨by simp [EnsR], by simp⟩
  | e :: es, xs, lf, he, h => by
    simp only [EnsR] at he
    obtain ⟨x, r, rfl, h1, h2⟩ := he
    unfold leftE at h
    have hno : ∀ (s : List Nat) (n : Nat), notIn s n = !s.contains n := by
      intro s n
      induction s with
      | nil => rfl
      | cons a s ih =>
        show cnd (Nat.beq a n) false (notIn s n) = _
        rw [cnd_eq, ih]
        by_cases hh : a = n
        · subst hh; simp
        · have : Nat.beq a n = false := Bool.eq_false_iff.2 fun h => hh (Nat.eq_of_beq_eq_true h)
          rw [this]
          simp only [Bool.false_eq_true, if_false, List.contains_cons, Bool.not_or]
          have : (n == a) = false := by simpa using Ne.symm hh
          rw [this]; rfl
    split at h
    · rename_i l' hl'
      obtain ⟨i1, i2⟩ := leftE_sound es r l' h2 hl'
      rw [cnd_eq, hno, h1.2.2] at h
      split at h
      · rename_i hc
        rw [cnd_eq] at h
        split at h
        · rename_i hlt
          cases h
          rw [List.filter_cons, if_pos hc]
          refine ⟨by simp only [EnsR]; exact ⟨x, _, rfl, h1, i1⟩, fun y hy => ?_⟩
          rcases List.mem_cons.1 hy with rfl | hy
          · exact Nat.le_of_ble_eq_true hlt
          · exact i2 y hy
        · cases h
      · rename_i hc
        cases h
        rw [List.filter_cons, if_neg hc]
        exact ⟨i1, i2⟩
    · cases h
theorem noneLeft_sound {last : Nat} : ∀ (es : List En) (xs : List MapEntry), EnsR μ es xs → noneLeft es last = xs.all (fun x => decide (x.born ≥ last))
  | [], xs, he => by simp only [EnsR] at he; subst he; rfl
  | e :: es, xs, he => by
    simp only [EnsR] at he
    obtain ⟨x, r, rfl, h1, h2⟩ := he
    show cnd (Nat.ble last e.b) (noneLeft es last) false = _
    rw [cnd_eq, noneLeft_sound es r h2, h1.2.2, List.all_cons]
    by_cases hh : last ≤ x.born
    · rw [if_pos (Nat.ble_eq_true_of_le hh)]; simp [hh]
    · rw [if_neg (fun h => hh (Nat.le_of_ble_eq_true h))]; simp [hh]
theorem EnsR.mem {es : List En} {xs : List MapEntry} (he : EnsR μ es xs) {i : Nat} {x : MapEntry} (hx : xs[i]? = some x) : ∃ e, es[i]? = some e ∧ EnR μ e x := by
  induction es generalizing xs i with
  | nil => simp only [EnsR] at he; subst he; simp at hx
  | cons e es ih =>
    simp only [EnsR] at he
    obtain ⟨y, r, rfl, h1, h2⟩ := he
    cases i with
    | zero => simp at hx; subst hx; exact ⟨e, rfl, h1⟩
    | succ i => simp at hx; obtain ⟨e', e1, e2⟩ := ih h2 hx; exact ⟨e', by simpa using e1, e2⟩
theorem next_good {q : Operand → Opd} {s : Bool} {x : Operand} (hq : ∀ x, VR μ (getO (q x) L) (fr.eval x)) (a : At E P C ih l rest fn ds dd rnd cs d L h nx μ fr frs F Fs w arr i is k o)
    (hs : stepG P true (gor fr (frs ++ C.cs0)) w = stepG.apply P true fr (frs ++ C.cs0) none (execOp fr.eval o) w) (hop : o.op = .next x s) :
    Good E P C ((CI.next s (q x)).run E d l ih (.mk rest (.mk fn ds .run dd rnd) cs) L h nx) (lone fr (frs ++ C.cs0) w) := by
  -- any of the steps that the iterator may take
  have main : ∀ ps, nextA h s (getO (q x) L) = some ps → ∃ p ∈ ps, ∃ v w', (execOp fr.eval o).run P w = .ok (.value v) w' ∧ VR μ p.1 v ∧ HR C.W.heap.size μ p.2 w' ∧ Ext C.W.heap.size w w' ∧ Kp h μ p.2 μ := by
    intro ps hps
    obtain ⟨dst, op, ty, pos, af, gd⟩ := o
    simp only at hop; subst hop
    have hrv : ∀ {v w'}, (Instr.next (fr.eval x) s ty).run P w = .ok v w' → (execOp fr.eval ⟨dst, .next x s, ty, pos, af, gd⟩).run P w = .ok (.value v) w' := fun hr => run_val hr
    have hxv := hq x
    unfold nextA at hps
    split at hps
    · rename_i f g e
      rw [e] at hxv
      simp only [VR] at hxv
      obtain ⟨b, st, n, hm, hst, hx⟩ := hxv
      have hst : st = 0 := by omega
      subst hst
      have hO := a.hr.obj f
      have zero : (∀ g, 0 < g → μ f g = none) → g = 0 := fun hh => by
        rcases Nat.eq_zero_or_pos g with h0 | h0
        · exact h0
        · rw [hh g h0] at hm; cases hm
      split at hps
      · -- a string
        rename_i str pos' ho
        rw [ho] at hO
        obtain ⟨hO1, hO2⟩ := hO
        have := zero hO1; subst this
        obtain ⟨hB, _, bs, hheap, hbs⟩ := hO2 b 0 n hm
        have hg : (getObj b).run P w = .ok (.stringIter bs pos') w := by simp only [getObj, Sem.run, hheap]
        have hlen : str.length = bs.size := by rw [← hbs]; simp
        have hbb : (⟨(str.map UInt8.ofNat).toArray⟩ : ByteArray) = bs := by
          cases bs with
          | mk dt =>
            simp only [ByteArray.mk.injEq]
            apply Array.toList_inj.1
            rw [← hbs]
            simp only [List.map_map]
            rw [show (UInt8.ofNat ∘ UInt8.toNat) = id from by funext x; simp]
            simp
        rw [cnd_eq] at hps
        split at hps
        · rename_i hlt
          have hlt : pos' < bs.size := by rw [← hlen]; exact Nat.le_of_ble_eq_true hlt
          rw [hbb] at hps
          generalize hdec : Utf8.decode bs pos' = cw at hps
          obtain ⟨c, width⟩ := cw
          cases hps
          have hso : (setObj b (.stringIter bs (pos' + width))).run P w = .ok () (World.put w b (.stringIter bs (pos' + width))) := by
            simp only [setObj, Sem.run, hheap]; rfl
          refine ⟨_, List.mem_singleton.2 rfl, .tuple #[.bool true, goInt pos', .int .i32 c], World.put w b (.stringIter bs (pos' + width)), hrv ?_, ?_, ?_, Ext.put hB, Kp.set rfl⟩
          · rw [hx]
            simp only [Instr.next, Sem.run_bind, hg, Result.andThen_ok, hlt, if_true, hdec, hso, Sem.run_pure]
          · simp only [VR]; exact ⟨_, rfl, .cons (by simp only [VR]) (.cons (by simp only [VR]; rfl) (.cons (by simp only [VR]) .nil))⟩
          · refine a.hr.turn hm hB rfl ⟨hO1, fun b1 s1 n1 hm1 => ?_⟩
            rw [hm] at hm1
            simp only [Option.some.injEq, Prod.mk.injEq] at hm1
            obtain ⟨rfl, rfl, rfl⟩ := hm1
            exact ⟨hB, rfl, bs, put_get (a.hr.lt _ _ _ _ _ hm), hbs⟩
        · rename_i hlt
          have hlt : ¬ pos' < bs.size := fun hh => hlt (by rw [← hlen] at hh; exact Nat.ble_eq_true_of_le hh)
          cases hps
          refine ⟨_, List.mem_singleton.2 rfl, .tuple #[.bool false], w, hrv ?_, ?_, a.hr, Ext.refl _ _, Kp.refl _ _⟩
          · rw [hx]
            simp only [Instr.next, Sem.run_bind, hg, Result.andThen_ok, hlt, if_false, Sem.run_pure]
          · simp only [VR]; exact ⟨_, rfl, .cons (by simp only [VR]) .nil⟩
      · -- a map that is nil
        rename_i since seen last ho
        rw [ho] at hO
        obtain ⟨hO1, hO2⟩ := hO
        have := zero hO1; subst this
        obtain ⟨hB, _, m', hheap, hm'⟩ := hO2 b 0 n hm
        have hm' : m' = none := hm'
        subst hm'
        have hg : (getObj b).run P w = .ok (.mapIter none since seen.toArray last) w := by simp only [getObj, Sem.run, hheap]
        cases hps
        refine ⟨_, List.mem_singleton.2 rfl, .tuple #[.bool false], w, hrv ?_, ?_, a.hr, Ext.refl _ _, Kp.refl _ _⟩
        · rw [hx]
          simp only [Instr.next, Sem.run_bind, hg, Result.andThen_ok, Sem.run_pure]
        · simp only [VR]; exact ⟨_, rfl, .cons (by simp only [VR]) .nil⟩
      · -- a map
        rename_i mk since seen last ho
        rw [ho] at hO
        obtain ⟨hO1, hO2⟩ := hO
        have := zero hO1; subst this
        obtain ⟨hB, _, m', hheap, cm, sm, nm, hmm, hm'⟩ := hO2 b 0 n hm
        subst hm'
        obtain ⟨es, clock, hmo, hps⟩ := asMapO_some hps
        obtain ⟨hBm, xs, hxs, hR⟩ := a.hr.mapOb hmo hmm
        have hg : (getObj b).run P w = .ok (.mapIter (some cm) since seen.toArray last) w := by simp only [getObj, Sem.run, hheap]
        have hg2 := MapKept.run_getObj_map (P := P) hxs
        cases hnl : (!seen.isEmpty && !es.isEmpty && noneLeft es last) with
        | true => rw [hnl] at hps; cases hps
        | false =>
          rw [hnl] at hps
          simp only [cond_false] at hps
          have hg0 : (!seen.toArray.isEmpty && !xs.isEmpty && xs.all (fun x => decide (x.born ≥ last))) = false := by
            rw [← hnl, noneLeft_sound es xs.toList hR]
            congr 1
            · congr 1
              · simp
              · have : es.isEmpty = xs.isEmpty := by
                  rw [← Array.isEmpty_toList]
                  cases es with
                  | nil => have := hR; simp only [EnsR] at this; rw [this]; rfl
                  | cons e es => have := hR; simp only [EnsR] at this; obtain ⟨y, r, e1, _⟩ := this; rw [e1]; rfl
                rw [this]
            · rw [← Array.all_toList]
          cases hle : leftE seen since es with
          | none => rw [hle] at hps; cases hps
          | some lf =>
            rw [hle] at hps
            obtain ⟨k1, k2⟩ := leftE_sound es xs.toList lf hR hle
            have hleft : (xs.filter fun e => !seen.toArray.contains e.born).toList = xs.toList.filter fun e => !seen.contains e.born := by
              rw [Array.toList_filter]; simp
            have hold : ((xs.filter fun e => !seen.toArray.contains e.born).filter fun e => decide (e.born < since)) = xs.filter fun e => !seen.toArray.contains e.born := by
              apply Array.toList_inj.1
              rw [Array.toList_filter, hleft]
              exact List.filter_eq_self.2 fun x hx => by simpa using k2 x hx
            have hnew : ((xs.filter fun e => !seen.toArray.contains e.born).filter fun e => decide (e.born ≥ since)) = #[] := by
              apply Array.toList_inj.1
              rw [Array.toList_filter, hleft]
              exact List.filter_eq_nil_iff.2 fun x hx => by have := k2 x hx; simp; omega
            generalize hlfa : (xs.filter fun e => !seen.toArray.contains e.born) = lfa at *
            cases lf with
            | nil =>
              cases hps
              have hlfa0 : lfa = #[] := by
                apply Array.toList_inj.1; rw [hleft]
                simp only [EnsR] at k1; exact k1
              refine ⟨_, List.mem_singleton.2 rfl, .tuple #[.bool false], w, hrv ?_, ?_, a.hr, Ext.refl _ _, Kp.refl _ _⟩
              · rw [hx]
                simp only [Instr.next, Sem.run_bind, hg, Result.andThen_ok, hg2, hg0, Bool.false_eq_true, if_false, hlfa, hold, hnew]
                rw [hlfa0]
                have e1 : ((if (#[] : Array MapEntry).isEmpty = true then #[none] else #[]) ++ Array.map some (#[] ++ #[]) : Array (Option MapEntry)) = #[none] := by simp
                rw [e1]
                simp [run_choose_drew, Question.forced]
              · simp only [VR]; exact ⟨_, rfl, .cons (by simp only [VR]) .nil⟩
            | cons e0 lf =>
              cases hps
              have hne : lfa.isEmpty = false := by
                simp only [EnsR] at k1
                obtain ⟨y, r, e1, _⟩ := k1
                rw [← Array.isEmpty_toList, hleft, e1]; rfl
              -- the draw
              generalize hcand : ((if lfa.isEmpty = true then #[none] else #[]) ++ (lfa ++ #[]).map some : Array (Option MapEntry)) = cand
              have hcs : cand = lfa.map some := by rw [← hcand, hne]; simp
              have hsz : 0 < lfa.size := by
                rcases Nat.eq_zero_or_pos lfa.size with h0 | h0
                · rw [Array.size_eq_zero_iff.1 h0] at hne; cases hne
                · exact h0
              have hdraw : ∃ j w1, (choose (.mapNext cand.size)).run P w = .ok j w1 ∧ j < lfa.size ∧ (w1 = w ∨ w1 = w.drew) := by
                rw [run_choose_drew, hcs]
                split
                · exact ⟨0, w, rfl, hsz, .inl rfl⟩
                · refine ⟨_, w.drew, rfl, ?_, .inr rfl⟩
                  simp only [Question.cut, Array.size_map]
                  exact Nat.mod_lt _ hsz
              obtain ⟨j, w1, hch, hj, hw1⟩ := hdraw
              have hheap1 : w1.heap = w.heap := by rcases hw1 with rfl | rfl <;> rfl
              have hxj : lfa[j]? = some lfa[j] := Array.getElem?_eq_getElem hj
              obtain ⟨en, he1, he2⟩ := k1.mem (i := j) (x := lfa[j]) (by rw [← hleft, Array.getElem?_toList, hxj])
              have hso : (setObj b (.mapIter (some cm) since (seen.toArray.push lfa[j].born) clock)).run P w1 = .ok () (World.put w1 b (.mapIter (some cm) since (seen.toArray.push lfa[j].born) clock)) := by
                have hheap' : w1.heap[b]? = some (.mapIter (some cm) since seen.toArray last) := by rw [hheap1]; exact hheap
                simp only [setObj, Sem.run, hheap']; rfl
              refine ⟨(.tuple [.bool true, en.k, en.v], hset f (.mapIter (some mk) since (seen ++ [en.b]) clock) h), ?_, .tuple #[.bool true, lfa[j].key, lfa[j].val], World.put w1 b (.mapIter (some cm) since (seen.toArray.push lfa[j].born) clock), hrv ?_, ?_, ?_, ?_, Kp.set rfl⟩
              · rw [List.mem_map]
                exact ⟨en, List.mem_of_getElem? he1, rfl⟩
              · rw [hx]
                simp only [Instr.next, Sem.run_bind, hg, Result.andThen_ok, hg2, hg0, Bool.false_eq_true, if_false, hlfa, hold, hnew, hcand, hch]
                have hcj : cand[j]? = some (some lfa[j]) := by rw [hcs, Array.getElem?_map, hxj]; rfl
                simp only [hcj, Sem.run_bind, hso, Result.andThen_ok, Sem.run_pure]
              · simp only [VR]; exact ⟨_, rfl, .cons (by simp only [VR]) (.cons he2.1 (.cons he2.2.1 .nil))⟩
              · refine (a.hr.world hheap1).turn hm hB rfl ⟨hO1, fun b1 s1 n1 hm1 => ?_⟩
                rw [hm] at hm1
                simp only [Option.some.injEq, Prod.mk.injEq] at hm1
                obtain ⟨rfl, rfl, rfl⟩ := hm1
                refine ⟨hB, rfl, some cm, ?_, cm, sm, nm, hmm, rfl⟩
                rw [put_get (by rw [hheap1]; exact a.hr.lt _ _ _ _ _ hm), he2.2.2]
                simp
              · refine Ext.trans ?_ (Ext.put hB)
                rcases hw1 with rfl | rfl
                · exact Ext.refl _ _
                · exact ⟨rfl, rfl, rfl, Nat.le_refl _, fun _ _ => rfl⟩
      · cases hps
    · cases hps
  show Good E P C (match nextA h s (getO (q x) L) with
    | some [(v, h')] => ih (.mk rest (.mk fn ds .run dd rnd) cs) (put d v L) h' nx
    | some ps => .br (ps.map fun p => .mk (put d p.1 L) (.mid l :: rest) (.mk fn ds .run dd rnd) cs p.2 nx)
    | none => .fail) _
  cases hps : nextA h s (getO (q x) L) with
  | none => trivial
  | some ps =>
    obtain ⟨p, hp, v, w', hrun, hv, hh, he, hkp⟩ := main ps hps
    have hstep := next_of (P := P) (cs' := frs ++ C.cs0) (g := fr.finish v) (w' := w') (by rw [hs]; exact apply_value hrun)
    have branch : Good E P C (.br (ps.map fun p => .mk (put d p.1 L) (.mid l :: rest) (.mk fn ds .run dd rnd) cs p.2 nx)) (lone fr (frs ++ C.cs0) w) := by
      refine ⟨_, List.mem_map.2 ⟨p, hp, rfl⟩, _, .one hstep, ?_⟩
      exact Sim.mk hh a.gr (a.ext.trans he) (.mk (a.fi.finish v a.todo a.op) (a.mid μ p.1 v (Mu.le_refl _) hv)) a.st (a.kept.kp hkp)
    match ps, hp, branch with
    | [(v1, h1)], hp, _ =>
      simp only [List.mem_singleton] at hp
      subst hp
      exact Good.next hstep (a.go μ v1 v h1 nx w' ds fr cs frs (Mu.le_refl _) hv hh a.gr (a.ext.trans he) a.fi rfl rfl a.st (a.kept.kp hkp))
    | [], hp, _ => cases hp
    | _ :: _ :: _, _, hb => exact hb
include hE hS in
theorem ct_good {q : Operand → Opd} (hq : ∀ x, VR μ (getO (q x) L) (fr.eval x)) (a : At E P C ih l rest fn ds dd rnd cs d L h nx μ fr frs F Fs w arr i is k o)
    (hw : Region.wanted o (yielded arr fr.tmps) = true) : Good E P C ((ctlI q E o.op).run E d l ih (.mk rest (.mk fn ds .run dd rnd) cs) L h nx) (lone fr (frs ++ C.cs0) w) := by
  obtain ⟨dst, op, ty, pos, af, gd⟩ := o
  have hm := a.mode
  have hoper : (∀ c, op ≠ .defer c) → stepG P true (gor fr (frs ++ C.cs0)) w = stepG.apply P true fr (frs ++ C.cs0) none (execOp fr.eval ⟨dst, op, ty, pos, af, gd⟩) w :=
    fun hn => stepG_oper hm a.todo a.op hw (.inr hn)
  cases op with
  | call c =>
    obtain ⟨callee, args, ats⟩ := c
    have hs := hoper (fun c hh => by cases hh)
    cases callee with
    | builtin b =>
      cases b <;> first | trivial | skip
      · -- panic
        show Good E P C ((match args.toList with | x :: _ => CI.panic (q x) | [] => .bad).run E d l ih _ L h nx) _
        cases hx : args.toList with
        | nil => trivial
        | cons x xs =>
          refine panic_good (x := x) hq a hs (fun y t hy => ?_)
          show (do let d ← resolve fr.eval { callee := .builtin .panic, args := args, argTypes := ats } ty; invoke d.target d.args).run P w = _
          have : resolve fr.eval { callee := .builtin .panic, args := args, argTypes := ats } ty = pure { target := .builtin .panic ats ty (args.map fun | .const _ => true | _ => false), args := args.map fr.eval } := rfl
          rw [this]
          have h0 : (args.map fr.eval).getD 0 .nilIface = .iface t y := by
            rw [Array.getD_eq_getD_getElem?, head_args hx, Option.getD_some, hy]
          simp only [Sem.run_bind, Sem.run_pure, Result.andThen_ok, invoke, builtin, h0, Instr.panic, run_goPanic, Result.andThen_halt]
      · -- recover
        have hrun : (execOp fr.eval ⟨dst, .call { callee := .builtin .recover, args := args, argTypes := ats }, ty, pos, af, gd⟩).run P w = .ok .recover w := rfl
        show Good E P C (cRecover d l ih (.mk rest (.mk fn ds .run dd rnd) cs) L h nx) _
        unfold cRecover
        simp only [inK]
        cases hfi : a.fi with
        | mk h1 h2 h3 h4 h5 h6 h7 =>
          cases rnd with
          | some l' => trivial
          | none =>
            have hrn : fr.roundOf = none := h5
            have hap := apply_recover (P := P) (fr := fr) (cs := frs ++ C.cs0) hrn hrun
            rw [← hs] at hap
            -- nobody to recover from
            have plain : tryRecover fr (frs ++ C.cs0) = none → Good E P C (ih (.mk rest (.mk fn ds .run dd none) cs) (put d .nilIface L) h nx) (lone fr (frs ++ C.cs0) w) := fun hn => by
              rw [hn] at hap
              exact Good.next (next_of hap) (a.go μ .nilIface .nilIface h nx w ds fr cs frs (Mu.le_refl _) (by simp only [VR]) a.hr a.gr a.ext a.fi rfl rfl a.st a.kept)
            cases dd with
            | false =>
              have hk : fr.kind = .normal := h4
              have hn : tryRecover fr (frs ++ C.cs0) = none := by unfold tryRecover; rw [hk]
              cases cs <;> exact plain hn
            | true =>
              have hk : fr.kind = .deferred := h4
              cases hst : a.st with
              | nil => trivial
              | @cons L1 todo1 fi1 fr1 cs1 frs1 F1 Fs1 hfr1 hst1 =>
                obtain ⟨fn1, ds1, md1, dd1, rnd1⟩ := fi1
                cases hfr1 with
                | mk hfi1 hb1 =>
                  cases hfi1 with
                  | mk g1 g2 g3 g4 g5 g6 g7 =>
                    have hno : (∀ v older, md1 ≠ .panicking (.mk v false :: older)) → tryRecover fr (fr1 :: frs1 ++ C.cs0) = none := by
                      intro hh
                      simp only [tryRecover, hk, List.cons_append]
                      cases md1 with
                      | run => have g3 : fr1.mode = .run := g3; rw [g3]
                      | returning => have g3 : fr1.mode = .returning := g3; rw [g3]
                      | panicking ch =>
                        obtain ⟨ch', e1, e2⟩ := g3
                        rw [e1]
                        cases ch with
                        | nil => have e2 : ch' = [] := e2; subst e2; rfl
                        | cons e ch =>
                          obtain ⟨v, r⟩ := e
                          obtain ⟨u, l', e3, e4, e5⟩ := e2
                          subst e3
                          cases r with
                          | true => rfl
                          | false => exact absurd rfl (hh _ _)
                    cases md1 with
                    | run => exact plain (hno (fun v o hh => by cases hh))
                    | returning => exact plain (hno (fun v o hh => by cases hh))
                    | panicking ch =>
                      cases ch with
                      | nil => exact plain (hno (fun v o hh => by cases hh))
                      | cons e ch =>
                        obtain ⟨v, r⟩ := e
                        cases r with
                        | true => exact plain (hno (fun v o hh => by cases hh))
                        | false =>
                          obtain ⟨ch', e1, e2⟩ := g3
                          obtain ⟨u, l', e3, e4, e5⟩ := e2
                          subst e3
                          have htr : tryRecover fr (fr1 :: frs1 ++ C.cs0) = some (u, { fr1 with mode := .panicking ({ v := u, recovered := true } :: l') } :: (frs1 ++ C.cs0)) := by
                            simp only [tryRecover, hk, List.cons_append, e1]
                          rw [htr] at hap
                          refine Good.next (next_of hap) ?_
                          have hout : BodyR E fn1 μ L1 fr1.tmps (.panicking (.mk v true :: ch)) todo1 fr1.todo F1 := by
                            cases hb1 with
                            | out z1 z2 z3 => exact .out trivial z2 z3
                          have hst' : StR E μ (.mk L1 todo1 (.mk fn1 ds1 (.panicking (.mk v true :: ch)) dd1 rnd1) :: cs1) ({ fr1 with mode := .panicking ({ v := u, recovered := true } :: l') } :: frs1) (F1 ++ Fs1) :=
                            .cons (.mk (.mk g1 g2 ⟨_, rfl, u, l', rfl, e4, e5⟩ g4 g5 g6 g7) hout) hst1
                          exact a.go μ v u h nx w ds fr _ _ (Mu.le_refl _) e4 a.hr a.gr a.ext a.fi rfl rfl hst' a.kept
    | invoke recv name =>
      show Good E P C (Go.Ev.callMethod E h (getO (q recv) L) name (getOs (args.toList.map q) L) fun f vs => callS E f vs d l ih (.mk rest (.mk fn ds .run dd rnd) cs) L h nx) _
      refine callMethod_good hE a.hr (hq recv) (getOs_sound hq args.toList) (s := execOp fr.eval ⟨dst, .call { callee := .invoke recv name, args := args, argTypes := ats }, ty, pos, af, gd⟩) ?_ (call_good hE hS a hs).1
      have hres : resolve fr.eval { callee := .invoke recv name, args := args, argTypes := ats } ty = pure { target := .fn (.method name) #[], args := #[fr.eval recv] ++ args.map fr.eval } := rfl
      show (do let d ← resolve fr.eval { callee := .invoke recv name, args := args, argTypes := ats } ty; invoke d.target d.args).run P w = _
      rw [hres]
      simp only [Sem.run_bind, Sem.run_pure, Result.andThen_ok, invoke]
      have e1 : (#[fr.eval recv] ++ args.map fr.eval)[0]? = some (fr.eval recv) := by rw [Array.getElem?_append_left (by simp)]; rfl
      have e2 : (#[fr.eval recv] ++ args.map fr.eval).extract 1 (#[fr.eval recv] ++ args.map fr.eval).size = (args.toList.map fr.eval).toArray := by
        apply Array.toList_inj.1
        simp
        exact List.take_of_length_le (by simp)
      simp only [e1, e2]
    | value f =>
      -- a function value, or a function by its name
      have dyn : Good E P C (asFunc (getO (q f) L) .fail fun g first cap => invokeFn E h g cap (first ++ getOs (args.toList.map q) L)
          (fun f vs => callS E f vs d l ih (.mk rest (.mk fn ds .run dd rnd) cs) L h nx)
          (fun k fn' t x y => roundCfg E k fn' t x y (.mk L (.wait d l :: rest) (.mk fn ds .run dd rnd) :: cs) h nx)) (lone fr (frs ++ C.cs0) w) := by
        have hqf := hq f
        cases hv : getO (q f) L with
        | func g first cap =>
          rw [hv] at hqf
          simp only [VR] at hqf
          obtain ⟨G, fs, cps, hfe, hG, h1, h2⟩ := hqf
          refine invokeFn_good hE a.hr hG h2 (argv := fs ++ args.map fr.eval) (by rw [Array.toList_append, Array.toList_map]; exact h1.append (getOs_sound hq args.toList)) (s := execOp fr.eval ⟨dst, .call { callee := .value f, args := args, argTypes := ats }, ty, pos, af, gd⟩) ?_ (call_good hE hS a hs).1 (call_good hE hS a hs).2
          show (do let d ← resolve fr.eval { callee := .value f, args := args, argTypes := ats } ty; invoke d.target d.args).run P w = _
          rw [resolve_value hfe]
          simp only [Sem.run_bind, Sem.run_pure, Result.andThen_ok]
        | _ => trivial
      cases f with
      | func g =>
        show Good E P C ((bif Nat.beq g E.sum && (args.toList.isEmpty && hasBody E g) then CI.sum else .callF g (args.toList.map q)).run E d l ih _ L h nx) _
        have hrunc : (execOp fr.eval ⟨dst, .call { callee := .value (.func g), args := args, argTypes := ats }, ty, pos, af, gd⟩).run P w = (callFunc g (args.map fr.eval)).run P w := by
          show (do let d ← resolve fr.eval { callee := .value (.func g), args := args, argTypes := ats } ty; invoke d.target d.args).run P w = _
          rw [resolve_value (F := .func g) (fs := #[]) (cs := #[]) rfl]
          simp only [Sem.run_bind, Sem.run_pure, Result.andThen_ok, invoke, Array.append_empty, Array.empty_append]
        cases hb : Nat.beq g E.sum && (args.toList.isEmpty && hasBody E g) with
        | false =>
          simp only [cond_false]
          refine (call_good hE hS a hs).1 g _ (args.map fr.eval) ?_ hrunc
          rw [Array.toList_map]; exact getOs_sound hq args.toList
        | true =>
          simp only [cond_true]
          simp only [Bool.and_eq_true] at hb
          obtain ⟨hb1, hb2, hb3⟩ := hb
          have hgs := Nat.eq_of_beq_eq_true hb1
          subst hgs
          have hargs : args = #[] := by apply Array.toList_inj.1; exact List.isEmpty_iff.1 hb2
          subst hargs
          have hb4 := hb3
          unfold hasBody at hb4
          split at hb4
          · rename_i fu hfu
            have hPf := hE.fs _ _ hfu
            obtain ⟨c, hbody⟩ := Option.isSome_iff_exists.1 hb4
            have hnm := hE.names _ _ hfu hb4
            obtain ⟨e, w', fr', ⟨he, hext⟩, hcomes, hfn', hleave⟩ := hS.one w a.ext hb3 (fr :: (frs ++ C.cs0))
            subst he
            show Good E P C (ih (.mk rest (.mk fn ds .run dd rnd) cs) (put d (.bool true) L) h nx) _
            have hcf : (callFunc E.sum (#[].map fr.eval)).run P w = .ok (.enter E.sum #[]) w := by
              simp only [callFunc, Sem.run_bind, run_program, Result.andThen_ok, hPf, hnm, Bool.false_eq_true, if_false, hbody, Option.isNone_some, Sem.run_pure, Array.map_empty]
            refine Good.next (next_of (by rw [hs]; exact apply_enter a.plainTop (hrunc.trans hcf))) ?_
            refine Good.of_steps hcomes ?_
            refine Good.next (step_leave_returned hleave) ?_
            have hh := a.hr.ext hext
            exact a.go μ (.bool true) (.bool true) h nx w' ds fr cs frs (Mu.le_refl _) (by simp only [VR]) hh a.gr (a.ext.trans (hext.weaken a.size)) a.fi rfl rfl a.st a.kept
          · cases hb4
      | tmp t => exact dyn
      | const v => exact dyn
      | global g => exact dyn
  | panic x =>
    refine panic_good (x := x) hq a (hoper (fun c hh => by cases hh)) (fun y t hy => ?_)
    show (do pure (Next.value (← Instr.panic (fr.eval x))) : Sem Next).run P w = _
    rw [hy]
    simp only [Instr.panic, Sem.run_bind, run_goPanic, Result.andThen_halt]
  | next it s => exact next_good hq a (hoper (fun c hh => by cases hh)) rfl
  | defer c =>
    obtain ⟨callee, args, ats⟩ := c
    have hsd : rnd = none → stepG P true (gor fr (frs ++ C.cs0)) w = stepG.apply P true fr (frs ++ C.cs0) none (execOp fr.eval ⟨dst, .defer { callee := callee, args := args, argTypes := ats }, ty, pos, af, gd⟩) w := by
      intro hn
      refine stepG_oper hm a.todo a.op hw (.inl ?_)
      have hfi := a.fi
      cases hfi with
      | mk h1 h2 h3 h4 h5 h6 h7 => subst hn; exact h5
    have hargs : VRs μ (getOs (args.toList.map q) L) (args.map fr.eval).toList := by rw [Array.toList_map]; exact getOs_sound hq args.toList
    cases callee with
    | builtin b =>
      cases b <;> first | trivial | skip
      all_goals
        show Good E P C ((match ats.toList, args.toList with | t :: _, m :: k :: _ => CI.deferD t (q m) (q k) | _, _ => .bad).run E d l ih _ L h nx) _
        split
        · rename_i t ts m k' r h1 h2
          show Good E P C (later d ih (.del t (getO (q m) L) (getO (q k') L)) (.mk rest (.mk fn ds .run dd rnd) cs) L h nx) _
          refine later_good (dv := { target := .builtin .delete ats ty (args.map fun | .const _ => true | _ => false), args := args.map fr.eval }) a hsd ?_ rfl
          simp only [DfR]
          refine ⟨_, _, _, _, fr.eval m, fr.eval k', rfl, ?_, ?_, ?_, hq m, hq k'⟩
          · rw [← Array.getElem?_toList, Array.toList_map, h2]; rfl
          · rw [← Array.getElem?_toList, Array.toList_map, h2]; rfl
          · rw [← Array.getElem?_toList, h1]; rfl
        · trivial
    | invoke recv name =>
      show Good E P C ((CI.deferI (q recv) name (args.toList.map q)).run E d l ih _ L h nx) _
      show Good E P C (later d ih (.fn (.fn (.method name)) [] (getO (q recv) L :: getOs (args.toList.map q) L)) (.mk rest (.mk fn ds .run dd rnd) cs) L h nx) _
      refine later_good (dv := { target := .fn (.method name) #[], args := #[fr.eval recv] ++ args.map fr.eval }) a hsd ?_ rfl
      simp only [DfR]
      exact ⟨_, _, _, rfl, rfl, .nil, by simp only [Array.toList_append]; exact .cons (hq recv) hargs⟩
    | value f =>
      show Good E P C (asFunc (getO (q f) L) .fail fun g first cap => later d ih (.fn g cap (first ++ getOs (args.toList.map q) L)) _ L h nx) _
      have hqf := hq f
      cases hv : getO (q f) L with
      | func g first cap =>
        rw [hv] at hqf
        simp only [VR] at hqf
        obtain ⟨G, fs, cps, hfe, hG, h1, h2⟩ := hqf
        refine later_good (dv := { target := .fn G cps, args := fs ++ args.map fr.eval }) a hsd ?_ ?_
        · simp only [DfR]
          exact ⟨_, _, _, rfl, hG, h2, by rw [Array.toList_append]; exact h1.append hargs⟩
        · show (do pure (.defer (← resolve fr.eval { callee := .value f, args := args, argTypes := ats } ty)) : Sem Next).run P w = _
          rw [resolve_value hfe]
          simp only [Sem.run_bind, Sem.run_pure, Result.andThen_ok]
      | _ => trivial
  | _ => trivial
end
end
end Go.Ev

namespace Go.Ev
set_option linter.unusedVariables false
set_option linter.unusedSectionVars false
set_option linter.unusedSimpArgs false
noncomputable section
variable [Val] [Fk]
section
variable {E : Env} {P : Program} (hE : EnvOk E P) {C : Call0} (hS : SumOk E P C)
theorem insU_ct {q : Operand → Opd} {d : Dst} {o : Oper} {c : CI} (h : insU q E d o = .ct d c) : c = ctlI q E o.op := by
  unfold insU at h
  split at h <;> first | (cases h; done) | skip
  cases h; rfl
include hE hS in
theorem ins_good {ih : Ko} {l : List Ins} {rest : List Ci} {fn : Nat} {ds : List Df} {dd : Bool} {rnd : Option Key} {cs : List Fr} {d : Dst} {L : Lo} {h : Hp} {nx : Key}
    {μ : Mu} {fr : Frame} {frs : List Frame} {F Fs : List Key} {w : World} {arr : Array Oper} {i : Nat} {is : List Nat} {k : List Item} {o : Oper}
    {q : Operand → Opd} (hq : ∀ x, VR μ (getO (q x) L) (fr.eval x)) (a : At E P C ih l rest fn ds dd rnd cs d L h nx μ fr frs F Fs w arr i is k o) :
    Good E P C ((insOf q E arr d o).run E l ih (.mk rest (.mk fn ds .run dd rnd) cs) L h nx) (lone fr (frs ++ C.cs0) w) :=
  g_good hq a fun hw => u_good hE hq a hw fun c hc => by rw [insU_ct hc]; exact ct_good hE hS hq a hw
include hE hS in
theorem ins_goodB {ih : Ko} {l : List Ins} {rest : List Ci} {fn : Nat} {ds : List Df} {dd : Bool} {rnd : Option Key} {cs : List Fr} {d : Dst} {L : Lo} {h : Hp} {nx : Key}
    {μ : Mu} {fr : Frame} {frs : List Frame} {F Fs : List Key} {w : World} {arr : Array Oper} {i : Nat} {is : List Nat} {k : List Item} {o : Oper}
    {q : Operand → Opd} (hq : ∀ x, VR μ (getO (q x) L) (fr.eval x)) (a : At E P C ih l rest fn ds dd rnd cs d L h nx μ fr frs F Fs w arr i is k o) :
    Good E P C ((insOfB q E arr d o).run E l ih (.mk rest (.mk fn ds .run dd rnd) cs) L h nx) (lone fr (frs ++ C.cs0) w) :=
  g_goodG hq a fun hw => u_goodB hE hq a hw fun c hc => by rw [insU_ct hc]; exact ct_good hE hS hq a hw
theorem isMv_some {o : Oper} {t : Nat} {x : Operand} (h : isMv o = some (t, x)) : o.guard = none ∧ o.dst = some t ∧ o.op = .move x := by
  unfold isMv at h
  split at h
  · rename_i h1 h2 h3; cases h; exact ⟨h1, h2, h3⟩
  · cases h
include hE hS in
theorem ops_good {rest : List Ci} {fn : Nat} {dd : Bool} {rnd : Option Key} {arr : Array Oper} {k : List Item} {Fs : List Key} :
    ∀ (n i : Nat) (cl : Cl) (L : Lo) (h : Hp) (nx : Key) (μ : Mu) (fr : Frame) (w : World) (ds : List Df) (cs : List Fr) (frs : List Frame), i + n = arr.size → fr.todo = .inRegion arr (List.range' i n) :: k →
    FiR E μ (.mk fn ds .run dd rnd) fr → KnR (cxOf E fn).nd μ cl L fr.tmps → TodoR E (cxOf E fn) μ (aftOs (cxOf E fn).nd cl (arr.toList.drop i)) rest k →
    HR C.W.heap.size μ h w → GR E μ → Ext C.W.heap.size C.W w → StR E μ cs frs Fs → Kept1 μ h Fs →
    Good E P C (ops E (compOs E arr (cxOf E fn) cl (arr.toList.drop i)) (.mk rest (.mk fn ds .run dd rnd) cs) L h nx) (lone fr (frs ++ C.cs0) w)
  | 0, i, cl, L, h, nx, μ, fr, w, ds, cs, frs, hi, ht, hf, hk, htd, hr, hg, he, hs, hkp => by
    have hd : arr.toList.drop i = [] := List.drop_eq_nil_of_le (by simp; omega)
    rw [hd] at htd ⊢
    have hmode : fr.mode = .run := by cases hf with | mk h1 h2 h3 h4 h5 h6 h7 => exact h3
    refine ⟨_, .one (s_regionEnd hmode ht), ?_⟩
    refine Sim.mk (F := []) (Fs := Fs) hr hg he ?_ hs (by simpa using hkp)
    cases hf with
    | mk h1 h2 h3 h4 h5 h6 h7 => exact .mk (.mk h1 h2 h3 h4 h5 h6 h7) (.plain hk htd)
  | n + 1, i, cl, L, h, nx, μ, fr, w, ds, cs, frs, hi, ht, hf, hk, htd, hr, hg, he, hs, hkp => by
    have hil : i < arr.toList.length := by simp; omega
    have hd : arr.toList.drop i = arr.toList[i] :: arr.toList.drop (i + 1) := List.drop_eq_getElem_cons hil
    have ho : arr[i]? = some arr.toList[i] := by rw [← Array.getElem?_toList, List.getElem?_eq_getElem hil]
    generalize arr.toList[i] = o at hd ho
    rw [hd] at htd ⊢
    rw [List.range'_succ] at ht
    have hmode : fr.mode = .run := by cases hf with | mk h1 h2 h3 h4 h5 h6 h7 => exact h3
    have hsz : (cxOf E fn).n ≤ fr.tmps.size := by cases hf with | mk h1 h2 h3 h4 h5 h6 h7 => exact h6
    have hq : ∀ x, VR μ (getO (opdW (cxOf E fn).nd (gl E) cl x) L) (fr.eval x) := by rw [eval_evT]; exact hk.q hg
    unfold compOs
    cases hok : okD (cxOf E fn).n o.dst with
    | false => trivial
    | true =>
      simp only [cond_true]
      cases hmv : isMv o with
      | some p =>
        obtain ⟨t, y⟩ := p
        obtain ⟨g1, g2, g3⟩ := isMv_some hmv
        have hstep : Steps P (lone fr (frs ++ C.cs0) w) (lone (fr.finish (fr.eval y)) (frs ++ C.cs0) w) := by
          refine exec_step hmode ht ho (by simp [Region.wanted, g1]) (fun c hh => by rw [g3] at hh; cases hh) (nxt := .value (fr.eval y)) ?_ rfl _
          obtain ⟨dst, op, ty, pos, af, gd⟩ := o
          simp only at g3; subst g3; rfl
        have htm := finish_tmps fr (fr.eval y) ht ho
        rw [g2] at htm hok
        simp only at htm
        have hal := hk.alias hg (x := y) hok hsz
        have haft : aftOs (cxOf E fn).nd cl (o :: arr.toList.drop (i + 1)) = aftOs (cxOf E fn).nd (aliasCl (cxOf E fn).nd t y cl) (arr.toList.drop (i + 1)) := by
          show aftOs _ (aftO _ cl o) _ = _
          unfold aftO; rw [hmv]
        rw [haft] at htd
        have ih := ops_good n (i + 1) (aliasCl (cxOf E fn).nd t y cl) (bif inNd (cxOf E fn).nd t then Go.Ev.put (slot t .o) (getO (opdW (cxOf E fn).nd (gl E) cl y) L) L else L) h nx μ (fr.finish (fr.eval y)) w ds cs frs (by omega)
          (finish_todo fr _ ht) (hf.finish _ ht ho) (by rw [htm, eval_evT]; exact hal) htd hr hg he hs hkp
        refine Good.of_steps hstep ?_
        simp only
        cases hnd : inNd (cxOf E fn).nd t with
        | true =>
          rw [hnd] at ih
          simp only [cond_true] at ih ⊢
          show Good E P C (opt (getO (opdW (cxOf E fn).nd (gl E) cl y) L).some .fail fun v => ops E _ _ (put (slot t .o) v L) h nx) _
          rw [AV.some_eq, opt_some]
          exact ih
        | false =>
          rw [hnd] at ih
          simp only [cond_false] at ih ⊢
          exact ih
      | none =>
        simp only
        have haft : aftOs (cxOf E fn).nd cl (o :: arr.toList.drop (i + 1)) = aftOs (cxOf E fn).nd (pushCl o.dst cl) (arr.toList.drop (i + 1)) := by
          show aftOs _ (aftO _ cl o) _ = _
          unfold aftO; rw [hmv]
        rw [haft] at htd
        -- what is known behind it
        have kput : ∀ ν a v, μ.le ν → VR ν a v → KnR (cxOf E fn).nd ν (pushCl o.dst cl) (put (dstN (cxOf E fn).nd o.dst) a L) (fr.finish v).tmps := by
          intro ν a v hle hv
          rw [finish_tmps fr v ht ho]
          cases hdst : o.dst with
          | none => exact (hk.mono hle).putNone a
          | some t => rw [hdst] at hok; exact (hk.mono hle).put hok hsz hv
        refine ins_goodB hE hS (F := []) (Fs := Fs) hq (is := List.range' (i + 1) n) (k := k) (arr := arr) (i := i) ⟨hr, hg, he, hf, hs, by simpa using hkp, ht, ho, fun ν hle => ?_, fun ν a v hle hv => ?_, ⟨NoX, hk.need, fun _ _ h => h⟩, ?_⟩
        · rw [ht, ← List.range'_succ]
          exact .waitP (hk.mono hle) (by omega) ho hok (htd.mono hle)
        · rw [finish_todo fr v ht]
          exact .plain (kput ν a v hle hv) (.mid (by omega) (htd.mono hle))
        · intro ν a v h' nx' w' ds' fr' cs' frs' hle hv hr' hg' he' hf' htm' htd' hs' hkp'
          have ht' : fr'.todo = .inRegion arr (i :: List.range' (i + 1) n) :: k := by rw [htd', ht]
          have htm2 : (fr'.finish v).tmps = (fr.finish v).tmps := by rw [finish_tmps fr' v ht' ho, finish_tmps fr v ht ho, htm']
          exact ops_good n (i + 1) _ _ h' nx' ν (fr'.finish v) w' ds' cs' frs' (by omega) (finish_todo fr' v ht') (hf'.finish v ht' ho) (by rw [htm2]; exact kput ν a v hle hv) (htd.mono hle) hr' hg' he' hs' (by simpa using hkp')
end
end
end Go.Ev

namespace Go.Ev
set_option linter.unusedVariables false
set_option linter.unusedSectionVars false
set_option linter.unusedSimpArgs false
noncomputable section
variable [Val] [Fk]
/-! ## bits -/
theorem inM_tb (m i : Nat) : inM m i = m.testBit i := by
  unfold inM
  show Nat.beq (m &&& 2 ^ i) (2 ^ i) = _
  cases h : m.testBit i with
  | true =>
    have e : m &&& 2 ^ i = 2 ^ i := by
      apply Nat.eq_of_testBit_eq
      intro j
      rw [Nat.testBit_and, Nat.testBit_two_pow]
      by_cases hj : i = j
      · subst hj; simp [h]
      · simp [hj]
    rw [e]; exact Nat.beq_refl _
  | false =>
    apply Bool.eq_false_iff.2
    intro hb
    have := Nat.eq_of_beq_eq_true hb
    have h2 := congrArg (fun n => Nat.testBit n i) this
    simp only [Nat.testBit_and, Nat.testBit_two_pow_self, h, Bool.false_and] at h2
    cases h2
theorem inM_lor (d i j : Nat) : inM (Nat.lor d (Nat.pow 2 i)) j = (inM d j || decide (i = j)) := by
  rw [inM_tb, inM_tb]
  show Nat.testBit (d ||| 2 ^ i) j = _
  rw [Nat.testBit_or, Nat.testBit_two_pow]
theorem subM_inM {m n p : Nat} (h : subM m n = true) (hp : inM m p = true) : inM n p = true := by
  unfold subM at h
  have h : m &&& n = m := Nat.eq_of_beq_eq_true h
  rw [inM_tb] at hp ⊢
  rw [← h, Nat.testBit_and] at hp
  simp only [Bool.and_eq_true] at hp
  exact hp.2
theorem inM_land (m n p : Nat) : inM (Nat.land m n) p = (inM m p && inM n p) := by
  rw [inM_tb, inM_tb, inM_tb]
  exact Nat.testBit_and _ _ _
theorem inM_zero (p : Nat) : inM 0 p = false := by rw [inM_tb]; simp
theorem subM_of {m n : Nat} (h : ∀ p, inM m p = true → inM n p = true) : subM m n = true := by
  unfold subM
  have e : m &&& n = m := by
    apply Nat.eq_of_testBit_eq
    intro j
    rw [Nat.testBit_and]
    cases hj : m.testBit j with
    | false => rfl
    | true =>
      have := h j (by rw [inM_tb]; exact hj)
      rw [inM_tb] at this
      simp [this]
  show Nat.beq (m &&& n) m = true
  rw [e]; exact Nat.beq_refl _
/-! ## what is ahead of an operation -/
theorem before_size (ops : Array Oper) : (Region.before ops).size = ops.size := by
  unfold Region.before
  have key : ∀ (l : List Oper) (acc : Array Nat), (l.foldl (fun acc o => acc.push (o.after.foldl (fun s e => if Region.binds .any e then s ||| 2 ^ e.on ||| acc.getD e.on 0 else s) 0)) acc).size = acc.size + l.length := by
    intro l
    induction l with
    | nil => intro acc; rfl
    | cons o l ih => intro acc; rw [List.foldl_cons, ih]; simp; omega
  rw [← Array.foldl_toList, key]; simp
theorem mem_marked {arr : Array Oper} {i m : Nat} {o : Oper} : (i, o, m) ∈ marked arr ↔ arr[i]? = some o ∧ m = pre arr i := by
  unfold marked pre
  constructor
  · intro h
    obtain ⟨n, hn⟩ := List.getElem?_of_mem h
    rw [List.getElem?_zip_eq_some, List.getElem?_zip_eq_some] at hn
    obtain ⟨h1, h2, h3⟩ := hn
    have h1 : n = i := by
      rw [List.getElem?_eq_some_iff] at h1
      obtain ⟨_, h1⟩ := h1
      simpa using h1
    subst h1
    rw [Array.getElem?_toList] at h2 h3
    exact ⟨h2, by rw [Array.getD_eq_getD_getElem?, h3]; rfl⟩
  · rintro ⟨h1, rfl⟩
    have hlt : i < arr.size := (Array.getElem?_eq_some_iff.1 h1).1
    refine List.mem_of_getElem? (i := i) ?_
    rw [List.getElem?_zip_eq_some, List.getElem?_zip_eq_some]
    refine ⟨by rw [List.getElem?_range hlt], by rw [Array.getElem?_toList]; exact h1, ?_⟩
    rw [Array.getElem?_toList, Array.getD_eq_getD_getElem?]
    rw [Array.getElem?_eq_getElem (by rw [before_size]; exact hlt)]; rfl
def preF (acc : Array Nat) (o : Oper) : Nat := o.after.foldl (fun s e => if Region.binds .any e then s ||| 2 ^ e.on ||| acc.getD e.on 0 else s) 0
theorem preF_bit {acc : Array Nat} {o : Oper} {p : Nat} (h : inM (preF acc o) p = true) : ∃ e ∈ o.after, Region.binds .any e = true ∧ (p = e.on ∨ inM (acc.getD e.on 0) p = true) := by
  have key : ∀ (l : List Edge) (s : Nat), inM (l.foldl (fun s e => if Region.binds .any e then s ||| 2 ^ e.on ||| acc.getD e.on 0 else s) s) p = true →
      inM s p = true ∨ ∃ e ∈ l, Region.binds .any e = true ∧ (p = e.on ∨ inM (acc.getD e.on 0) p = true) := by
    intro l
    induction l with
    | nil => intro s h; exact .inl h
    | cons e l ih =>
      intro s h
      rw [List.foldl_cons] at h
      rcases ih _ h with h | ⟨e', h1, h2⟩
      · cases hb : Region.binds .any e with
        | false => rw [hb] at h; exact .inl (by simpa using h)
        | true =>
          rw [hb] at h
          simp only [if_true] at h
          rw [inM_tb, Nat.testBit_or, Nat.testBit_or, Nat.testBit_two_pow] at h
          simp only [Bool.or_eq_true, decide_eq_true_eq] at h
          rcases h with (h | h) | h
          · exact .inl (by rw [inM_tb]; exact h)
          · exact .inr ⟨e, List.mem_cons_self .., hb, .inl h.symm⟩
          · exact .inr ⟨e, List.mem_cons_self .., hb, .inr (by rw [inM_tb]; exact h)⟩
      · exact .inr ⟨e', List.mem_cons_of_mem _ h1, h2⟩
  unfold preF at h
  rw [← Array.foldl_toList] at h
  rcases key _ _ h with h | ⟨e, h1, h2⟩
  · rw [inM_zero] at h; cases h
  · exact ⟨e, by simpa using h1, h2⟩
theorem before_get (arr : Array Oper) {i : Nat} {o : Oper} (ho : arr[i]? = some o) : ∃ acc : Array Nat, acc.size = i ∧ pre arr i = preF acc o ∧ ∀ j, j < i → acc.getD j 0 = pre arr j := by
  have key : ∀ (l : List Oper) (acc : Array Nat) (i : Nat) (o : Oper), acc.size ≤ i → l[i - acc.size]? = some o →
      (∀ j, j < acc.size → (l.foldl (fun acc o => acc.push (preF acc o)) acc).getD j 0 = acc.getD j 0) ∧
      ∃ acc' : Array Nat, acc'.size = i ∧ (l.foldl (fun acc o => acc.push (preF acc o)) acc).getD i 0 = preF acc' o ∧ ∀ j, j < i → acc'.getD j 0 = (l.foldl (fun acc o => acc.push (preF acc o)) acc).getD j 0 := by
    have keep : ∀ (l : List Oper) (acc : Array Nat) (j : Nat), j < acc.size → (l.foldl (fun acc o => acc.push (preF acc o)) acc).getD j 0 = acc.getD j 0 := by
      intro l
      induction l with
      | nil => intro acc j _; rfl
      | cons o l ih =>
        intro acc j hj
        rw [List.foldl_cons, ih _ _ (by simp; omega)]
        simp only [Array.getD_eq_getD_getElem?]
        rw [Array.getElem?_push, if_neg (by omega)]
    intro l
    induction l with
    | nil => intro acc i o _ h; simp at h
    | cons o l ih =>
      intro acc i o' hi h
      refine ⟨fun j hj => keep _ _ _ hj, ?_⟩
      by_cases he : i = acc.size
      · subst he
        simp only [Nat.sub_self, List.getElem?_cons_zero, Option.some.injEq] at h
        subst h
        refine ⟨acc, rfl, ?_, fun j hj => (keep _ _ _ hj).symm⟩
        rw [List.foldl_cons, keep _ _ _ (by simp)]
        simp [Array.getD_eq_getD_getElem?]
      · have h2 : l[i - (acc.push (preF acc o)).size]? = some o' := by
          have : i - acc.size = (i - (acc.push (preF acc o)).size) + 1 := by simp; omega
          rw [this] at h
          simpa using h
        exact (ih (acc.push (preF acc o)) i o' (by simp; omega) h2).2
  obtain ⟨_, acc', h1, h2, h3⟩ := key arr.toList #[] i o (by simp) (by simpa using ho)
  have e : Region.before arr = arr.toList.foldl (fun acc o => acc.push (preF acc o)) #[] := by
    unfold Region.before
    rw [← Array.foldl_toList]; rfl
  refine ⟨acc', h1, ?_, fun j hj => ?_⟩
  · unfold pre; rw [e]; exact h2
  · unfold pre; rw [e]; exact h3 j hj
theorem pre_step {arr : Array Oper} {i p : Nat} {o : Oper} (ho : arr[i]? = some o) (h : inM (pre arr i) p = true) : ∃ e ∈ o.after, Region.binds .any e = true ∧ (p = e.on ∨ inM (pre arr e.on) p = true) := by
  obtain ⟨acc, h1, h2, h3⟩ := before_get arr ho
  rw [h2] at h
  obtain ⟨e, he, hb, hp⟩ := preF_bit h
  refine ⟨e, he, hb, hp.imp id fun hp => ?_⟩
  by_cases hlt : e.on < i
  · rw [← h3 _ hlt]; exact hp
  · rw [Array.getD_eq_getD_getElem?, Array.getElem?_eq_none (by omega)] at hp
    simp only [Option.getD_none] at hp
    rw [inM_zero] at hp; cases hp
/-! ## the orders that are drawn -/
def lst (L : Array Bool) (i : Nat) : Bool := L.getD i false
structure LdR (arr : Array Oper) (l : Array Bool) : Prop where
  size : l.size = arr.size
  cl : ∀ i p, l.getD i false = true → inM (pre arr i) p = true → l.getD p false = true
theorem ldr_nil (arr : Array Oper) : LdR arr (Array.replicate arr.size false) := by
  refine ⟨by simp, fun i p h => ?_⟩
  rw [Array.getD_eq_getD_getElem?] at h
  rw [Array.getElem?_replicate] at h
  split at h <;> cases h
def readyL (arr : Array Oper) (listed : Array Bool) : List Nat := (List.range arr.size).filter fun i =>
        !listed.getD i true && ((arr[i]?).map (·.after.all fun e => !Region.binds .any e || listed.getD e.on false)).getD false
theorem getB_set {l : Array Bool} {i j : Nat} {b : Bool} (hi : i < l.size) : (l.setIfInBounds i b).getD j false = if i = j then b else l.getD j false := by
  rw [Array.getD_eq_getD_getElem?, Array.getD_eq_getD_getElem?, Array.getElem?_setIfInBounds]
  split
  · rename_i h; subst h; simp [hi]
  · rfl
theorem ready_of {arr : Array Oper} {l : Array Bool} {i : Nat} (h : i ∈ readyL arr l) : i < arr.size ∧ l.getD i true = false ∧ ∃ o, arr[i]? = some o ∧ ∀ e ∈ o.after, Region.binds .any e = true → l.getD e.on false = true := by
  unfold readyL at h
  rw [List.mem_filter] at h
  obtain ⟨h1, h2⟩ := h
  have hlt : i < arr.size := by simpa using h1
  simp only [Bool.and_eq_true, Bool.not_eq_true'] at h2
  obtain ⟨h2, h3⟩ := h2
  refine ⟨hlt, h2, arr[i], Array.getElem?_eq_getElem hlt, fun e he hb => ?_⟩
  rw [Array.getElem?_eq_getElem hlt] at h3
  simp only [Option.map_some, Option.getD_some, Array.all_eq_true'] at h3
  have := h3 e he
  rw [hb] at this
  simpa using this
theorem ready_pre {arr : Array Oper} {l : Array Bool} (hl : LdR arr l) {i p : Nat} (h : i ∈ readyL arr l) (hp : inM (pre arr i) p = true) : l.getD p false = true := by
  obtain ⟨h1, h2, o, ho, h3⟩ := ready_of h
  obtain ⟨e, he, hb, hp⟩ := pre_step ho hp
  rcases hp with rfl | hp
  · exact h3 e he hb
  · exact hl.cl _ _ (h3 e he hb) hp
theorem LdR.set {arr : Array Oper} {l : Array Bool} (hl : LdR arr l) {i : Nat} (h : i ∈ readyL arr l) : LdR arr (l.setIfInBounds i true) := by
  have hi : i < l.size := by rw [hl.size]; exact (ready_of h).1
  refine ⟨by simpa using hl.size, fun j p hj hp => ?_⟩
  rw [getB_set hi] at hj ⊢
  split
  · rfl
  · split at hj
    · rename_i e; subst e; exact ready_pre hl h hp
    · exact hl.cl _ _ hj hp
theorem getD_lt {l : Array Bool} {i : Nat} (h : l.getD i false = true) : i < l.size := by
  rw [Array.getD_eq_getD_getElem?] at h
  cases hh : l[i]? with
  | none => rw [hh] at h; cases h
  | some b => exact (Array.getElem?_eq_some_iff.1 hh).1
theorem getD_tf {l : Array Bool} {i : Nat} (h : l.getD i true = false) : l.getD i false = false := by
  rw [Array.getD_eq_getD_getElem?] at h ⊢
  cases hh : l[i]? with
  | none => rw [hh] at h; cases h
  | some b => rw [hh] at h; exact h
theorem go_lin (arr : Array Oper) : ∀ (fuel t : Nat) (l : Array Bool), LdR arr l →
    (∀ i ∈ Region.linearise.go .any arr fuel t l [], i < arr.size ∧ l.getD i false = false) ∧ (Region.linearise.go .any arr fuel t l []).Nodup ∧
    ∀ a j b, Region.linearise.go .any arr fuel t l [] = a ++ j :: b → ∀ p, inM (pre arr j) p = true → p < arr.size ∧ p ∉ j :: b := by
  intro fuel
  induction fuel with
  | zero => intro t l _; simp [Region.linearise.go]
  | succ fuel ih =>
    intro t l hl
    simp only [Region.linearise.go]
    change (∀ i ∈ (match (readyL arr l)[t % (readyL arr l).length]? with
      | some i => Region.linearise.go .any arr fuel (t / (readyL arr l).length) (l.setIfInBounds i true) [i]
      | none => [].reverse), _) ∧ (match (readyL arr l)[t % (readyL arr l).length]? with
      | some i => Region.linearise.go .any arr fuel (t / (readyL arr l).length) (l.setIfInBounds i true) [i]
      | none => [].reverse).Nodup ∧ ∀ a j b, (match (readyL arr l)[t % (readyL arr l).length]? with
      | some i => Region.linearise.go .any arr fuel (t / (readyL arr l).length) (l.setIfInBounds i true) [i]
      | none => [].reverse) = a ++ j :: b → _
    cases hi : (readyL arr l)[t % (readyL arr l).length]? with
    | none => simp
    | some i =>
      simp only []
      have hr := List.mem_of_getElem? hi
      have hr2 := ready_of hr
      have hil : i < l.size := by rw [hl.size]; exact hr2.1
      rw [linearise_go_acc, List.reverse_singleton, List.singleton_append]
      obtain ⟨h1, h2, h3⟩ := ih (t / (readyL arr l).length) (l.setIfInBounds i true) (hl.set hr)
      generalize hg : Region.linearise.go .any arr fuel (t / (readyL arr l).length) (l.setIfInBounds i true) [] = rest at h1 h2 h3
      have hnot : i ∉ rest := fun hm => by have := (h1 i hm).2; rw [getB_set hil, if_pos rfl] at this; cases this
      refine ⟨?_, List.nodup_cons.2 ⟨hnot, h2⟩, ?_⟩
      · intro j hj
        rcases List.mem_cons.1 hj with rfl | hj
        · exact ⟨hr2.1, getD_tf hr2.2.1⟩
        · obtain ⟨k1, k2⟩ := h1 j hj
          rw [getB_set hil] at k2
          split at k2
          · cases k2
          · exact ⟨k1, k2⟩
      · intro a j b hab p hp
        cases a with
        | nil =>
          simp only [List.nil_append, List.cons.injEq] at hab
          obtain ⟨rfl, rfl⟩ := hab
          have hpl := ready_pre hl hr hp
          refine ⟨by rw [← hl.size]; exact getD_lt hpl, ?_⟩
          intro hm
          rcases List.mem_cons.1 hm with rfl | hm
          · rw [getD_tf hr2.2.1] at hpl; cases hpl
          · have := (h1 p hm).2
            rw [getB_set hil] at this
            split at this
            · cases this
            · rw [hpl] at this; cases this
        | cons x a =>
          simp only [List.cons_append, List.cons.injEq] at hab
          exact h3 a j b hab.2 p hp
theorem go_all (arr : Array Oper) (hb : ∀ i o, arr[i]? = some o → ∀ e ∈ o.after, Region.binds .any e = true → e.on < i) : ∀ (fuel t : Nat) (l : Array Bool), LdR arr l →
    ((List.range arr.size).filter fun i => !l.getD i false).length ≤ fuel → ∀ i, i < arr.size → l.getD i false = false → i ∈ Region.linearise.go .any arr fuel t l [] := by
  intro fuel
  induction fuel with
  | zero =>
    intro t l hl hn i hi hf
    have hmem : i ∈ (List.range arr.size).filter fun i => !l.getD i false := by rw [List.mem_filter]; exact ⟨by simpa using hi, by simp [hf]⟩
    have := List.length_pos_of_mem hmem
    omega
  | succ fuel ih =>
    intro t l hl hn i hi hf
    simp only [Region.linearise.go]
    change i ∈ (match (readyL arr l)[t % (readyL arr l).length]? with
      | some i => Region.linearise.go .any arr fuel (t / (readyL arr l).length) (l.setIfInBounds i true) [i]
      | none => [].reverse)
    -- the least of those not listed is ready
    have hne : readyL arr l ≠ [] := by
      have least : ∀ n, ∀ i, i < n → i < arr.size → l.getD i false = false → ∃ j, j ∈ readyL arr l := by
        intro n
        induction n with
        | zero => intro i h; omega
        | succ n ihn =>
          intro i hin hi hf
          by_cases hall : ∀ e ∈ arr[i].after, Region.binds .any e = true → l.getD e.on false = true
          · refine ⟨i, ?_⟩
            unfold readyL
            rw [List.mem_filter]
            refine ⟨by simpa using hi, ?_⟩
            have ht : l.getD i true = false := by
              rw [Array.getD_eq_getD_getElem?] at hf ⊢
              rw [Array.getElem?_eq_getElem (by rw [hl.size]; exact hi)] at hf ⊢
              exact hf
            rw [Array.getElem?_eq_getElem hi]
            simp only [ht, Bool.not_false, Bool.true_and, Option.map_some, Option.getD_some, Array.all_eq_true']
            intro e he
            cases hbe : Region.binds .any e with
            | false => rfl
            | true => rw [hall e he hbe]; rfl
          · have : ∃ e ∈ arr[i].after, Region.binds .any e = true ∧ l.getD e.on false = false := by
              simp only [Classical.not_forall, not_imp] at hall
              obtain ⟨e, h1, h2, h3⟩ := hall
              exact ⟨e, h1, h2, by simpa using h3⟩
            obtain ⟨e, he, hbe, hle⟩ := this
            have hlt := hb i _ (Array.getElem?_eq_getElem hi) e he hbe
            exact ihn e.on (by omega) (by omega) hle
      obtain ⟨j, hj⟩ := least (i + 1) i (by omega) hi hf
      intro h; rw [h] at hj; cases hj
    have hlen : 0 < (readyL arr l).length := List.length_pos_iff.2 hne
    cases hj : (readyL arr l)[t % (readyL arr l).length]? with
    | none =>
      have := List.getElem?_eq_none_iff.1 hj
      have := Nat.mod_lt t hlen
      omega
    | some j =>
      simp only []
      have hr := List.mem_of_getElem? hj
      have hr2 := ready_of hr
      have hjl : j < l.size := by rw [hl.size]; exact hr2.1
      rw [linearise_go_acc, List.reverse_singleton, List.singleton_append]
      by_cases hij : i = j
      · subst hij; exact List.mem_cons_self ..
      · refine List.mem_cons_of_mem _ (ih _ _ (hl.set hr) ?_ i hi (by rw [getB_set hjl, if_neg (fun h => hij h.symm)]; exact hf))
        have hsub : ((List.range arr.size).filter fun i => !(l.setIfInBounds j true).getD i false) = ((List.range arr.size).filter fun i => !l.getD i false).filter (fun x => decide (x ≠ j)) := by
          rw [List.filter_filter]
          apply List.filter_congr
          intro x _
          rw [getB_set hjl]
          by_cases hx : j = x
          · subst hx; simp
          · simp [hx, Ne.symm hx]
        rw [hsub]
        have hjm : j ∈ ((List.range arr.size).filter fun i => !l.getD i false) := by rw [List.mem_filter]; exact ⟨by simpa using hr2.1, by rw [getD_tf hr2.2.1]; rfl⟩
        have := (List.length_filter_lt_length_iff_exists (p := fun x => decide (x ≠ j))).2 ⟨j, hjm, by simp⟩
        omega
theorem lin_start {arr : Array Oper} (t : Nat) (hb : ∀ i o, arr[i]? = some o → ∀ e ∈ o.after, Region.binds .any e = true → e.on < i) :
    LinR arr (Region.schedule true arr t) ∧ ∀ i, i < arr.size → i ∈ Region.schedule true arr t := by
  have e : Region.schedule true arr t = Region.linearise.go .any arr arr.size t (Array.replicate arr.size false) [] := by
    simp only [Region.schedule, Bool.true_or, if_true, Region.linearise]
  rw [e]
  obtain ⟨h1, h2, h3⟩ := go_lin arr arr.size t _ (ldr_nil arr)
  refine ⟨⟨fun i hi => (h1 i hi).1, h2, h3⟩, fun i hi => go_all arr hb _ _ _ (ldr_nil arr) ?_ i hi ?_⟩
  · exact Nat.le_trans (List.length_filter_le _ _) (by simp)
  · rw [Array.getD_eq_getD_getElem?, Array.getElem?_replicate]; split <;> rfl
end
end Go.Ev

namespace Go.Ev
set_option linter.unusedVariables false
set_option linter.unusedSectionVars false
set_option linter.unusedSimpArgs false
noncomputable section
variable [Val] [Fk]
/-! ## what is compiled looks at an operation's operands alone -/
variable {q q' : Operand → Opd} {E : Env}
theorem partsP_congr {f : Nat → Option (Nat × Nat)} : ∀ {l : List (Nat × Operand)}, (∀ y ∈ l.map (·.2), q y = q' y) → partsP q f l = partsP q' f l
  | [], _ => rfl
  | (i, o) :: l, h => by
    simp only [List.map_cons, List.mem_cons, forall_eq_or_imp] at h
    simp only [partsP, h.1, partsP_congr h.2]
theorem call_ops {c : Call} {y : Operand} (h : (∃ f, c.callee = .value f ∧ y = f) ∨ (∃ r n, c.callee = .invoke r n ∧ y = r) ∨ y ∈ c.args.toList) : y ∈ c.operands.toList := by
  unfold Call.operands
  rcases h with ⟨f, h1, rfl⟩ | ⟨r, n, h1, rfl⟩ | h
  · rw [h1]; simp
  · rw [h1]; simp
  · simp only [Array.toList_append, List.mem_append]; exact .inr h
theorem pureI_congr {op : Op} (h : ∀ y ∈ op.operands.toList, q y = q' y) : pureI q E op = pureI q' E op := by
  cases op with
  | call c =>
    have ha : ∀ y ∈ c.args.toList, q y = q' y := fun y hy => h y (call_ops (.inr (.inr hy)))
    show callP q E c = callP q' E c
    unfold callP
    cases hc : c.callee with
    | builtin b =>
      cases hl : c.args.toList with
      | nil => cases b <;> cases c.argTypes.toList <;> rfl
      | cons x xs =>
        rw [hl] at ha
        have hx := ha x (List.mem_cons_self ..)
        have hxs : xs.map q = xs.map q' := List.map_congr_left fun y hy => ha y (List.mem_cons_of_mem _ hy)
        cases b <;> cases c.argTypes.toList <;> simp only [hx, hxs, lenP]
    | _ => rfl
  | makeFunc fn first cap =>
    have h1 : first.toList.map q = first.toList.map q' := List.map_congr_left fun y hy => h y (by simp only [Op.operands, Array.toList_append, List.mem_append]; exact .inl hy)
    have h2 : cap.toList.map q = cap.toList.map q' := List.map_congr_left fun y hy => h y (by simp only [Op.operands, Array.toList_append, List.mem_append]; exact .inr hy)
    simp only [pureI, h1, h2]
  | slice t x lo hi mx =>
    have h0 := h x (by simp [Op.operands])
    have ho : ∀ o : Option Operand, (∀ y, o = some y → y ∈ (Op.slice t x lo hi mx).operands.toList) → o.map q = o.map q' := by
      intro o hm
      cases o with
      | none => rfl
      | some y => simp only [Option.map_some, h y (hm y rfl)]
    have h1 := ho lo (by rintro y rfl; simp [Op.operands])
    have h2 := ho hi (by rintro y rfl; simp [Op.operands])
    have h3 := ho mx (by rintro y rfl; simp [Op.operands])
    simp only [pureI, sliceP, h0, h1, h2, h3]
  | build t ps =>
    have h1 : ∀ f, partsP q f ps.toList = partsP q' f ps.toList := fun f => partsP_congr fun y hy => h y (by simpa [Op.operands] using hy)
    simp only [pureI, buildP, h1]
  | binOp op t x y z =>
    simp [Op.operands] at h
    simp only [pureI, binI, h.1, h.2]
  | _ => first | rfl | (simp [Op.operands] at h; simp only [pureI, convP, lookupP, assertP, h])
theorem allocI_congr {op : Op} (h : ∀ y ∈ op.operands.toList, q y = q' y) : allocI q E op = allocI q' E op := by
  cases op with
  | buildSlice t n ps =>
    have h1 : ∀ f, partsP q f ps.toList = partsP q' f ps.toList := fun f => partsP_congr fun y hy => h y (by simpa [Op.operands] using hy)
    simp only [allocI, h1]
  | makeMap t r =>
    cases r with
    | none => rfl
    | some x => simp [Op.operands] at h; simp only [allocI, h]
  | _ => first | rfl | (simp [Op.operands] at h; simp only [allocI, h])
theorem effI_congr {op : Op} (h : ∀ y ∈ op.operands.toList, q y = q' y) : effI q E op = effI q' E op := by
  cases op with
  | call c =>
    have ha : ∀ y ∈ c.args.toList, q y = q' y := fun y hy => h y (call_ops (.inr (.inr hy)))
    unfold effI
    simp only
    generalize c.callee = cl
    generalize c.argTypes.toList = tl
    generalize c.args.toList = al at ha
    cases al with
    | nil => cases cl with
      | builtin b => cases b <;> (rcases tl with _ | ⟨t, _ | ⟨u, tl⟩⟩ <;> rfl)
      | _ => rfl
    | cons x xs =>
      have hx := ha x (List.mem_cons_self ..)
      cases xs with
      | nil => cases cl with
        | builtin b => cases b <;> (rcases tl with _ | ⟨t, _ | ⟨u, tl⟩⟩ <;> first | rfl | simp only [hx])
        | _ => simp only [hx]
      | cons y ys =>
        have hy := ha y (by simp)
        cases cl with
        | builtin b => cases b <;> (rcases tl with _ | ⟨t, _ | ⟨u, tl⟩⟩ <;> first | rfl | simp only [hx, hy])
        | _ => simp only [hx, hy]
  | _ => first | rfl | (simp [Op.operands] at h; simp only [effI, h])
theorem ctlI_congr {op : Op} (h : ∀ y ∈ op.operands.toList, q y = q' y) : ctlI q E op = ctlI q' E op := by
  cases op with
  | call c =>
    have ha : c.args.toList.map q = c.args.toList.map q' := List.map_congr_left fun y hy => h y (call_ops (.inr (.inr hy)))
    have ha1 : ∀ y ∈ c.args.toList, q y = q' y := fun y hy => h y (call_ops (.inr (.inr hy)))
    have hf : ∀ f, c.callee = .value f → q f = q' f := fun f hc => h f (call_ops (.inl ⟨f, hc, rfl⟩))
    have hr : ∀ r n, c.callee = .invoke r n → q r = q' r := fun r n hc => h r (call_ops (.inr (.inl ⟨r, n, hc, rfl⟩)))
    unfold ctlI
    simp only
    generalize c.callee = cl at hf hr
    rw [ha]
    generalize c.args.toList = al at ha ha1
    cases cl with
    | builtin b =>
      cases b <;> first | rfl | skip
      cases al with
      | nil => rfl
      | cons x xs => simp only [ha1 x (List.mem_cons_self ..)]
    | invoke r n => simp only [hr r n rfl]
    | value f => have := hf f rfl; cases f <;> first | rfl | simp only [this]
  | defer c =>
    have ha : c.args.toList.map q = c.args.toList.map q' := List.map_congr_left fun y hy => h y (call_ops (.inr (.inr hy)))
    have ha1 : ∀ y ∈ c.args.toList, q y = q' y := fun y hy => h y (call_ops (.inr (.inr hy)))
    have hf : ∀ f, c.callee = .value f → q f = q' f := fun f hc => h f (call_ops (.inl ⟨f, hc, rfl⟩))
    have hr : ∀ r n, c.callee = .invoke r n → q r = q' r := fun r n hc => h r (call_ops (.inr (.inl ⟨r, n, hc, rfl⟩)))
    unfold ctlI
    simp only
    generalize c.callee = cl at hf hr
    rw [ha]
    generalize c.args.toList = al at ha ha1
    generalize c.argTypes.toList = tl
    cases cl with
    | builtin b =>
      cases b <;> first | rfl | skip
      rcases tl with _ | ⟨t, tl⟩ <;> rcases al with _ | ⟨x, _ | ⟨y, al⟩⟩ <;> first | rfl | skip
      simp only [ha1 x (by simp), ha1 y (by simp)]
    | invoke r n => simp only [hr r n rfl]
    | value f => simp only [hf f rfl]
  | _ => first | rfl | (simp [Op.operands] at h; simp only [ctlI, h])
theorem insU_congr {d : Dst} {o : Oper} (h : ∀ y ∈ o.op.operands.toList, q y = q' y) : insU q E d o = insU q' E d o := by
  unfold insU
  rw [pureI_congr h, allocI_congr h, effI_congr h, ctlI_congr h]
theorem insOf_congr {arr : Array Oper} {d : Dst} {o : Oper} (h : ∀ y ∈ o.op.operands.toList, q y = q' y) (hg : ∀ y w, guardOf arr o = some (y, w) → q y = q' y) : insOf q E arr d o = insOf q' E arr d o := by
  unfold insOf insG
  rw [insU_congr h]
  unfold guardOf at hg
  cases hgd : o.guard with
  | none => rfl
  | some p =>
    obtain ⟨j, want⟩ := p
    rw [hgd] at hg
    simp only at hg ⊢
    cases hj : arr[j]? with
    | none => rfl
    | some p =>
      rw [hj] at hg
      simp only at hg ⊢
      cases hd : p.dst with
      | none => rfl
      | some t =>
        rw [hd] at hg
        simp only at hg ⊢
        rw [hg _ _ rfl]
end
end Go.Ev

namespace Go.Ev
set_option linter.unusedVariables false
set_option linter.unusedSectionVars false
set_option linter.unusedSimpArgs false
noncomputable section
variable [Val] [Fk]
/-! ## objects made, seen by themselves -/
def Stat : Ob → Prop
  | .cells ro gen sz dp ext c => (Tr.Wf dp c ∧ ∀ r, ext ≤ r → c.get r = none) ∧ ∀ r l gw, c.get r = some (.mk l gw) → gw ≤ gen
  | .iv _ _ => False
  | .lst _ _ _ _ _ => False
  | _ => True
theorem Stat.or {B : Nat} {μ : Mu} {w : World} {f : Key} {ob : Ob} (h : Stat ob) (hμ : ∀ g, μ f g = none) : OR B μ w f ob := by
  cases ob with
  | none => exact hμ
  | cells ro gen sz dp ext c =>
    refine ⟨h.1, ⟨fun g _ => hμ g, h.2⟩, fun g b s n hm => ?_⟩
    rw [hμ] at hm; cases hm
  | map es cl => exact ⟨fun g _ => hμ g, fun b s n hm => by rw [hμ] at hm; cases hm⟩
  | strIter s p => exact ⟨fun g _ => hμ g, fun b s n hm => by rw [hμ] at hm; cases hm⟩
  | mapIter a b c d => exact ⟨fun g _ => hμ g, fun b s n hm => by rw [hμ] at hm; cases hm⟩
  | loop a b c d e f g i j => exact ⟨fun g _ => hμ g, fun b s n hm => by rw [hμ] at hm; cases hm⟩
  | mapu es => exact ⟨fun g _ => hμ g, fun b s n hm => by rw [hμ] at hm; cases hm⟩
  | iv a b => exact h.elim
  | lst a b c d e => exact h.elim
  | deferred ds => exact ⟨fun g _ => hμ g, fun b s n hm => by rw [hμ] at hm; cases hm⟩
theorem stat_rowOf (l : List AV) : Stat (rowOf l) := by
  refine ⟨⟨.lf _, fun r hr => ?_⟩, fun r l' gw hg => ?_⟩
  · rw [Tr.get_lf, if_neg (by omega)]
  · rw [Tr.get_lf] at hg
    split at hg
    · simp only [Option.some.injEq, Row.mk.injEq] at hg; omega
    · cases hg
theorem stat_chunks {ro : Bool} {gen sz n sz' : Nat} {l : List AV} : Stat (.cells ro gen sz' (depthFor n 25 0) n (Tr.ofList (depthFor n 25 0) (chunks sz n l))) := by
  refine ⟨⟨Tr.ofList_wf _ _, fun r hr => ?_⟩, fun r l' gw hg => ?_⟩
  · cases hg : (Tr.ofList (depthFor n 25 0) (chunks sz n l)).get r with
    | none => rfl
    | some x =>
      have := Tr.ofList_some _ _ _ _ hg
      have := (List.getElem?_eq_some_iff.1 this).1
      rw [chunks_length] at this; omega
  · rw [(chunks_get _ _ _ _ _ _ (Tr.ofList_some _ _ _ _ hg)).2.1]; exact Nat.zero_le _
theorem stat_allocOb (E : Env) (t : TypeId) (z : AV) : Stat (allocOb E t z) ∧ (allocOb E t z).isNone = false := by
  unfold allocOb
  split
  · split
    · cases Nat.beq z.cells.length (_ * (_ + 1)) with
      | true => exact ⟨stat_chunks, rfl⟩
      | false => exact ⟨stat_rowOf _, rfl⟩
    · exact ⟨stat_rowOf _, rfl⟩
  · exact ⟨stat_rowOf _, rfl⟩
theorem ai_stat {p : AI} {h : Hp} {nx : Key} {L : Lo} {ob : Ob} {a : AV} (hev : p.ev h nx L = some (ob, a)) (hp : ∀ o, p = .alloc o → Stat o ∧ o.isNone = false) (hN : ∀ sz z l c, p ≠ .mkSliceN sz z l c) : Stat ob ∧ ob.isNone = false ∧ keyOfA a = some nx := by
  have fin : ∀ {o : Ob} {v : AV}, some (o, v) = some (ob, a) → Stat o → o.isNone = false → keyOfA v = some nx → Stat ob ∧ ob.isNone = false ∧ keyOfA a = some nx := by
    intro o v h1 h2 h3 h4
    simp only [Option.some.injEq, Prod.mk.injEq] at h1
    obtain ⟨rfl, rfl⟩ := h1
    exact ⟨h2, h3, h4⟩
  cases p with
  | alloc o => obtain ⟨h1, h2⟩ := hp o rfl; exact fin hev h1 h2 rfl
  | box sz n x =>
    have hev : cellsK (getO x L) none (fun l => some (boxOb sz n l, AV.ptr nx 0 0)) = some (ob, a) := hev
    generalize getO x L = v at hev
    have hb : ∀ l, Stat (boxOb sz n l) ∧ (boxOb sz n l).isNone = false := by
      intro l
      unfold boxOb
      cases Nat.beq sz 0 with
      | true => exact ⟨stat_rowOf _, rfl⟩
      | false =>
        cases Nat.beq l.length (Nat.mul n sz) with
        | true => exact ⟨stat_chunks, rfl⟩
        | false => exact ⟨stat_rowOf _, rfl⟩
    cases v <;> first | (cases hev; done) | exact fin hev (hb _).1 (hb _).2 rfl
  | bslice sz len z ps =>
    unfold AI.ev at hev
    simp only at hev
    split at hev
    · exact fin hev stat_chunks rfl rfl
    · cases hev
  | mkMap => exact fin hev trivial rfl rfl
  | mkMapN x =>
    obtain ⟨k, n, _, hev⟩ := asInt_some (show asInt (getO x L) none (fun _ _ => some (Ob.map [] 0, AV.map nx)) = some (ob, a) from hev)
    exact fin hev trivial rfl rfl
  | mkSlice sz z l c =>
    obtain ⟨k, n, _, hev⟩ := asInt_some (show asInt (getO l L) none (fun _ i => icase i (fun l => idx c L none fun c => cnd (Nat.ble l c) (cnd (Nat.ble c 100000) (some (rowsOf sz c (repL z c), AV.slice nx 0 0 l c sz true)) none) none) (fun _ => none)) = some (ob, a) from hev)
    cases n with
    | negSucc n => cases hev
    | ofNat n =>
      obtain ⟨k, m, _, hev⟩ := asInt_some (show asInt (getO c L) none (fun _ i => icase i (fun c => cnd (Nat.ble n c) (cnd (Nat.ble c 100000) (some (rowsOf sz c (repL z c), AV.slice nx 0 0 n c sz true)) none) none) (fun _ => none)) = some (ob, a) from hev)
      cases m with
      | negSucc m => cases hev
      | ofNat m =>
        have hev : cnd (Nat.ble n m) (cnd (Nat.ble m 100000) (some (rowsOf sz m (repL z m), AV.slice nx 0 0 n m sz true)) none) none = some (ob, a) := hev
        cases h1 : Nat.ble n m with
        | false => rw [h1] at hev; cases hev
        | true =>
          cases h2 : Nat.ble m 100000 with
          | false => rw [h1, h2] at hev; cases hev
          | true => rw [h1, h2] at hev; exact fin hev stat_chunks rfl rfl
  | mkSliceN sz z l c => exact absurd rfl (hN sz z l c)
  | s2b x =>
    obtain ⟨s, _, hev⟩ := asStr_some (show asStr (getO x L) none (fun s => some (bytesOb s, AV.slice nx strGen 0 s.length s.length 1 false)) = some (ob, a) from hev)
    exact fin hev stat_chunks rfl rfl
  | rangeS x =>
    obtain ⟨s, _, hev⟩ := asStr_some (show asStr (getO x L) none (fun s => some (Ob.strIter s 0, AV.ptr nx 0 0)) = some (ob, a) from hev)
    exact fin hev trivial rfl rfl
  | rangeM x =>
    unfold AI.ev at hev
    simp only at hev
    split at hev
    · exact fin hev trivial rfl rfl
    · generalize hget _ h = o at hev
      cases o <;> first | (cases hev; done) | exact fin hev trivial rfl rfl
    · cases hev
  | bad => cases hev
theorem allocI_noN {q : Operand → Opd} {E : Env} {op : Op} {sz : Nat} {z : List AV} {l c : Opd} : allocI q E op ≠ .mkSliceN sz z l c := by
  intro h
  cases op <;> simp only [allocI, cond_eq_ite] at h <;> repeat' (first | (cases h; done) | split at h)
theorem allocI_alloc {q : Operand → Opd} {E : Env} {op : Op} {o : Ob} (h : allocI q E op = .alloc o) : Stat o ∧ o.isNone = false := by
  unfold allocI at h
  split at h
  · split at h
    · cases h; exact stat_allocOb _ _ _
    · cases h
  · split at h
    · split at h <;> cases h
    · cases h
  · split at h
    · split at h
      · rename_i n z _ _
        cases hb : Nat.beq z.cells.length n && Nat.ble (_ * n) 16777216 with
        | false => rw [hb] at h; cases h
        | true =>
          rw [hb] at h
          simp only [cond_true] at h
          split at h <;> cases h
      · cases h
    · cases h
  · split at h
    · cases h
    · split at h <;> cases h
  · split at h
    · split at h
      · rename_i n z _ _
        cases hb : Nat.beq z.cells.length n && Nat.ble (bytesO E _) 1000000 with
        | false => rw [hb] at h; cases h
        | true => rw [hb] at h; cases h
      · cases h
    · cases h
  · rename_i s d x
    cases hb : convB E s d with
    | false => rw [hb] at h; cases h
    | true => rw [hb] at h; cases h
  · split at h <;> cases h
  · cases h
theorem alloc_stat {q : Operand → Opd} {E : Env} {op : Op} {h : Hp} {nx : Key} {L : Lo} {ob : Ob} {a : AV} (hev : (allocI q E op).ev h nx L = some (ob, a)) : Stat ob ∧ ob.isNone = false ∧ keyOfA a = some nx :=
  ai_stat hev (fun o ho => allocI_alloc ho) fun sz z l c => allocI_noN
theorem allocI_rangeM {q : Operand → Opd} {E : Env} {op : Op} {x : Opd} (h : allocI q E op = .rangeM x) : ∃ y, y ∈ op.operands.toList ∧ x = q y := by
  unfold allocI at h
  split at h
  · split at h <;> cases h
  · split at h
    · split at h <;> cases h
    · cases h
  · split at h
    · split at h
      · rename_i n z _ _
        cases hb : Nat.beq z.cells.length n && Nat.ble (_ * n) 16777216 with
        | false => rw [hb] at h; cases h
        | true =>
          rw [hb] at h
          simp only [cond_true] at h
          split at h <;> cases h
      · cases h
    · cases h
  · split at h
    · cases h
    · split at h <;> cases h
  · split at h
    · split at h
      · rename_i n z _ _
        cases hb : Nat.beq z.cells.length n && Nat.ble (bytesO E _) 1000000 with
        | false => rw [hb] at h; cases h
        | true => rw [hb] at h; cases h
      · cases h
    · cases h
  · rename_i s d x
    cases hb : convB E s d with
    | false => rw [hb] at h; cases h
    | true => rw [hb] at h; cases h
  · split at h
    · cases h
    · cases h; exact ⟨_, by simp [Op.operands], rfl⟩
    · cases h
  · cases h
theorem ai_heap {p : AI} {h h' : Hp} {nx : Key} {L : Lo} (hr : ∀ x f, p = .rangeM x → getO x L = .map f → hget f h' = hget f h) : p.ev h' nx L = p.ev h nx L := by
  cases p with
  | rangeM x =>
    unfold AI.ev
    simp only
    split
    · rfl
    · rename_i f he; rw [hr x f rfl he]
    · rfl
  | _ => rfl
/-! ## the same object -/
theorem treq_eq : ∀ (a b : Tr Row), treq a b = true → a = b := by
  intro a
  induction a with
  | e => intro b h; cases b <;> first | rfl | cases h
  | lf x =>
    obtain ⟨l, g⟩ := x
    intro b h
    cases b with
    | lf y =>
      obtain ⟨l', g'⟩ := y
      have h : cnd (aveqs l l') (Nat.beq g g') false = true := h
      cases hl : aveqs l l' with
      | false => rw [hl] at h; cases h
      | true =>
        rw [hl] at h
        rw [aveqs_eq _ _ hl, Nat.eq_of_beq_eq_true h]
    | _ => cases h
  | n l r ihl ihr =>
    intro b h
    cases b with
    | n l' r' =>
      have h : cnd (treq l l') (treq r r') false = true := h
      cases hl : treq l l' with
      | false => rw [hl] at h; cases h
      | true =>
        rw [hl] at h
        rw [ihl _ hl, ihr _ h]
    | _ => cases h
theorem obeq_eq {a b : Ob} (h : obeq a b = true) : a = b := by
  unfold obeq at h
  split at h
  · rename_i r g s d e c r' g' s' d' e' c'
    cases h0 : cnd r r' (bnot r') with
    | false => rw [h0] at h; cases h
    | true =>
      have e0 : r = r' := by cases r <;> cases r' <;> first | rfl | cases h0
      cases h1 : Nat.beq g g' with
      | false => rw [h0, h1] at h; cases h
      | true =>
        cases h2 : Nat.beq s s' with
        | false => rw [h0, h1, h2] at h; cases h
        | true =>
          cases h3 : Nat.beq d d' with
          | false => rw [h0, h1, h2, h3] at h; cases h
          | true =>
            cases h4 : Nat.beq e e' with
            | false => rw [h0, h1, h2, h3, h4] at h; cases h
            | true =>
              rw [h0, h1, h2, h3, h4] at h
              have h5 := treq_eq _ _ (show treq c c' = true from h)
              rw [e0, Nat.eq_of_beq_eq_true h1, Nat.eq_of_beq_eq_true h2, Nat.eq_of_beq_eq_true h3, Nat.eq_of_beq_eq_true h4, h5]
  · rw [Nat.eq_of_beq_eq_true h]
  · cases h
/-! ## what hangs on memory -/
theorem mem_free {E : Env} {p : PI} (hp : memP p = false) (h h' : Hp) (L : Lo) : p.ev E h L = p.ev E h' L := by
  cases p <;> first | rfl | cases hp
end
end Go.Ev

namespace Go.Ev
set_option linter.unusedVariables false
set_option linter.unusedSectionVars false
set_option linter.unusedSimpArgs false
noncomputable section
variable [Val] [Fk]
/-! ## memory that grows -/
def Grow (h h' : Hp) : Prop := ∀ f, (hget f h).isNone = false → hget f h' = hget f h
theorem Grow.new {h : Hp} {nx : Key} {ob : Ob} (hn : (hget nx h).isNone = true) : Grow h (hset nx ob h) := fun f hf => by
  have : nx ≠ f := fun e => by subst e; rw [hn] at hf; cases hf
  exact hget_hset_ne this _ _
theorem mapUs_not {h : Hp} {m : AV} {v : List En} (hv : mapUs h m = some v) : mapEs h m = none := by
  unfold mapUs at hv
  split at hv
  · rename_i f
    unfold mapEs
    show asMapO (hget f h) none _ = none
    cases ho : hget f h with
    | mapu a => rfl
    | _ => rw [ho] at hv; cases hv
  · cases hv
section
variable {h h' : Hp} (hg : Grow h h')
include hg
theorem asCells_grow {R : Type} {f : Key} {e : R} {k : Bool → Nat → Nat → Nat → Nat → Tr Row → R} (hne : asCells (hget f h) e k ≠ e) : asCells (hget f h') e k = asCells (hget f h) e k := by
  cases ho : hget f h with
  | cells a b c d e g => rw [hg f (by rw [ho]; rfl), ho]
  | _ => rw [ho] at hne; exact absurd rfl hne
theorem asMapO_grow {R : Type} {f : Key} {e : R} {k : List En → Nat → R} (hne : asMapO (hget f h) e k ≠ e) : asMapO (hget f h') e k = asMapO (hget f h) e k := by
  cases ho : hget f h with
  | map a b => rw [hg f (by rw [ho]; rfl), ho]
  | _ => rw [ho] at hne; exact absurd rfl hne
theorem getCell_grow {f : Key} {g o : Nat} {v : AV} (hv : getCell h f g o = some v) : getCell h' f g o = some v := by
  rw [← hv]; unfold getCell at hv ⊢; exact asCells_grow hg (by rw [hv]; simp)
theorem getCells_grow {f : Key} {g o n : Nat} {v : List AV} (hv : getCells h f g o n = some v) : getCells h' f g o n = some v := by
  unfold getCells at hv ⊢
  cases hn : Nat.beq n 0 with
  | true => rw [hn] at hv; exact hv
  | false =>
    rw [hn] at hv
    simp only [cnd_false] at hv ⊢
    rw [← hv]; exact asCells_grow hg (by rw [hv]; simp)
theorem mapEs_grow {m : AV} {v : List En} (hv : mapEs h m = some v) : mapEs h' m = some v := by
  unfold mapEs at hv ⊢
  split at hv
  · exact hv
  · rw [← hv]; exact asMapO_grow hg (by rw [hv]; simp)
  · cases hv
theorem asMapU_grow {R : Type} {f : Key} {e : R} {k : List En → R} (hne : asMapU (hget f h) e k ≠ e) : asMapU (hget f h') e k = asMapU (hget f h) e k := by
  cases ho : hget f h with
  | mapu a => rw [hg f (by rw [ho]; rfl), ho]
  | _ => rw [ho] at hne; exact absurd rfl hne
theorem mapUs_grow {m : AV} {v : List En} (hv : mapUs h m = some v) : mapUs h' m = some v := by
  unfold mapUs at hv ⊢
  split at hv
  · rw [← hv]; exact asMapU_grow hg (by rw [hv]; simp)
  · cases hv
theorem lookV_grow {E : Env} {kt : Ty} {k m : AV} {r : Option AV} (hv : lookV E kt k h m = some r) : lookV E kt k h' m = some r := by
  unfold lookV at hv ⊢
  cases h1 : mapEs h m with
  | some es => rw [h1] at hv; rw [mapEs_grow hg h1]; exact hv
  | none =>
    rw [h1] at hv
    simp only [opt_none] at hv
    cases h2 : mapUs h m with
    | none => rw [h2] at hv; cases hv
    | some es =>
      rw [h2] at hv
      rw [mapUs_not (mapUs_grow hg h2), mapUs_grow hg h2]
      exact hv
theorem asLst_grow {R : Type} {f : Key} {e : R} {k : Bool → Nat → Nat → Key → List (List AV) → R} (hne : asLst (hget f h) e k ≠ e) : asLst (hget f h') e k = asLst (hget f h) e k := by
  cases ho : hget f h with
  | lst a b c d g => rw [hg f (by rw [ho]; rfl), ho]
  | _ => rw [ho] at hne; exact absurd rfl hne
theorem rowN_grow {f : Key} {g sz : Nat} {k : Key} {c : Int} {v : List AV} (hv : rowN h f g sz k c = some v) : rowN h' f g sz k c = some v := by
  rw [← hv]; unfold rowN at hv ⊢; exact asLst_grow hg (by rw [hv]; simp)
theorem b2sN_grow {f : Key} {g sz : Nat} {k : Key} {c : Int} {q : Key} {d : Int} {v : AV} (hv : b2sN h f g sz k c q d = some v) : b2sN h' f g sz k c q d = some v := by
  unfold b2sN at hv ⊢
  cases hemp : isEmptyN k c q d with
  | true => rw [hemp] at hv; exact hv
  | false =>
  rw [hemp] at hv
  replace hv : b2sN0 h f g sz k c q d = some v := hv
  show b2sN0 h' f g sz k c q d = some v
  unfold b2sN0 at hv ⊢
  obtain ⟨h1, hv⟩ := cnd_inv hv
  obtain ⟨h2, hv⟩ := cnd_inv hv
  obtain ⟨h3, hv⟩ := cnd_inv hv
  rw [h1, h2, h3]
  simp only [cnd_true]
  rw [← hv]; exact asLst_grow hg (by rw [hv]; simp)
theorem load1_grow {x : Opd} {L : Lo} {v : AV} (hv : xLoad1 x h L = some v) : xLoad1 x h' L = some v := by
  obtain ⟨f, g, o, h1, h2⟩ := asPtr_some (show asPtr (getO x L) none (fun f g o => getCell h f g o) = some v from hv)
  show asPtr (getO x L) none (fun f g o => getCell h' f g o) = some v
  rw [h1]; exact getCell_grow hg h2
theorem loadN_grow {n : Nat} {x : Opd} {L : Lo} {v : AV} (hv : xLoadN n x h L = some v) : xLoadN n x h' L = some v := by
  obtain ⟨f, g, o, h1, h2⟩ := asPtr_some (show asPtr (getO x L) none (fun f g o => opt (getCells h f g o n) none fun l => some (.agg l)) = some v from hv)
  show asPtr (getO x L) none (fun f g o => opt (getCells h' f g o n) none fun l => some (.agg l)) = some v
  rw [h1]
  cases hc : getCells h f g o n with
  | none => rw [hc] at h2; cases h2
  | some l => rw [hc] at h2; show opt (getCells h' f g o n) none _ = _; rw [getCells_grow hg hc]; exact h2
theorem b2s_grow {x : Opd} {L : Lo} {v : AV} (hv : xB2s x h L = some v) : xB2s x h' L = some v := by
  unfold xB2s at hv ⊢
  split at hv
  · exact hv
  · split at hv
    · rename_i hc; rw [getCells_grow hg hc]; exact hv
    · cases hv
  · cases hv
theorem mem_grow {E : Env} {p : PI} {L : Lo} {v : AV} (hv : p.ev E h L = some v) : p.ev E h' L = some v := by
  cases hm : memP p with
  | false => rw [mem_free hm h' h]; exact hv
  | true =>
    cases p <;> first | (cases hm; done) | skip
    · rename_i x
      have hv : xLoad1X x h L = some v := hv
      show xLoad1X x h' L = some v
      unfold xLoad1X at hv ⊢
      cases hx : getO x L with
      | nix f g sz k c o =>
        rw [hx] at hv
        obtain ⟨l, hl, hv⟩ := opt_inv (show opt (rowN h f g sz k c) none (fun l => nthA l o) = some v from hv)
        show opt (rowN h' f g sz k c) none (fun l => nthA l o) = some v
        rw [rowN_grow hg hl]; exact hv
      | _ => rw [hx] at hv; exact load1_grow hg hv
    · rename_i n x
      have hv : xLoadNX n x h L = some v := hv
      show xLoadNX n x h' L = some v
      unfold xLoadNX at hv ⊢
      cases hx : getO x L with
      | nix f g sz k c o =>
        rw [hx] at hv
        obtain ⟨l, hl, hv⟩ := opt_inv (show opt (rowN h f g sz k c) none (fun l => cnd (Nat.ble (Nat.add o n) l.length) (some (AV.agg ((l.drop o).take n))) none) = some v from hv)
        show opt (rowN h' f g sz k c) none (fun l => cnd (Nat.ble (Nat.add o n) l.length) (some (AV.agg ((l.drop o).take n))) none) = some v
        rw [rowN_grow hg hl]; exact hv
      | _ => rw [hx] at hv; exact loadN_grow hg hv
    · rename_i x
      have hv : xB2sX x h L = some v := hv
      show xB2sX x h' L = some v
      unfold xB2sX at hv ⊢
      cases hx : getO x L with
      | nsl f g sz k c q d m => rw [hx] at hv; exact b2sN_grow hg (g := g) hv
      | _ => rw [hx] at hv; exact b2s_grow hg hv
    · rename_i n sz x lo hi mx
      obtain ⟨f, g, o, h1, h2⟩ := asPtr_some (show asPtr (getO x L) none (fun f g o => cnd (arrThere h f g o n sz) (bnd lo L 0 none fun l => bnd hi L n none fun hh => bnd mx L n none fun m => cutSl f g o n n sz true l hh m mx.isSome) none) = some v from hv)
      show asPtr (getO x L) none (fun f g o => cnd (arrThere h' f g o n sz) (bnd lo L 0 none fun l => bnd hi L n none fun hh => bnd mx L n none fun m => cutSl f g o n n sz true l hh m mx.isSome) none) = some v
      rw [h1]
      show cnd (arrThere h' f g o n sz) _ none = some v
      have ht : arrThere h f g o n sz = true := by
        cases hh : arrThere h f g o n sz with
        | true => rfl
        | false => rw [hh] at h2; cases h2
      have ht' : arrThere h' f g o n sz = true := by
        unfold arrThere at ht ⊢
        cases h3 : Nat.beq n 0 with
        | true => rfl
        | false =>
          cases h4 : Nat.beq sz 0 with
          | true => rw [h3, h4] at ht; cases ht
          | false =>
            rw [h3, h4] at ht
            simp only [cnd_false] at ht ⊢
            cases hc : getCell h f g (Nat.sub (Nat.add o (Nat.mul n sz)) 1) with
            | none => rw [hc] at ht; cases ht
            | some u => rw [getCell_grow hg hc]; rfl
      rw [ht] at h2
      rw [ht']
      exact h2
    · rename_i kt z ok x k
      have hv : opt (lookV E kt (getO k L) h (getO x L)) none (fun r => opt r (some (cnd ok (.tuple [z, .bool false]) z)) fun e => some (cnd ok (.tuple [e, .bool true]) e)) = some v := hv
      show opt (lookV E kt (getO k L) h' (getO x L)) none _ = some v
      cases hm : lookV E kt (getO k L) h (getO x L) with
      | none => rw [hm] at hv; cases hv
      | some es => rw [hm] at hv; rw [lookV_grow hg hm]; exact hv
    · rename_i x
      have hv : opt (mapEs h (getO x L)) none (fun es => some (AV.int .i64 (.ofNat es.length))) = some v := hv
      show opt (mapEs h' (getO x L)) none _ = some v
      cases hm : mapEs h (getO x L) with
      | none => rw [hm] at hv; cases hv
      | some es => rw [hm] at hv; rw [mapEs_grow hg hm]; exact hv
    · rename_i x
      have hv : xEntry x h L = some v := hv
      show xEntry x h' L = some v
      unfold xEntry at hv ⊢
      obtain ⟨f, g, o, h1, h2⟩ := asPtr_some hv
      rw [h1]
      show cnd (Nat.beq o 0) _ none = some v
      cases h3 : Nat.beq o 0 with
      | false => rw [h3] at h2; cases h2
      | true =>
        rw [h3] at h2
        simp only [cnd_true] at h2 ⊢
        split at h2
        · rename_i m s seen stepped ho
          rw [hg f (by rw [ho]; rfl), ho]
          simp only
          rw [← h2]
          exact asMapO_grow hg (by rw [h2]; simp)
        · cases h2
    · rename_i g
      have hv : asCells (hget g h) none (fun _ _ _ _ _ _ => some (AV.bool false)) = some v := hv
      show asCells (hget g h') none _ = some v
      rw [← hv]; exact asCells_grow hg (by rw [hv]; simp)
theorem ai_grow {p : AI} {nx : Key} {L : Lo} {r : Ob × AV} (hv : p.ev h nx L = some r) : p.ev h' nx L = some r := by
  cases p with
  | rangeM x =>
    unfold AI.ev at hv ⊢
    simp only at hv ⊢
    split at hv
    · exact hv
    · rename_i f he; rw [← hv]; exact asMapO_grow hg (by rw [hv]; simp)
    · cases hv
  | _ => exact hv
end
/-! ## slots put -/
theorem put_same {t : Nat} {v : AV} {L : Lo} : getT t (Go.Ev.put (dst (some t)) v L).tm = v := by
  show getT t (Go.Ev.put (slot t .s) v L).tm = v
  rw [put_s, tm_mk, getT_setT]
theorem put_ne {od : Option Nat} {n u : Nat} {v : AV} {L : Lo} (hok : okD n od = true) (hu : u < 512) (hne : od ≠ some u) : getT u (Go.Ev.put (dst od) v L).tm = getT u L.tm := by
  cases od with
  | none => rw [show dst none = .no from rfl, put_no]
  | some t =>
    have ht : t < 512 := by
      unfold okD at hok
      simp only [Bool.and_eq_true] at hok
      exact Nat.le_of_ble_eq_true hok.2
    show getT u (Go.Ev.put (slot t .s) v L).tm = _
    rw [put_s, tm_mk, getT_setT_ne ht hu (fun e => hne (by rw [e]))]
theorem qOf_put {E : Env} {x : Cx} {od : Option Nat} {v : AV} {L : Lo} (hok : okD x.n od = true) {y : Operand} (hy : ∀ t, y = .tmp t → od ≠ some t) : getO (qOf E x y) (Go.Ev.put (dst od) v L) = getO (qOf E x y) L := by
  cases y with
  | tmp u =>
    show getO (slotX x.nd u) _ = getO (slotX x.nd u) _
    rw [slotX_getO, slotX_getO]
    split
    · rename_i h; exact put_ne hok (inNd_lt h) (hy u rfl)
    · rfl
  | const c => exact (getO_c _ _).trans (getO_c _ _).symm
  | func f => exact (getO_c _ _).trans (getO_c _ _).symm
  | global g =>
    show getO (bif inM (gl E) g then .c (.ptr (Key.ofNat g) 0 0) else .c .top) _ = getO (bif inM (gl E) g then .c (.ptr (Key.ofNat g) 0 0) else .c .top) _
    cases inM (gl E) g <;> exact (getO_c _ _).trans (getO_c _ _).symm
end
end Go.Ev

namespace Go.Ev
set_option linter.unusedVariables false
set_option linter.unusedSectionVars false
set_option linter.unusedSimpArgs false
noncomputable section
variable [Val] [Fk]
/-! ## what was looked at of a region -/
section
variable {E : Env} {x : Cx} {arr : Array Oper} (s : DrSt E x arr)
include s
theorem DrSt.ok {i : Nat} {o : Oper} (ho : arr[i]? = some o) : okD x.n o.dst = true ∧ resOk E x.res o = true ∧ dstOk E (qOf E x) o = true := by
  have hmem : o ∈ arr.toList := by rw [Array.mem_toList_iff]; exact Array.mem_of_getElem? ho
  have := List.all_eq_true.1 s.ops o hmem
  simp only [Bool.and_eq_true] at this
  exact ⟨this.1, this.2.1, this.2.2⟩
theorem DrSt.ord1 {i : Nat} {o : Oper} (ho : arr[i]? = some o) : (∀ j w, o.guard = some (j, w) → inM (pre arr i) j = true) ∧ (∀ e ∈ o.after, Region.binds .any e = true → e.on < i) ∧
    ∀ t, o.dst = some t → ∀ i' o', arr[i']? = some o' →
      (i = i' → isQ E o = true → t ∉ readsOf arr o) ∧ (i ≠ i' → o'.dst ≠ some t ∧ (t ∈ readsOf arr o' → inM (pre arr i') i = true ∨ (isQ E o = false ∧ inM (pre arr i) i' = true))) := by
  have h := List.all_eq_true.1 (show ((marked arr).all _) = true from s.order) (i, o, pre arr i) (mem_marked.2 ⟨ho, rfl⟩)
  simp only [Bool.and_eq_true] at h
  obtain ⟨⟨h1, h2⟩, h3⟩ := h
  refine ⟨fun j w hg => by rw [hg] at h1; exact h1, fun e he hb => ?_, fun t ht i' o' ho' => ?_⟩
  · rw [Array.all_eq_true'] at h2
    have := h2 e he
    rw [hb] at this
    simpa using this
  · rw [ht] at h3
    have h4 := List.all_eq_true.1 h3 (i', o', pre arr i') (mem_marked.2 ⟨ho', rfl⟩)
    simp only at h4
    cases hb : Nat.beq i i' with
    | true =>
      have := Nat.eq_of_beq_eq_true hb; subst this
      rw [Nat.beq_refl] at h4
      rw [ho] at ho'; cases ho'
      refine ⟨fun _ hq hm => ?_, fun hne => absurd rfl hne⟩
      rw [hq] at h4
      simp only [cond_true, Bool.not_true, Bool.false_or, Bool.not_eq_true'] at h4
      rw [List.contains_iff_mem.2 hm] at h4; cases h4
    | false =>
      rw [hb] at h4
      simp only [cond_false, Bool.and_eq_true] at h4
      obtain ⟨h5, h6⟩ := h4
      refine ⟨fun e => ?_, fun _ => ⟨fun hd => ?_, fun hm => ?_⟩⟩
      · subst e; rw [Nat.beq_refl] at hb; cases hb
      · rw [hd] at h5
        simp only [Nat.beq_refl, Bool.not_true] at h5; cases h5
      · rw [List.contains_iff_mem.2 hm] at h6
        simp only [Bool.not_true, Bool.false_or, Bool.or_eq_true, Bool.and_eq_true, Bool.not_eq_true'] at h6
        exact h6
end
theorem reads_op {arr : Array Oper} {o : Oper} {t : Nat} (h : Operand.tmp t ∈ o.op.operands.toList) : t ∈ readsOf arr o := by
  unfold readsOf tmpsOf
  refine List.mem_append_right _ ?_
  rw [List.mem_filterMap]
  exact ⟨_, h, rfl⟩
theorem reads_guard {arr : Array Oper} {o : Oper} {t : Nat} {w : Bool} (h : guardOf arr o = some (.tmp t, w)) : t ∈ readsOf arr o := by
  unfold guardOf at h
  unfold readsOf
  refine List.mem_append_left _ ?_
  cases hg : o.guard with
  | none => rw [hg] at h; cases h
  | some p =>
    obtain ⟨j, want⟩ := p
    rw [hg] at h
    simp only at h ⊢
    cases hj : arr[j]? with
    | none => rw [hj] at h; cases h
    | some p =>
      rw [hj] at h
      simp only at h ⊢
      cases hd : p.dst with
      | none => rw [hd] at h; cases h
      | some u =>
        rw [hd] at h
        simp only [Option.some.injEq, Prod.mk.injEq, Operand.tmp.injEq] at h
        obtain ⟨rfl, _⟩ := h
        simp
theorem guardOf_tmp {arr : Array Oper} {o : Oper} {y : Operand} {w : Bool} (h : guardOf arr o = some (y, w)) : ∃ j p t, o.guard = some (j, w) ∧ arr[j]? = some p ∧ p.dst = some t ∧ y = .tmp t := by
  unfold guardOf at h
  cases hg : o.guard with
  | none => rw [hg] at h; cases h
  | some p =>
    obtain ⟨j, want⟩ := p
    rw [hg] at h
    simp only at h
    cases hj : arr[j]? with
    | none => rw [hj] at h; cases h
    | some p =>
      rw [hj] at h
      simp only at h
      cases hd : p.dst with
      | none => rw [hd] at h; cases h
      | some u =>
        rw [hd] at h
        simp only [Option.some.injEq, Prod.mk.injEq] at h
        obtain ⟨rfl, rfl⟩ := h
        exact ⟨j, p, u, rfl, hj, hd, rfl⟩
/-! ## two places that are alike for an operation -/
structure SameFor (E : Env) (x : Cx) (arr : Array Oper) (o : Oper) (L L' : Lo) : Prop where
  ops : ∀ y ∈ o.op.operands.toList, getO (qOf E x y) L' = getO (qOf E x y) L
  gd : ∀ y w, guardOf arr o = some (y, w) → getO (qOf E x y) L' = getO (qOf E x y) L
  dst : ∀ t, o.dst = some t → getT t L'.tm = getT t L.tm
section
variable {E : Env} {x : Cx} {arr : Array Oper} {o : Oper} {L L' : Lo} (sm : SameFor E x arr o L L')
include sm
theorem SameFor.gon (h : GOn E x arr o L) : GOn E x arr o L' := by
  rcases h with h | ⟨y, w, h1, h2⟩
  · exact .inl h
  · exact .inr ⟨y, w, h1, (sm.gd y w h1).trans h2⟩
theorem SameFor.goff (h : GOff E x arr o L) : GOff E x arr o L' := by
  obtain ⟨y, w, h1, h2⟩ := h
  refine ⟨y, w, h1, ?_⟩
  rw [sm.gd y w h1]; exact h2
theorem SameFor.agr {L0 : Lo} (h : Agr E x o L0 L) : Agr E x o L0 L' := fun y hy => (h y hy).trans (sm.ops y hy).symm
theorem SameFor.tgt : tgtV L' o = tgtV L o := by
  unfold tgtV
  cases hd : o.dst with
  | none => rfl
  | some t => exact sm.dst t hd
theorem SameFor.pendL (h : PendL E x arr o L) : PendL E x arr o L' := by
  rcases h with ⟨h1, h2⟩ | ⟨h1, h2⟩
  · exact .inl ⟨sm.goff h1, fun t ht => (sm.dst t ht).trans (h2 t ht)⟩
  · refine .inr ⟨sm.gon h1, ?_⟩
    split at h2
    · rcases h2 with h2 | ⟨L0, h2, h3⟩
      · exact .inl h2
      · refine .inr ⟨L0, sm.agr h2, fun h => ?_⟩
        obtain ⟨v, h4, h5⟩ := h3 h
        exact ⟨v, h4, fun t ht => (h5 t ht).trans (sm.dst t ht).symm⟩
    · trivial
    · exact h2
theorem SameFor.pendH {h : Hp} (k : PendH E x arr h o L) : PendH E x arr h o L' := by
  rcases k with k | k
  · exact .inl (sm.goff k)
  · refine .inr ?_
    split at k
    · intro hm
      obtain ⟨L0, h1, v, h2, h3⟩ := k hm
      exact ⟨L0, sm.agr h1, v, h2, fun t ht => (h3 t ht).trans (sm.dst t ht).symm⟩
    · obtain ⟨L0, f, h1, h2, h3, h4⟩ := k
      exact ⟨L0, f, sm.agr h1, by rw [sm.tgt]; exact h2, h3, by rw [sm.tgt]; exact h4⟩
    · exact k
end
theorem PendH.grow {E : Env} {x : Cx} {arr : Array Oper} {o : Oper} {L : Lo} {h h' : Hp} (hg : Grow h h') (k : PendH E x arr h o L) : PendH E x arr h' o L := by
  rcases k with k | k
  · exact .inl k
  · refine .inr ?_
    split at k
    · intro hm
      obtain ⟨L0, h1, v, h2, h3⟩ := k hm
      exact ⟨L0, h1, v, mem_grow hg h2, h3⟩
    · obtain ⟨L0, f, h1, h2, h3, h4⟩ := k
      exact ⟨L0, f, h1, h2, by rw [hg f h3]; exact h3, by rw [hg f h3]; exact ai_grow hg h4⟩
    · exact k
theorem no0 {μ : Mu} {tm : Tm} {tmps : Array Value} {X : Nat → Prop} : NeedR 0 X μ tm tmps := fun t ht => by
  unfold inNd at ht
  rw [inM_zero] at ht
  cases hb : Nat.blt t 512 <;> rw [hb] at ht <;> cases ht
section
variable {E : Env} {x : Cx} {arr : Array Oper} (s : DrSt E x arr)
include s
theorem same_put {i i' : Nat} {o o' : Oper} {v : AV} {L : Lo} (ho : arr[i]? = some o) (ho' : arr[i']? = some o') (hne : i ≠ i') (h1 : inM (pre arr i') i = false) (h2 : isQ E o = false → inM (pre arr i) i' = false) :
    SameFor E x arr o' L (Go.Ev.put (dst o.dst) v L) := by
  have hok := (s.ok ho).1
  have key : ∀ t, t ∈ readsOf arr o' → o.dst ≠ some t := by
    intro t ht hd
    rcases (((s.ord1 ho).2.2 t hd i' o' ho').2 hne).2 ht with h | ⟨h, h3⟩
    · rw [h] at h1; cases h1
    · rw [h2 h] at h3; cases h3
  refine ⟨fun y hy => qOf_put hok fun t e => key t (reads_op (by rw [← e]; exact hy)), fun y w hy => qOf_put hok fun t e => key t (reads_guard (by rw [← e]; exact hy)), fun t ht => ?_⟩
  have hok' := (s.ok ho').1
  have ht5 : t < 512 := by
    rw [ht] at hok'
    unfold okD at hok'
    simp only [Bool.and_eq_true] at hok'
    exact Nat.le_of_ble_eq_true hok'.2
  exact put_ne hok ht5 fun hd => (((s.ord1 ho).2.2 t hd i' o' ho').2 hne).1 ht
theorem same_self {i : Nat} {o : Oper} {v : AV} {L : Lo} (ho : arr[i]? = some o) (hq : isQ E o = true) :
    (∀ y ∈ o.op.operands.toList, getO (qOf E x y) (Go.Ev.put (dst o.dst) v L) = getO (qOf E x y) L) ∧ ∀ y w, guardOf arr o = some (y, w) → getO (qOf E x y) (Go.Ev.put (dst o.dst) v L) = getO (qOf E x y) L := by
  have hok := (s.ok ho).1
  have key : ∀ t, t ∈ readsOf arr o → o.dst ≠ some t := fun t ht hd => ((s.ord1 ho).2.2 t hd i o ho).1 rfl hq ht
  exact ⟨fun y hy => qOf_put hok fun t e => key t (reads_op (by rw [← e]; exact hy)), fun y w hy => qOf_put hok fun t e => key t (reads_guard (by rw [← e]; exact hy))⟩
variable {d : Nat} {qs : List (Nat × Oper × Nat)} {idxs : List Nat} {μ : Mu} {L : Lo} {tmps : Array Value} 
theorem DrI.quiet (k : DrI E x arr d qs idxs μ L tmps) {i : Nat} {o : Oper} (hi : i ∈ idxs) (hd : inM d i = true) (ho : arr[i]? = some o) : isQ E o = true := by
  obtain ⟨o', m, hm⟩ := k.hqs i hi hd
  obtain ⟨h1, h2⟩ := k.qsm _ hm
  have := (mem_marked.1 h1).1
  rw [ho] at this; cases this
  exact h2
theorem DrI.reads (k : DrI E x arr d qs idxs μ L tmps) (hG : GR E μ) {j : Nat} {is : List Nat} (hj : idxs = j :: is) {o : Oper} (ho : arr[j]? = some o) :
    (∀ y ∈ o.op.operands.toList, VR μ (getO (qOf E x y) L) (evT tmps y)) ∧ ∀ y w, guardOf arr o = some (y, w) → VR μ (getO (qOf E x y) L) (evT tmps y) := by
  have key : ∀ y, (∀ t, y = .tmp t → t ∈ readsOf arr o) → VR μ (getO (qOf E x y) L) (evT tmps y) := by
    intro y hy
    cases y with
    | tmp t =>
      show VR μ (getO (slotX x.nd t) L) (tmps.getD t undef)
      rw [slotX_getO]
      split
      · rename_i hnd
        refine k.need t hnd ?_
        rintro ⟨i, hi, hd, o1, ho1, hdst⟩
        have hq := DrI.quiet s k hi hd ho1
        have hr := hy t rfl
        by_cases hij : i = j
        · subst hij
          rw [ho] at ho1; cases ho1
          exact ((s.ord1 ho).2.2 t hdst i o ho).1 rfl hq hr
        · rcases (((s.ord1 ho1).2.2 t hdst j o ho).2 hij).2 hr with h | ⟨h, _⟩
          · exact (k.lin.ord [] j is (by simpa using hj) i h).2 (by rw [← hj]; exact hi)
          · rw [hq] at h; cases h
      · simp only [VR]
    | const v => exact need_q (cl := []) (tmps := tmps) hG (X := fun _ => False) (nd := 0) no0 (fun _ h => h) (fun u d x hm => by cases hm) (.const v)
    | func f => exact need_q (cl := []) (tmps := tmps) hG (X := fun _ => False) (nd := 0) no0 (fun _ h => h) (fun u d x hm => by cases hm) (.func f)
    | global g => exact need_q (cl := []) (tmps := tmps) hG (X := fun _ => False) (nd := 0) no0 (fun _ h => h) (fun u d x hm => by cases hm) (.global g)
  exact ⟨fun y hy => key y fun t e => reads_op (by rw [← e]; exact hy), fun y w hy => key y fun t e => reads_guard (by rw [← e]; exact hy)⟩
end
def q2 (E : Env) (x : Cx) (arr : Array Oper) (o : Oper) : Operand → Opd := fun y =>
  open Classical in if y ∈ o.op.operands.toList ∨ ∃ w, guardOf arr o = some (y, w) then qOf E x y else .c .top
theorem q2_op {E : Env} {x : Cx} {arr : Array Oper} {o : Oper} {y : Operand} (hy : y ∈ o.op.operands.toList) : q2 E x arr o y = qOf E x y := by
  unfold q2; rw [if_pos (.inl hy)]
theorem q2_gd {E : Env} {x : Cx} {arr : Array Oper} {o : Oper} {y : Operand} {w : Bool} (hy : guardOf arr o = some (y, w)) : q2 E x arr o y = qOf E x y := by
  unfold q2; rw [if_pos (.inr ⟨w, hy⟩)]
theorem q2_ok {E : Env} {x : Cx} {arr : Array Oper} {o : Oper} {μ : Mu} {L : Lo} {tmps : Array Value}
    (h : (∀ y ∈ o.op.operands.toList, VR μ (getO (qOf E x y) L) (evT tmps y)) ∧ ∀ y w, guardOf arr o = some (y, w) → VR μ (getO (qOf E x y) L) (evT tmps y)) : ∀ y, VR μ (getO (q2 E x arr o y) L) (evT tmps y) := by
  intro y
  unfold q2
  split
  · rename_i hc
    rcases hc with hc | ⟨w, hc⟩
    · exact h.1 y hc
    · exact h.2 y w hc
  · rw [getO_c]; simp only [VR]
theorem q2_ins {E : Env} {x : Cx} {arr : Array Oper} {o : Oper} {d : Dst} : insOf (qOf E x) E arr d o = insOf (q2 E x arr o) E arr d o :=
  insOf_congr (fun y hy => (q2_op hy).symm) fun y w hy => (q2_gd hy).symm
theorem q2_insU {E : Env} {x : Cx} {arr : Array Oper} {o : Oper} {d : Dst} : insU (qOf E x) E d o = insU (q2 E x arr o) E d o :=
  insU_congr fun y hy => (q2_op hy).symm
end
end Go.Ev
