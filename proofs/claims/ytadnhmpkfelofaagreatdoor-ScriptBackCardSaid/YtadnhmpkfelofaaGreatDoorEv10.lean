/- THE EVALUATOR, part 10 of 13: EvCtl10 EvDr7 EvDr8 EvDr9 EvDr12 EvDr13 EvDr14 -/
import Derived.Test.YtadnhmpkfelofaaGreatDoorEv9
set_option linter.unusedVariables false
set_option linter.unusedSectionVars false
set_option linter.unusedSimpArgs false
namespace Go.Ev
set_option linter.unusedVariables false
set_option linter.unusedSectionVars false
set_option linter.unusedSimpArgs false
noncomputable section
variable [Val] [Fk]
structure DrawnOk (E : Env) (P : Program) (C : Call0) : Prop where
  start : ∀ {arr : Array Oper} {t : Nat} {rest : List Ci} {fn : Nat} {ds : List Df} {dd : Bool} {rnd : Option Key} {cs : List Fr} {L : Lo} {h : Hp} {nx : Key} {μ : Mu} {fr : Frame} {frs : List Frame} {Fs : List Key} {w : World} {k : List Item},
    HR C.W.heap.size μ h w → GR E μ → Ext C.W.heap.size C.W w → FiR E μ (.mk fn ds .run dd rnd) fr → StR E μ cs frs Fs → Kept1 μ h Fs → KnR (cxOf E fn).nd μ [] L fr.tmps → TodoR E (cxOf E fn) μ [] rest k →
    fr.todo = .inRegion arr (Region.schedule true arr t) :: k →
    Good E P C (ops E (drawnIns E (cxOf E fn) arr) (.mk rest (.mk fn ds .run dd rnd) cs) L h nx) (lone fr (frs ++ C.cs0) w)
  mid : ∀ {l : List Ins} {rest : List Ci} {fn : Nat} {ds : List Df} {dd : Bool} {rnd : Option Key} {cs : List Fr} {L : Lo} {h : Hp} {nx : Key} {μ : Mu} {fr : Frame} {frs : List Frame} {F Fs : List Key} {w : World},
    HR C.W.heap.size μ h w → GR E μ → Ext C.W.heap.size C.W w → FiR E μ (.mk fn ds .run dd rnd) fr → StR E μ cs frs Fs → Kept1 μ h (F ++ Fs) → DrawnB E (cxOf E fn) μ L fr.tmps (.mid l :: rest) fr.todo F →
    Good E P C (ops E l (.mk rest (.mk fn ds .run dd rnd) cs) L h nx) (lone fr (frs ++ C.cs0) w)
section
variable {E : Env} {P : Program} (hE : EnvOk E P) {C : Call0} (hS : SumOk E P C) (hD : DrawnOk E P C)
variable {μ : Mu} {h : Hp} {w : World}
theorem FiR.to {fi : FI} {fr : Frame} (hf : FiR E μ fi fr) (k : List Item) : FiR E μ fi (Frame.to fr k) := by
  cases hf with
  | mk h1 h2 h3 h4 h5 h6 h7 => exact .mk h1 h2 h3 h4 h5 h6 h7
theorem newOb {B : Nat} (hr : HR B μ h w) {nx : Key} (hnx : (hget nx h).isNone = true) {ob : Ob} {o : Obj} (hob : ∀ ν, μ.le ν → ν nx 0 = some (w.heap.size, 0, 0) → (∀ g, 0 < g → ν nx g = none) → OR B ν (w.alloc o) nx ob) (hB : B ≤ w.heap.size) :
    HR B (μ.ins nx 0 (w.heap.size, 0, 0)) (hset nx ob h) (w.alloc o) ∧ μ.le (μ.ins nx 0 (w.heap.size, 0, 0)) ∧ Ext B w (w.alloc o) ∧ Kp h μ (hset nx ob h) (μ.ins nx 0 (w.heap.size, 0, 0)) := by
  have hno := hr.noneAt hnx
  obtain ⟨h1, h2⟩ := hr.alloc (gen := 0) (n := 0) hnx (w' := w.alloc o) rfl (hob _ (Mu.ins_le (hno 0) _) (Mu.ins_same _ _ _ _) (fun g hg => by rw [Mu.ins_other _ (.inr (by omega))]; exact hno g))
  exact ⟨h1, h2, ⟨rfl, rfl, rfl, by show w.heap.size ≤ (w.heap.push _).size; simp, fun kk hkk => by show (w.heap.push _)[kk]? = _; rw [Array.getElem?_push, if_neg (by omega)]⟩, .new hnx⟩
include hE in
theorem range_call {L : Lo} {rest : List Ci} {fn : Nat} {ds : List Df} {dd : Bool} {rnd : Option Key} {cs : List Fr} {nx : Key} {fr fr' : Frame} {frs : List Frame} {Fs : List Key} {w0 : World} {f : Opd} {fo : Operand} {l : Key} {b : Nat} {ps : Array Tmp} {a c : Code} {k : List Item}
    {mark : List Deferred} (hm : fr.mode = .run) (ht : fr.todo = .code (.rangeFunc fo ps a c) :: k) (hen : (Instr.enterLoop fr.fn fr.tmps ps a c fr.roundOf).run P w0 = .ok (b, mark) w) (hfr' : fr' = { fr with todo := .inRangeFunc b :: k, defers := mark ++ fr.defers })
    (hr : HR C.W.heap.size μ h w) (hg : GR E μ) (he : Ext C.W.heap.size C.W w) (hf : FiR E μ (.mk fn ds .run dd rnd) fr') (hkn : KnR (cxOf E fn).nd μ [] L fr.tmps) (hl : AtR μ l b) (htd : TodoR E (cxOf E fn) μ [] rest k)
    (hs : StR E μ cs frs Fs) (hk : Kept1 μ h Fs) (hqf : VR μ (getO f L) (fr.eval fo)) :
    Good E P C (asFunc (getO f L) .fail fun g first cap => invokeFn E h g cap (first ++ [.func (.yield l) [] []])
        (fun f vs => enter E f vs false (.mk L (.inRF l :: rest) (.mk fn ds .run dd rnd) :: cs) h nx)
        (fun k fn' t x y => roundCfg E k fn' t x y (.mk L (.inRF l :: rest) (.mk fn ds .run dd rnd) :: cs) h nx)) (lone fr (frs ++ C.cs0) w0) := by
  have hst := s_rangeFunc (P := P) (cs := frs ++ C.cs0) hm ht hen
  have hwait : FrR E μ L (.inRF l :: rest) (.mk fn ds .run dd rnd) fr' [] := by
    subst hfr'
    exact .mk hf (.inRFP hkn hl htd)
  cases hv : getO f L with
  | func g first cap =>
    rw [hv] at hqf
    simp only [VR] at hqf
    obtain ⟨G, fs, cps, hfe, hG, h1, h2⟩ := hqf
    have hfe' : fr'.eval fo = .func G fs cps := by subst hfr'; exact hfe
    have hy : VR μ (.func (.yield l) [] []) (.func (.yield b) #[] #[]) := by
      obtain ⟨s, n, hm⟩ := hl
      simp only [VR]; exact ⟨_, _, _, rfl, ⟨b, s, n, hm, rfl⟩, .nil, .nil⟩
    have hp : plainTop fr'.todo := by subst hfr'; intro d b r s k' hh; cases hh
    show Good E P C (invokeFn E h g cap (first ++ [.func (.yield l) [] []])
        (fun f vs => enter E f vs false (.mk L (.inRF l :: rest) (.mk fn ds .run dd rnd) :: cs) h nx)
        (fun k fn' t x y => roundCfg E k fn' t x y (.mk L (.inRF l :: rest) (.mk fn ds .run dd rnd) :: cs) h nx)) _
    refine invokeFn_good hE hr hG h2 (argv := fs ++ #[.func (.yield b) #[] #[]]) (by rw [Array.toList_append]; exact h1.append (.cons hy .nil))
      (s := (do let d ← resolve fr'.eval { callee := .value fo, args := #[.const (.func (.yield b) #[] #[])], argTypes := #[] } 0; invoke d.target d.args)) ?_ (fun f' avs args' hva hrun => ?_) (fun l' b' f' tm tmps asg body hl' hrun hn hsz hfu => ?_)
    · rw [resolve_value hfe']
      have he1 : (#[.const (.func (.yield b) #[] #[])].map fr'.eval) = #[.func (.yield b) #[] #[]] := by simp [Frame.eval]
      simp only [Sem.run_bind, Sem.run_pure, Result.andThen_ok, he1]
    · cases hcb : compBody E f' with
      | none => rw [enter_none hcb]; trivial
      | some bb =>
        have hcf := callFunc_run hE hcb args' w
        refine Good.next (next_of (by rw [hst, ← hfr']; exact apply_enter hp (hrun.trans hcf))) ?_
        exact enter_good hE (dfd := false) (F := []) hva hr hg he hwait hs (by simpa using hk)
    · refine Good.next (next_of (by rw [hst, ← hfr']; exact apply_round hrun)) ?_
      exact round_good (F := []) hl' hn hsz hfu hr hg he hwait hs (by simpa using hk)
  | _ => trivial
def rangeFK (E : Env) (fn : Nat) (ds : List Df) (dd : Bool) (rnd : Option Key) (L : Lo) (rest : List Ci) (cs : List Fr) (fv : AV) (ps : List Tmp) (a b : Code) (h : Hp) (nx : Key) : Sp :=
          match rnd with
          | some l0 => match hget l0 h with
            | .loop _ _ _ _ _ _ _ df _ => cnd (hget nx h).isNone (asFunc fv .fail fun g first cap => invokeFn E (hset nx (.loop .ready none fn L.tm ps a b df (cxOf E fn)) h) g cap (first ++ [.func (.yield nx) [] []])
        (fun f vs => enter E f vs false (.mk L (.inRF nx :: rest) (.mk fn ds .run dd rnd) :: cs) (hset nx (.loop .ready none fn L.tm ps a b df (cxOf E fn)) h) nx.next)
        (fun k fn' t x y => roundCfg E k fn' t x y (.mk L (.inRF nx :: rest) (.mk fn ds .run dd rnd) :: cs) (hset nx (.loop .ready none fn L.tm ps a b df (cxOf E fn)) h) nx.next)) .fail
            | _ => .fail
          | none => cnd (hget nx h).isNone (cnd (hget nx.next h).isNone (cnd (Key.beq nx nx.next) .fail
              (asFunc fv .fail fun g first cap => invokeFn E (hset nx.next (.loop .ready none fn L.tm ps a b nx (cxOf E fn)) (hset nx (.deferred (some [])) h)) g cap (first ++ [.func (.yield nx.next) [] []])
        (fun f vs => enter E f vs false (.mk L (.inRF nx.next :: rest) (.mk fn (.collected nx :: ds) .run dd none) :: cs) (hset nx.next (.loop .ready none fn L.tm ps a b nx (cxOf E fn)) (hset nx (.deferred (some [])) h)) nx.next.next)
        (fun k fn' t x y => roundCfg E k fn' t x y (.mk L (.inRF nx.next :: rest) (.mk fn (.collected nx :: ds) .run dd none) :: cs) (hset nx.next (.loop .ready none fn L.tm ps a b nx (cxOf E fn)) (hset nx (.deferred (some [])) h)) nx.next.next)))
                .fail) .fail
include hE hS hD in
theorem run_good {x : Ci} {rest : List Ci} {L : Lo} {fi : FI} {cs : List Fr} {nx : Key} {fr : Frame} {frs : List Frame} {F Fs : List Key}
    (hr : HR C.W.heap.size μ h w) (hg : GR E μ) (he : Ext C.W.heap.size C.W w) (hf : FrR E μ L (x :: rest) fi fr F) (hm : fr.mode = .run) (hs : StR E μ cs frs Fs) (hk : Kept1 μ h (F ++ Fs)) :
    Good E P C (x.run E rest L fi cs h nx) (lone fr (frs ++ C.cs0) w) := by
  obtain ⟨fn, ds, md, dd, rnd⟩ := fi
  cases hf with
  | mk hfi hb =>
    have hmd : md = .run := by
      cases hfi with
      | mk g1 g2 g3 g4 g5 g6 g7 =>
        cases md with
        | run => rfl
        | returning => have g3 : fr.mode = .returning := g3; rw [g3] at hm; cases hm
        | panicking ch => obtain ⟨_, g3, _⟩ := g3; rw [g3] at hm; cases hm
    subst hmd
    generalize hit : fr.todo = items at hb
    cases hb with
    | waitP h1 h2 h3 h4 h5 => trivial
    | inRFP h1 h2 h3 => trivial
    | out h0 h1 h2 => cases h0
    | drawn h1 =>
      subst hit
      cases x with
      | mid l => exact hD.mid hr hg he hfi hs hk h1
      | wait d l => trivial
      | _ => cases h1
    | @plain cl0 l0 k0 hkn htd =>
      have hk : Kept1 μ h Fs := by simpa using hk
      obtain ⟨cl', k', hcl, hhd, hsteps⟩ := htd.head (P := P) (isize items) (Nat.le_refl _)
      have hkn' : KnR (cxOf E fn).nd μ cl' L fr.tmps := by rcases hcl with h | h <;> subst h; (exact hkn); exact hkn.forget
      refine Good.of_steps (hsteps fr _ w hm hit) ?_
      have hm' : (Frame.to fr k').mode = .run := hm
      have hfi' := hfi.to k'
      have sim : ∀ {l2 : List Ci} {k2 : List Item} {L2 : Lo} {cl2 : Cl}, KnR (cxOf E fn).nd μ cl2 L2 fr.tmps → TodoR E (cxOf E fn) μ cl2 l2 k2 → Sim E P C (.mk L2 l2 (.mk fn ds .run dd rnd) cs h nx) (lone (Frame.to (Frame.to fr k') k2) (frs ++ C.cs0) w) :=
        fun h1 h2 => Sim.mk (F := []) hr hg he (.mk (hfi'.to _) (.plain h1 h2)) hs (by simpa using hk)
      have hq : ∀ o, VR μ (getO (opdW (cxOf E fn).nd (gl E) cl' o) L) ((Frame.to fr k').eval o) := by rw [eval_evT]; exact hkn'.q hg
      cases hhd with
      | @reg id ops dr l k htd' =>
        cases dr with
        | false =>
          refine Good.next (s_region hm' rfl) ?_
          have hd0 : (ops.toList.drop 0) = ops.toList := List.drop_zero
          have := ops_good hE hS (rest := rest) (fn := fn) (dd := dd) (rnd := rnd) (arr := ops) (k := k) (Fs := Fs) ops.size 0 cl' L h nx μ (Frame.to (Frame.to fr (.code (.region id ops false) :: k)) (.inRegion ops (List.range ops.size) :: k)) w ds cs frs (by omega)
            (by rw [List.range_eq_range']; rfl) (hfi'.to _) hkn' (by rw [hd0]; exact htd') hr hg he hs hk
          rw [hd0] at this
          exact this
        | true =>
          obtain ⟨t, hst⟩ := s_regionDraw (P := P) (cs := frs ++ C.cs0) (w := w) (fr := Frame.to fr (.code (.region id ops true) :: k)) hm' rfl
          refine Good.next hst ?_
          rw [hE.mixed]
          have hw : ({ w with drawn := w.drawn + 1 } : World).heap = w.heap := rfl
          exact hD.start (hr.world hw) hg (he.trans ⟨rfl, rfl, rfl, Nat.le_refl _, fun _ _ => rfl⟩) (hfi'.to _) hs hk hkn'.forget htd' rfl
      | @cond y a b l k htd' =>
        show Good E P C (asBool (getO (opdW (cxOf E fn).nd (gl E) cl' y) L) (match getO (opdW (cxOf E fn).nd (gl E) cl' y) L with
          | .ub => .br [.mk L (ciAppend (compC E (cxOf E fn) cl' b) rest) (.mk fn ds .run dd rnd) cs h nx, .mk L (ciAppend (compC E (cxOf E fn) cl' a) rest) (.mk fn ds .run dd rnd) cs h nx]
          | _ => .fail) fun t => cnd t (.go (.mk L (ciAppend (compC E (cxOf E fn) cl' a) rest) (.mk fn ds .run dd rnd) cs h nx)) (.go (.mk L (ciAppend (compC E (cxOf E fn) cl' b) rest) (.mk fn ds .run dd rnd) cs h nx))) _
        have hy := hq y
        have sa : ∀ (t : Bool), Sim E P C (.mk L (ciAppend (compC E (cxOf E fn) cl' (if t then a else b)) rest) (.mk fn ds .run dd rnd) cs h nx) (lone (Frame.to (Frame.to fr (.code (.cond y a b) :: k)) (.code (if t then a else b) :: k)) (frs ++ C.cs0) w) := fun t => by
          rw [ciAppend_eq]
          exact sim hkn' (.code (.forget htd'))
        cases hv : getO (opdW (cxOf E fn).nd (gl E) cl' y) L with
        | bool t =>
          rw [hv] at hy
          simp only [VR] at hy
          have hst := s_cond (P := P) (cs := frs ++ C.cs0) (w := w) (fr := Frame.to fr (.code (.cond y a b) :: k)) hm' rfl hy
          show Good E P C (cnd t _ _) _
          cases t with
          | true => exact ⟨_, .one hst, sa true⟩
          | false => exact ⟨_, .one hst, sa false⟩
        | ub =>
          rw [hv] at hy
          simp only [VR] at hy
          obtain ⟨t, hy⟩ := hy
          have hst := s_cond (P := P) (cs := frs ++ C.cs0) (w := w) (fr := Frame.to fr (.code (.cond y a b) :: k)) hm' rfl hy
          cases t with
          | true => exact ⟨_, List.mem_cons_of_mem _ (List.mem_singleton.2 rfl), _, .one hst, sa true⟩
          | false => exact ⟨_, List.mem_cons_self .., _, .one hst, sa false⟩
        | _ => trivial
      | @block id b l k htd' =>
        refine ⟨_, .one (s_block hm' rfl), ?_⟩
        rw [ciAppend_eq]
        exact sim hkn' (.code (.forget (.inBlock htd')))
      | @inBlock id l k htd' => exact ⟨_, .one (s_inBlock hm' rfl), sim hkn'.forget htd'⟩
      | @loop b l k htd' =>
        refine ⟨_, .one (s_loop hm' rfl), ?_⟩
        rw [ciAppend_eq]
        exact sim hkn'.forget (.code (.forget (.inLoop htd')))
      | @inLoop b l k htd' =>
        refine ⟨_, .one (s_inLoop hm' rfl), ?_⟩
        rw [ciAppend_eq]
        exact sim hkn'.forget (.code (.forget (.inLoop htd')))
      | @scope c l k htd' =>
        refine ⟨_, .one (s_scope hm' rfl), ?_⟩
        rw [ciAppend_eq]
        exact sim hkn'.forget (.code (.forget (.inScope htd')))
      | @inScope c l k htd' => exact ⟨_, .one (s_inScope hm' rfl), sim hkn'.forget htd'⟩
      | @exit id l k htd' =>
        show Good E P C (opt (exitA id rest) (leave E (some (.exit id)) rest L (.mk fn ds .run dd rnd) cs h nx) fun k => .go (.mk L k (.mk fn ds .run dd rnd) cs h nx)) _
        have hex := htd'.exit (id := id)
        cases hea : exitA id rest with
        | some l' =>
          rw [hea] at hex
          obtain ⟨k2, h1, h2⟩ := hex
          exact ⟨_, .one (s_exit hm' rfl h1), sim hkn'.forget h2⟩
        | none =>
          rw [hea] at hex
          exact leave_good (todo := .exit id :: rest) (rest := rest) (F := []) hr hg he (.mk hfi' (.plain hkn' (.code (c := .exit id) htd'))) hm' hs (by simpa using hk) (.inr (.inr (.inl ⟨id, k, rfl, rfl, hex⟩)))
      | @goto t l k htd' =>
        show Good E P C (opt (gotoA E (cxOf E fn) t rest) (leave E (some (.goto t)) rest L (.mk fn ds .run dd rnd) cs h nx) fun k => .go (.mk L k (.mk fn ds .run dd rnd) cs h nx)) _
        have hex := htd'.goto (t := t)
        cases hea : gotoA E (cxOf E fn) t rest with
        | some l' =>
          rw [hea] at hex
          obtain ⟨k2, h1, h2⟩ := hex
          exact ⟨_, .one (s_goto hm' rfl h1), sim hkn'.forget h2⟩
        | none =>
          rw [hea] at hex
          exact leave_good (todo := .goto t :: rest) (rest := rest) (F := []) hr hg he (.mk hfi' (.plain hkn' (.code (c := .goto t) htd'))) hm' hs (by simpa using hk) (.inr (.inr (.inr ⟨t, k, rfl, rfl, hex⟩)))
      | @ret l k htd' =>
        have hout : FrR E μ L (.ret :: rest) (.mk fn ds .run dd rnd) (Frame.to fr (.code .ret :: k)) [] := .mk hfi' (.plain hkn' (.code (c := .ret) htd'))
        exact leave_good (todo := .ret :: rest) (rest := rest) (F := []) hr hg he hout hm' hs (by simpa using hk) (.inr (.inl ⟨rfl, k, rfl⟩))
      | @rangeF f ps a b l k htd' =>
        have hq' := hq f
        have hun : (Ci.rangeF (opdW (cxOf E fn).nd (gl E) cl' f) ps.toList a b).run E rest L (.mk fn ds .run dd rnd) cs h nx = bif !(ps.toList.all fun t => Nat.blt t (nOf E fn) && Nat.blt t 512) then .fail else rangeFK E fn ds dd rnd L rest cs (getO (opdW (cxOf E fn).nd (gl E) cl' f) L) ps.toList a b h nx := rfl
        rw [hun]
        cases hps : ps.toList.all fun t => Nat.blt t (nOf E fn) && Nat.blt t 512 with
        | false => trivial
        | true =>
          simp only [Bool.not_true, cond_false]
          have hpst : ∀ t ∈ ps.toList, t < nOf E fn ∧ t < 512 := fun t ht => by
            have := List.all_eq_true.1 hps t ht
            simp only [Bool.and_eq_true] at this
            exact ⟨Nat.le_of_ble_eq_true this.1, Nat.le_of_ble_eq_true this.2⟩
          have hB : C.W.heap.size ≤ w.heap.size := he.size
          have hfi2 := hfi'
          cases hfi' with
          | mk g1 g2 g3 g4 g5 g6 g7 =>
            -- the new loop
            have loopOR : ∀ {ν : Mu} {w1 : World} {key dfk : Key} {dfb s' n' : Nat}, μ.le ν → ν key 0 = some (w1.heap.size, 0, 0) → (∀ g, 0 < g → ν key g = none) → ν dfk 0 = some (dfb, s', n') → C.W.heap.size ≤ w1.heap.size →
                OR C.W.heap.size ν (w1.alloc (.loop { state := .ready, pending := none, fn := fn, tmps := fr.tmps, params := ps, assign := a, body := b, defers := dfb })) key (.loop .ready none fn L.tm ps.toList a b dfk (cxOf E fn)) := by
              intro ν w1 key dfk dfb s' n' hle h1 h2 h3 h4
              refine ⟨h2, fun c s n hm => ?_⟩
              rw [h1] at hm
              simp only [Option.some.injEq, Prod.mk.injEq] at hm
              obtain ⟨rfl, rfl, rfl⟩ := hm
              exact ⟨h4, fr.tmps, dfb, s', n', heap_new, ⟨hkn'.need.mono hle, g6, hpst⟩, h3⟩
            cases rnd with
            | some l0 =>
              unfold rangeFK
              simp only
              split
              · rename_i st pend f0 t0 ps0 a0 b0 df x0 ho
                cases hnx : (hget nx h).isNone with
                | false => trivial
                | true =>
                  simp only [cnd_true]
                  obtain ⟨b0', hl0, hrd⟩ := g5
                  obtain ⟨r, e1, e2, e3, ⟨s', n', e4⟩, e5, e6, e7, e8⟩ := hr.loopOb (P := P) ho hl0
                  obtain ⟨q1, q2, q3, q4⟩ := newOb (B := C.W.heap.size) hr hnx (ob := .loop .ready none fn L.tm ps.toList a b df (cxOf E fn)) (o := .loop { state := .ready, pending := none, fn := fn, tmps := fr.tmps, params := ps, assign := a, body := b, defers := r.defers })
                    (fun ν hle h1 h2 => loopOR hle h1 h2 (hle _ _ _ e4) hB) hB
                  have hen : (Instr.enterLoop (Frame.to fr (.code (.rangeFunc f ps a b) :: k)).fn fr.tmps ps a b (Frame.to fr (.code (.rangeFunc f ps a b) :: k)).roundOf).run P w = .ok (w.heap.size, []) (w.alloc (.loop { state := .ready, pending := none, fn := fn, tmps := fr.tmps, params := ps, assign := a, body := b, defers := r.defers })) := by
                    rw [hrd, g1]
                    unfold Instr.enterLoop
                    simp only [Sem.run_bind, e5, Result.andThen_ok, Sem.run_pure, run_newObj_alloc]
                  refine range_call hE (fr' := { Frame.to fr (.code (.rangeFunc f ps a b) :: k) with todo := .inRangeFunc w.heap.size :: k, defers := [] ++ fr.defers }) hm' rfl hen rfl q1 (hg.mono q2) (he.trans q3) ?_ (hkn'.forget.mono q2) ⟨0, 0, Mu.ins_same _ _ _ _⟩ (htd'.mono q2) (hs.mono q2) (hk.kp q4) (VR.mono q2 _ _ hq')
                  exact .mk g1 (g2.mono q2) g3 g4 ⟨b0', hl0.mono q2, hrd⟩ g6 g7
              · trivial
            | none =>
              unfold rangeFK
              simp only
              cases hnx : (hget nx h).isNone with
              | false => trivial
              | true =>
                cases hnx2 : (hget nx.next h).isNone with
                | false => trivial
                | true =>
                  cases hne : Key.beq nx nx.next with
                  | true => trivial
                  | false =>
                    simp only [cnd_true, cnd_false]
                    have hne := Key.beq_ne hne
                    have g5 : fr.roundOf = none := g5
                    obtain ⟨q1, q2, q3, q4⟩ := newOb (B := C.W.heap.size) hr hnx (ob := .deferred (some [])) (o := .deferred (some [])) (fun ν hle h1 h2 => ⟨h2, fun b1 s1 n1 hm1 => by
                      rw [h1] at hm1
                      simp only [Option.some.injEq, Prod.mk.injEq] at hm1
                      obtain ⟨rfl, rfl, rfl⟩ := hm1
                      exact ⟨hB, some [], heap_new, [], rfl, by simp [DfsR]⟩⟩) hB
                    have hB2 : C.W.heap.size ≤ (w.alloc (.deferred (some []))).heap.size := by show _ ≤ (w.heap.push _).size; simp; omega
                    have hnx3 : (hget nx.next (hset nx (.deferred (some [])) h)).isNone = true := by rw [hget_hset_ne hne]; exact hnx2
                    obtain ⟨r1, r2, r3, r4⟩ := newOb (B := C.W.heap.size) q1 hnx3 (ob := .loop .ready none fn L.tm ps.toList a b nx (cxOf E fn)) (o := .loop { state := .ready, pending := none, fn := fn, tmps := fr.tmps, params := ps, assign := a, body := b, defers := w.heap.size })
                      (fun ν hle h1 h2 => loopOR (fun f g x hx => hle _ _ _ (q2 _ _ _ hx)) h1 h2 (hle _ _ _ (Mu.ins_same _ _ _ _)) hB2) hB2
                    have hle : μ.le _ := fun f g x hx => r2 _ _ _ (q2 _ _ _ hx)
                    have hen : (Instr.enterLoop (Frame.to fr (.code (.rangeFunc f ps a b) :: k)).fn fr.tmps ps a b (Frame.to fr (.code (.rangeFunc f ps a b) :: k)).roundOf).run P w = .ok ((w.alloc (.deferred (some []))).heap.size, [{ target := .collected w.heap.size, args := #[] }]) ((w.alloc (.deferred (some []))).alloc (.loop { state := .ready, pending := none, fn := fn, tmps := fr.tmps, params := ps, assign := a, body := b, defers := w.heap.size })) := by
                      have hrd : (Frame.to fr (.code (.rangeFunc f ps a b) :: k)).roundOf = none := g5
                      rw [hrd, g1]
                      unfold Instr.enterLoop
                      simp only [Sem.run_bind, Result.andThen_ok, Sem.run_pure, run_newObj_alloc]
                    refine range_call hE (fr' := { Frame.to fr (.code (.rangeFunc f ps a b) :: k) with todo := .inRangeFunc (w.alloc (.deferred (some []))).heap.size :: k, defers := [{ target := .collected w.heap.size, args := #[] }] ++ fr.defers }) hm' rfl hen rfl r1 (hg.mono hle) ((he.trans q3).trans r3) ?_ (hkn'.forget.mono hle) ⟨0, 0, Mu.ins_same _ _ _ _⟩ (htd'.mono hle) (hs.mono hle) ((hk.kp q4).kp r4) (VR.mono hle _ _ hq')
                    refine .mk g1 ?_ g3 g4 g5 g6 g7
                    show DfsR _ (.collected nx :: ds) ({ target := .collected w.heap.size, args := #[] } :: fr.defers)
                    simp only [DfsR]
                    exact ⟨_, _, rfl, ⟨w.heap.size, 0, 0, r2 _ _ _ (Mu.ins_same _ _ _ _), rfl⟩, g2.mono hle⟩
      | refuse => trivial
      | @mid arr i n l k hi htd' =>
        exact ops_good hE hS n i cl' L h nx μ (Frame.to fr (.inRegion arr (List.range' i n) :: k)) w ds cs frs hi rfl hfi' hkn' htd' hr hg he hs hk
      | @endRF l b r k hl htd' =>
        show Good E P C (match hget l h with
          | .loop .busy _ _ _ _ _ _ _ _ => .fail
          | .loop _ pend fn1 t ps a b df x => .go (.mk L (match pend with | some c => ciAppend (compC E (cxFI E (.mk fn ds .run dd rnd)) [] c) rest | none => rest) (.mk fn ds .run dd rnd) cs (hset l (.loop .exhausted pend fn1 t ps a b df x) h) nx)
          | _ => .fail) _
        split
        · trivial
        · rename_i st pend fn1 t ps a b' df x hnb ho
          obtain ⟨r, e1, e2, e3, e4, e5, e6, e7, e8⟩ := hr.loopOb (P := P) ho hl
          have hst : (r.state == LoopState.busy) = false := by
            rw [e2]
            cases st with
            | busy => exact (hnb rfl).elim
            | _ => rfl
          have hrun : (Instr.endLoop b).run P w = .ok r.pending (World.put w b (.loop { r with state := .exhausted })) := by
            unfold Instr.endLoop
            simp only [Sem.run_bind, e5, Result.andThen_ok, hst, Bool.false_eq_true, if_false, e6, Sem.run_pure]
          refine ⟨_, .one (s_endRange hm' rfl hrun), ?_⟩
          have hh := e8 .exhausted pend
          have hr' : { r with state := .exhausted, pending := pend } = { r with state := LoopState.exhausted } := by rw [← e3]
          rw [hr'] at hh
          refine Sim.mk (F := []) hh hg (he.trans (Ext.put e7)) (.mk (hfi'.to _) ?_) hs (by simpa using hk.kp (Kp.set rfl))
          rw [e3]
          cases pend with
          | none => exact .plain hkn'.forget htd'
          | some c =>
            simp only
            rw [ciAppend_eq]
            exact .plain hkn'.forget (.code (.forget htd'))
        · trivial
      | @beginRound l k htd' =>
        cases rnd with
        | none => trivial
        | some l =>
          show Good E P C (match hget l h with
            | .loop .ready pend fn1 t ps a b df x => .go (.mk L rest (.mk fn ds .run dd (some l)) cs (hset l (.loop .busy pend fn1 t ps a b df x) h) nx)
            | _ => .fail) _
          split
          · rename_i pend fn1 t ps a b' df x ho
            have hfi2 := hfi'
            cases hfi' with
            | mk g1 g2 g3 g4 g5 g6 g7 =>
              obtain ⟨b, hl, hrd⟩ := g5
              obtain ⟨r, e1, e2, e3, e4, e5, e6, e7, e8⟩ := hr.loopOb (P := P) ho hl
              have hrun : (Instr.beginRound b).run P w = .ok () (World.put w b (.loop { r with state := .busy })) := by
                unfold Instr.beginRound
                simp only [Sem.run_bind, e5, Result.andThen_ok, e6, e2, Sem.run_pure]
              refine ⟨_, .one (s_beginRound hm' hrd rfl hrun), ?_⟩
              have hh := e8 .busy pend
              have hr' : { r with state := .busy, pending := pend } = { r with state := LoopState.busy } := by rw [← e3]
              rw [hr'] at hh
              exact Sim.mk (F := []) hh hg (he.trans (Ext.put e7)) (.mk (hfi2.to _) (.plain hkn'.forget htd')) hs (by simpa using hk.kp (Kp.set rfl))
          · trivial
end
end
end Go.Ev

namespace Go.Ev
set_option linter.unusedVariables false
set_option linter.unusedSectionVars false
set_option linter.unusedSimpArgs false
noncomputable section
variable [Val] [Fk]
theorem HR.same {B : Nat} {μ : Mu} {h h' : Hp} {w : World} (k : HR B μ h w) (e : ∀ f, hget f h' = hget f h) : HR B μ h' w :=
  ⟨k.inj, k.lt, fun f => by rw [e]; exact k.obj f, k.side, k.fk, k.start⟩
theorem HR.drop {B : Nat} {μ : Mu} {h : Hp} {w : World} (k : HR B μ h w) {f : Key} (hf : ∀ g, μ f g = none) : HR B μ (hset f .none h) w :=
  ⟨k.inj, k.lt, fun f' => by
    by_cases e : f = f'
    · subst e; rw [hget_hset]; exact hf
    · rw [hget_hset_ne e]; exact k.obj f', k.side, k.fk, k.start⟩
theorem HR.add {B : Nat} {μ : Mu} {h : Hp} {w : World} (k : HR B μ h w) {f : Key} {ob : Ob} (hs : Stat ob) (hf : ∀ g, μ f g = none) : HR B μ (hset f ob h) w :=
  ⟨k.inj, k.lt, fun f' => by
    by_cases e : f = f'
    · subst e; rw [hget_hset]; exact hs.or hf
    · rw [hget_hset_ne e]; exact k.obj f', k.side, k.fk, k.start⟩
def q1 (E : Env) (x : Cx) (o : Oper) : Operand → Opd := fun y =>
  open Classical in if y ∈ o.op.operands.toList then qOf E x y else .c .top
theorem q1_op {E : Env} {x : Cx} {o : Oper} {y : Operand} (hy : y ∈ o.op.operands.toList) : q1 E x o y = qOf E x y := by
  unfold q1; rw [if_pos hy]
theorem q1_ok {E : Env} {x : Cx} {o : Oper} {μ : Mu} {L L0 : Lo} {tmps : Array Value} (ha : Agr E x o L0 L)
    (h : ∀ y ∈ o.op.operands.toList, VR μ (getO (qOf E x y) L) (evT tmps y)) : ∀ y, VR μ (getO (q1 E x o y) L0) (evT tmps y) := by
  intro y
  unfold q1
  split
  · rename_i hc; rw [ha y hc]; exact h y hc
  · rw [getO_c]; simp only [VR]
section
variable {E : Env} {P : Program} (hE : EnvOk E P) {C : Call0}
structure DAt (E : Env) (P : Program) (C : Call0) (rest : List Ci) (k : List Item) (fn : Nat) (ds : List Df) (dd : Bool) (rnd : Option Key) (cs : List Fr) (frs : List Frame) (Fs : List Key) (arr : Array Oper)
    (d : Nat) (qs : List (Nat × Oper × Nat)) (idxs : List Nat) (μ : Mu) (L : Lo) (h : Hp) (fr : Frame) (w : World) : Prop where
  sd : DrSt E (cxOf E fn) arr
  hr : HR C.W.heap.size μ h w
  gr : GR E μ
  ext : Ext C.W.heap.size C.W w
  fi : FiR E μ (.mk fn ds .run dd rnd) fr
  st : StR E μ cs frs Fs
  kept : Kept1 μ h (idxs.filterMap (pk E (cxOf E fn) arr d L) ++ Fs)
  todo : fr.todo = .inRegion arr idxs :: k
  td : TodoR E (cxOf E fn) μ [] rest k
  dr : DrI E (cxOf E fn) arr d qs idxs μ L fr.tmps
  ph : ∀ i o, i ∈ idxs → inM d i = true → arr[i]? = some o → PendH E (cxOf E fn) arr h o L
variable {rest : List Ci} {k : List Item} {fn : Nat} {ds : List Df} {dd : Bool} {rnd : Option Key} {cs : List Fr} {frs : List Frame} {Fs : List Key} {arr : Array Oper}
    {d : Nat} {qs : List (Nat × Oper × Nat)} {idxs : List Nat} {μ : Mu} {L : Lo} {h : Hp} {fr : Frame} {w : World}
theorem FiR.run {fi : FI} {fr : Frame} (hf : FiR E μ fi fr) : (∀ fn ds dd rnd, fi = .mk fn ds .run dd rnd → fr.mode = .run ∧ nOf E fn ≤ fr.tmps.size) := by
  intro fn ds dd rnd e
  subst e
  cases hf with | mk h1 h2 h3 h4 h5 h6 h7 => exact ⟨h3, h6⟩
theorem wanted_of {o : Oper} {x : Cx} {tmps : Array Value} (hg : ∀ y w, guardOf arr o = some (y, w) → VR μ (getO (qOf E x y) L) (evT tmps y)) :
    (GOn E x arr o L → Region.wanted o (yielded arr tmps) = true) ∧ (GOff E x arr o L → Region.wanted o (yielded arr tmps) = false) := by
  have hy : ∀ y w b, guardOf arr o = some (y, w) → getO (qOf E x y) L = .bool b → ∃ j, o.guard = some (j, w) ∧ yielded arr tmps j = some b := by
    intro y w b h1 h2
    have hv := hg y w h1
    obtain ⟨j, p, t, g1, g2, g3, rfl⟩ := guardOf_tmp h1
    rw [h2] at hv
    have hv : VR μ (.bool b) (tmps.getD t undef) := hv
    simp only [VR] at hv
    refine ⟨j, g1, ?_⟩
    have hin : tmps[t]? = some (.bool b) := by
      rw [Array.getD_eq_getD_getElem?] at hv
      cases hh : tmps[t]? with
      | none => rw [hh] at hv; cases hv
      | some u => rw [hh] at hv; simp only [Option.getD_some] at hv; rw [hv]
    simp [yielded, g2, g3, hin]
  constructor
  · rintro (h1 | ⟨y, w, h1, h2⟩)
    · simp [Region.wanted, h1]
    · obtain ⟨j, g1, g2⟩ := hy y w _ h1 h2
      simp [Region.wanted, g1, g2]
  · rintro ⟨y, w, h1, h2 | ⟨vs, h2⟩⟩
    · obtain ⟨j, g1, g2⟩ := hy y w _ h1 h2
      simp only [Region.wanted, g1, g2]
      cases w <;> rfl
    · have hv := hg y w h1
      obtain ⟨j, p, t, g1, g2, g3, rfl⟩ := guardOf_tmp h1
      rw [h2] at hv
      have hv : VR μ (.tuple vs) (tmps.getD t undef) := hv
      simp only [VR] at hv
      obtain ⟨us, hus, _⟩ := hv
      have hyy : yielded arr tmps j = none := by
        simp only [yielded, g2, Option.bind_some, g3]
        rw [Array.getD_eq_getD_getElem?] at hus
        cases hh : tmps[t]? with
        | none => rfl
        | some u => rw [hh] at hus; simp only [Option.getD_some] at hus; rw [hus]
      simp [Region.wanted, g1, hyy]
include hE in
theorem pend_step {i : Nat} {is : List Nat} (a : DAt E P C rest k fn ds dd rnd cs frs Fs arr d qs (i :: is) μ L h fr w) (hd : inM d i = true) :
    ∃ v w' μ', Steps P (lone fr (frs ++ C.cs0) w) (lone (fr.finish v) (frs ++ C.cs0) w') ∧ μ.le μ' ∧ DAt E P C rest k fn ds dd rnd cs frs Fs arr d qs is μ' L h (fr.finish v) w' := by
  have hlt := a.dr.lin.lt i (List.mem_cons_self ..)
  obtain ⟨o, ho⟩ : ∃ o, arr[i]? = some o := ⟨_, Array.getElem?_eq_getElem hlt⟩
  obtain ⟨hm, hsz⟩ := a.fi.run _ _ _ _ rfl
  have hq := DrI.quiet a.sd a.dr (List.mem_cons_self ..) hd ho
  obtain ⟨r1, r2⟩ := DrI.reads a.sd a.dr a.gr rfl ho
  obtain ⟨wOn, wOff⟩ := wanted_of r2
  have hkc : (i :: is).filterMap (pk E (cxOf E fn) arr d L) = (pk E (cxOf E fn) arr d L i).toList ++ is.filterMap (pk E (cxOf E fn) arr d L) := by
    rw [List.filterMap_cons]; cases pk E (cxOf E fn) arr d L i <;> rfl
  have hpk : pk E (cxOf E fn) arr d L i = match insU (qOf E (cxOf E fn)) E .no o with | .al _ _ => keyOfA (tgtV L o) | _ => none := by
    unfold pk; rw [ho]; simp only; rw [hd]; rfl
  -- a value without a turn of memory
  have plain : ∀ v, Steps P (lone fr (frs ++ C.cs0) w) (lone (fr.finish v) (frs ++ C.cs0) w) → (∀ t, o.dst = some t → VR μ (getT t L.tm) v) → pk E (cxOf E fn) arr d L i = none →
      ∃ v w' μ', Steps P (lone fr (frs ++ C.cs0) w) (lone (fr.finish v) (frs ++ C.cs0) w') ∧ μ.le μ' ∧ DAt E P C rest k fn ds dd rnd cs frs Fs arr d qs is μ' L h (fr.finish v) w' := by
    intro v hst hv hp
    refine ⟨v, w, μ, hst, Mu.le_refl _, ⟨a.sd, a.hr, a.gr, a.ext, a.fi.finish v a.todo ho, a.st, ?_, finish_todo fr v a.todo, a.td, ?_, fun j o' hj hdj ho' => a.ph j o' (List.mem_cons_of_mem _ hj) hdj ho'⟩⟩
    · have := a.kept
      rw [hkc, hp] at this
      exact this
    · rw [finish_tmps fr v a.todo ho]
      exact DrI.done a.sd a.dr hd ho hsz hv
  rcases a.dr.pl i o (List.mem_cons_self ..) hd ho with ⟨g1, g2⟩ | ⟨g1, g2⟩
  · refine plain undef (.one (s_opSkip hm a.todo ho (wOff g1))) (fun t ht => by rw [g2 t ht]; exact vr_undef) ?_
    rw [hpk]
    have : tgtV L o = undefA := by
      unfold tgtV
      cases hdst : o.dst with
      | none => rfl
      | some t => exact g2 t hdst
    rw [this]
    split <;> rfl
  · have hw := wOn g1
    have hnoff : ¬ GOff E (cxOf E fn) arr o L := fun hoff => by rw [wOff hoff] at hw; cases hw
    have hph := a.ph i o (List.mem_cons_self ..) hd ho
    have hph := hph.resolve_left hnoff
    have hnd : kindOf E o.op ≤ 1 := Nat.le_of_ble_eq_true hq
    have notD : ∀ c, o.op ≠ .defer c := fun c hh => by rw [hh] at hnd; exact absurd hnd (by show ¬ (3 ≤ 1); omega)
    split at g2
    · rename_i dd0 p hins
      rw [hins] at hph hpk
      simp only at hph
      obtain ⟨_, hpp⟩ := insU_pu hins
      have hev : ∃ L0, Agr E (cxOf E fn) o L0 L ∧ ∃ v0, p.ev E h L0 = some v0 ∧ ∀ t, o.dst = some t → v0 = getT t L.tm := by
        cases hmp : memP p with
        | true => exact hph hmp
        | false =>
          rcases g2 with g2 | ⟨L0, g2, g3⟩
          · rw [hmp] at g2; cases g2
          · exact ⟨L0, g2, g3 h⟩
      obtain ⟨L0, hag, v0, hev, hsl⟩ := hev
      have hqq : ∀ y, VR μ (getO (q1 E (cxOf E fn) o y) L0) (fr.eval y) := by rw [eval_evT]; exact q1_ok hag r1
      rw [hpp, pureI_congr (q' := q1 E (cxOf E fn) o) (fun y hy => (q1_op hy).symm)] at hev
      obtain ⟨dst0, op, ty, pos, af, gd⟩ := o
      obtain ⟨v, hrun, hv⟩ := pure_sound (d := dst0) (ty := ty) (pos := pos) (af := af) (gd := gd) hE a.hr a.gr hqq hev
      exact plain v (exec_step hm a.todo ho hw notD hrun rfl _) (fun t ht => by rw [← hsl t ht]; exact hv) hpk
    · rename_i dd0 p hins
      rw [hins] at hph hpk
      simp only at hph hpk
      obtain ⟨_, hpp⟩ := insU_al hins
      obtain ⟨L0, f, hag, hkey, hnn, hev⟩ := hph
      rw [hkey] at hpk
      have hkept := a.kept
      rw [hkc, hpk] at hkept
      have hkept : Kept1 μ h (f :: (is.filterMap (pk E (cxOf E fn) arr d L) ++ Fs)) := hkept
      obtain ⟨hnod, hall⟩ := hkept
      have hf := (hall f (List.mem_cons_self ..)).2
      have hqq : ∀ y, VR μ (getO (q1 E (cxOf E fn) o y) L0) (fr.eval y) := by rw [eval_evT]; exact q1_ok hag r1
      rw [hpp, allocI_congr (q' := q1 E (cxOf E fn) o) (fun y hy => (q1_op hy).symm)] at hev
      have hr0 := a.hr.drop hf
      have hn0 : (hget f (hset f .none h)).isNone = true := by rw [hget_hset]; rfl
      have hev0 : (allocI (q1 E (cxOf E fn) o) E o.op).ev (hset f .none h) f L0 = some (hget f h, tgtV L o) := by
        rw [ai_heap (h := h), hev]
        intro x f' hx hm'
        obtain ⟨y, hy, rfl⟩ := allocI_rangeM hx
        refine hget_hset_ne (fun e => ?_) _ _
        subst e
        have := hqq y
        rw [hm'] at this
        simp only [VR] at this
        obtain ⟨b, s, n, h1, _⟩ := this
        rw [hf] at h1; cases h1
      obtain ⟨dst0, op, ty, pos, af, gd⟩ := o
      obtain ⟨v, w', ν, hrun, hv, hle, hh, he, hkp⟩ := alloc_sound (d := dst0) (ty := ty) (pos := pos) (af := af) (gd := gd) hE hr0 hn0 a.ext.size hqq hev0
      have hh' : HR C.W.heap.size ν h w' := hh.same fun f' => by
        by_cases e : f = f'
        · subst e; rw [hget_hset]
        · rw [hget_hset_ne e, hget_hset_ne e]
      refine ⟨v, w', ν, exec_step hm a.todo ho hw notD hrun rfl _, hle, ⟨a.sd, hh', a.gr.mono hle, a.ext.trans he, (a.fi.mono hle).finish v a.todo ho, a.st.mono hle, ?_, finish_todo fr v a.todo, a.td.mono hle, ?_,
        fun j o' hj hdj ho' => a.ph j o' (List.mem_cons_of_mem _ hj) hdj ho'⟩⟩
      · refine ⟨(List.nodup_cons.1 hnod).2, fun f' hf' => ?_⟩
        obtain ⟨k1, k2⟩ := hall f' (List.mem_cons_of_mem _ hf')
        refine ⟨k1, (hkp f' ?_).2 k2⟩
        have e : f ≠ f' := fun e => by subst e; exact (List.nodup_cons.1 hnod).1 hf'
        rw [hget_hset_ne e]; exact k1
      · rw [finish_tmps fr v a.todo ho]
        refine DrI.done a.sd (a.dr.mono hle) hd ho hsz (fun t ht => ?_)
        have : tgtV L ⟨dst0, op, ty, pos, af, gd⟩ = getT t L.tm := by unfold tgtV; rw [ht]
        rw [← this]; exact hv
    · exact g2.elim
include hE in
theorem pend_run : ∀ {idxs : List Nat} {μ : Mu} {fr : Frame} {w : World}, DAt E P C rest k fn ds dd rnd cs frs Fs arr d qs idxs μ L h fr w →
    ∃ idxs' μ' fr' w', Steps P (lone fr (frs ++ C.cs0) w) (lone fr' (frs ++ C.cs0) w') ∧ μ.le μ' ∧ DAt E P C rest k fn ds dd rnd cs frs Fs arr d qs idxs' μ' L h fr' w' ∧ (idxs' = [] ∨ ∃ j is, idxs' = j :: is ∧ inM d j = false)
  | [], μ, fr, w, a => ⟨[], μ, fr, w, .refl _ _, Mu.le_refl _, a, .inl rfl⟩
  | i :: is, μ, fr, w, a => by
    cases hd : inM d i with
    | false => exact ⟨i :: is, μ, fr, w, .refl _ _, Mu.le_refl _, a, .inr ⟨i, is, rfl, hd⟩⟩
    | true =>
      obtain ⟨v, w', μ', h1, h2, h3⟩ := pend_step hE a hd
      obtain ⟨idxs', μ2, fr2, w2, k1, k2, k3, k4⟩ := pend_run h3
      exact ⟨idxs', μ2, fr2, w2, h1.trans k1, fun f g x hx => k2 _ _ _ (h2 _ _ _ hx), k3, k4⟩
end
end
end Go.Ev

namespace Go.Ev
set_option linter.unusedVariables false
set_option linter.unusedSectionVars false
set_option linter.unusedSimpArgs false
noncomputable section
variable [Val] [Fk]
theorem fm_insert {f g : Nat → Option Key} {i : Nat} {n : Key} {Fs : List Key} : ∀ {l : List Nat}, l.Nodup → i ∈ l → f i = none → g i = some n → (∀ j ∈ l, j ≠ i → g j = f j) →
    (l.filterMap f ++ Fs).Nodup → n ∉ l.filterMap f ++ Fs → (l.filterMap g ++ Fs).Nodup ∧ ∀ y, y ∈ l.filterMap g ++ Fs → y = n ∨ y ∈ l.filterMap f ++ Fs
  | [], _, hi, _, _, _, _, _ => by cases hi
  | j :: l, hnd, hi, hf, hg, hs, hN, hn => by
    have hnd' := List.nodup_cons.1 hnd
    by_cases e : j = i
    · subst e
      have he : l.filterMap g = l.filterMap f := fm_congr fun a ha => hs a (List.mem_cons_of_mem _ ha) (fun e => by subst e; exact hnd'.1 ha)
      rw [List.filterMap_cons_none hf] at hN hn ⊢
      rw [List.filterMap_cons_some hg, he]
      refine ⟨List.nodup_cons.2 ⟨hn, hN⟩, fun y hy => ?_⟩
      rw [List.cons_append] at hy
      rcases List.mem_cons.1 hy with h | h
      · exact .inl h
      · exact .inr h
    · have hi' : i ∈ l := by rcases List.mem_cons.1 hi with h | h; exact absurd h.symm e; exact h
      have hgj := hs j (List.mem_cons_self ..) e
      cases hfj : f j with
      | none =>
        rw [hfj] at hgj
        rw [List.filterMap_cons_none hfj] at hN hn ⊢
        rw [List.filterMap_cons_none hgj]
        exact fm_insert hnd'.2 hi' hf hg (fun a ha hne => hs a (List.mem_cons_of_mem _ ha) hne) hN hn
      | some y0 =>
        rw [hfj] at hgj
        rw [List.filterMap_cons_some hfj] at hN hn ⊢
        rw [List.filterMap_cons_some hgj]
        simp only [List.cons_append] at hN hn ⊢
        have hN' := List.nodup_cons.1 hN
        obtain ⟨k1, k2⟩ := fm_insert hnd'.2 hi' hf hg (fun a ha hne => hs a (List.mem_cons_of_mem _ ha) hne) hN'.2 (fun h => hn (List.mem_cons_of_mem _ h))
        refine ⟨List.nodup_cons.2 ⟨fun h => ?_, k1⟩, fun y hy => ?_⟩
        · rcases k2 _ h with e2 | e2
          · subst e2; exact hn (List.mem_cons_self ..)
          · exact hN'.1 e2
        · rcases List.mem_cons.1 hy with e2 | e2
          · exact .inr (by subst e2; exact List.mem_cons_self ..)
          · rcases k2 y e2 with e3 | e3
            · exact .inl e3
            · exact .inr (List.mem_cons_of_mem _ e3)
section
variable {E : Env} {P : Program} {C : Call0}
variable {rest : List Ci} {k : List Item} {fn : Nat} {ds : List Df} {dd : Bool} {rnd : Option Key} {cs : List Fr} {frs : List Frame} {Fs : List Key} {arr : Array Oper}
    {d : Nat} {qs : List (Nat × Oper × Nat)} {idxs : List Nat} {μ : Mu} {L : Lo} {h : Hp} {fr : Frame} {w : World}
theorem quiet_step {i m : Nat} {o : Oper} {l : List Ins} {nx : Key} {M : Machine} {K : Kx} (a : DAt E P C rest k fn ds dd rnd cs frs Fs arr d qs idxs μ L h fr w) (he : (i, o, m) ∈ marked arr) (hd : inM d i = false) (hq : isQ E o = true) (hm : subM m d = true)
    (go : ∀ L' h' nx', DAt E P C rest k fn ds dd rnd cs frs Fs arr (Nat.lor d (Nat.pow 2 i)) (qs ++ [(i, o, m)]) idxs μ L' h' fr w → Good E P C (ops E l K L' h' nx') M) :
    Good E P C (ops E (insOf (qOf E (cxOf E fn)) E arr (dst o.dst) o :: l) K L h nx) M := by
  obtain ⟨ho, rfl⟩ := mem_marked.1 he
  have hlt : i < arr.size := (Array.getElem?_eq_some_iff.1 ho).1
  have hi : i ∈ idxs := by
    by_cases hh : i ∈ idxs
    · exact hh
    · rw [a.dr.cd i hlt hh] at hd; cases hd
  have hok := (a.sd.ok ho).1
  have so := fun v => (same_self (v := v) (L := L) a.sd ho hq).1
  have sg := fun v => (same_self (v := v) (L := L) a.sd ho hq).2
  have hsame : ∀ v j o', j ∈ idxs → j ≠ i → inM d j = true → arr[j]? = some o' → SameFor E (cxOf E fn) arr o' L (Go.Ev.put (dst o.dst) v L) := by
    intro v j o' hj hne hdj ho'
    refine same_put a.sd ho ho' (fun e => hne e.symm) ?_ (fun h => by rw [hq] at h; cases h)
    cases hh : inM (pre arr j) i with
    | false => rfl
    | true => rw [a.dr.dcl j i (a.dr.lin.lt j hj) hdj hh] at hd; cases hd
  have hdj : ∀ j, inM (Nat.lor d (Nat.pow 2 i)) j = true → j ≠ i → inM d j = true := by
    intro j hj hne
    rw [inM_lor] at hj
    simp only [Bool.or_eq_true, decide_eq_true_eq] at hj
    rcases hj with h | h
    · exact h
    · exact absurd h.symm hne
  have hii : inM (Nat.lor d (Nat.pow 2 i)) i = true := by rw [inM_lor]; simp
  -- all that is to be shown
  have fin : ∀ (v : AV) (h' : Hp) (nx' : Key), (∀ t, t < 512 → t ∉ o.dst.toList → True) → HR C.W.heap.size μ h' w → Kept1 μ h' (idxs.filterMap (pk E (cxOf E fn) arr (Nat.lor d (Nat.pow 2 i)) (Go.Ev.put (dst o.dst) v L)) ++ Fs) → Grow h h' →
      PendL E (cxOf E fn) arr o (Go.Ev.put (dst o.dst) v L) → PendH E (cxOf E fn) arr h' o (Go.Ev.put (dst o.dst) v L) → Good E P C (ops E l K (Go.Ev.put (dst o.dst) v L) h' nx') M := by
    intro v h' nx' _ hr hk hg hpl hph
    refine go _ _ _ ⟨a.sd, hr, a.gr, a.ext, a.fi, a.st, hk, a.todo, a.td, ⟨a.dr.lin, fun j hj hn => ?_, fun j p hj hdj' hp => ?_, fun j hj hdj' => ?_, fun e he' => ?_, fun t ht hX => ?_, fun j o' hj hdj' ho' => ?_⟩, fun j o' hj hdj' ho' => ?_⟩
    · rw [inM_lor, a.dr.cd j hj hn]; rfl
    · rw [inM_lor]
      by_cases e : j = i
      · subst e; rw [subM_inM hm hp]; rfl
      · rw [a.dr.dcl j p hj (hdj j hdj' e) hp]; rfl
    · by_cases e : j = i
      · subst e; exact ⟨o, _, List.mem_append_right _ (List.mem_singleton.2 rfl)⟩
      · obtain ⟨o', m', hm'⟩ := a.dr.hqs j hj (hdj j hdj' e)
        exact ⟨o', m', List.mem_append_left _ hm'⟩
    · rcases List.mem_append.1 he' with h1 | h1
      · exact a.dr.qsm e h1
      · rw [List.mem_singleton] at h1; subst h1; exact ⟨he, hq⟩
    · have hne : o.dst ≠ some t := fun e => hX ⟨i, hi, hii, o, ho, e⟩
      rw [put_ne hok (inNd_lt ht) hne]
      refine a.dr.need t ht ?_
      rintro ⟨j, hj, hdj', o', ho', hdst⟩
      exact hX ⟨j, hj, by rw [inM_lor, hdj']; rfl, o', ho', hdst⟩
    · by_cases e : j = i
      · subst e; rw [ho] at ho'; cases ho'; exact hpl
      · exact (hsame v j o' hj e (hdj j hdj' e) ho').pendL (a.dr.pl j o' hj (hdj j hdj' e) ho')
    · by_cases e : j = i
      · subst e; rw [ho] at ho'; cases ho'; exact hph
      · exact (hsame v j o' hj e (hdj j hdj' e) ho').pendH ((a.ph j o' hj (hdj j hdj' e) ho').grow hg)
  have htg : ∀ v, tgtV (Go.Ev.put (dst o.dst) v L) o = match o.dst with | some _ => v | none => undefA := by
    intro v
    unfold tgtV
    cases hdst : o.dst with
    | none => rfl
    | some t => exact put_same
  have hpkj : ∀ v j, j ∈ idxs → j ≠ i → pk E (cxOf E fn) arr (Nat.lor d (Nat.pow 2 i)) (Go.Ev.put (dst o.dst) v L) j = pk E (cxOf E fn) arr d L j := by
    intro v j hj hne
    unfold pk
    rw [inM_lor, show decide (i = j) = false from by simp [Ne.symm hne], Bool.or_false]
    cases ho' : arr[j]? with
    | none => rfl
    | some o' =>
      simp only
      cases hdj' : inM d j with
      | false => rfl
      | true => rw [(hsame v j o' hj hne hdj' ho').tgt]
  have hpki : ∀ v, pk E (cxOf E fn) arr (Nat.lor d (Nat.pow 2 i)) (Go.Ev.put (dst o.dst) v L) i = match insU (qOf E (cxOf E fn)) E .no o with | .al _ _ => keyOfA (match o.dst with | some _ => v | none => undefA) | _ => none := by
    intro v
    unfold pk
    rw [ho]
    simp only
    rw [hii, htg]; rfl
  have hpk0 : pk E (cxOf E fn) arr d L i = none := pk_self a.sd (k := 0) hd
  have keptSame : ∀ v h', (match insU (qOf E (cxOf E fn)) E .no o with | .al _ _ => keyOfA (match o.dst with | some _ => v | none => undefA) | _ => none) = none → Kept1 μ h' (idxs.filterMap (pk E (cxOf E fn) arr d L) ++ Fs) →
      Kept1 μ h' (idxs.filterMap (pk E (cxOf E fn) arr (Nat.lor d (Nat.pow 2 i)) (Go.Ev.put (dst o.dst) v L)) ++ Fs) := by
    intro v h' hnone hk
    rw [fm_congr (g := pk E (cxOf E fn) arr d L) fun j hj => ?_]
    · exact hk
    · by_cases e : j = i
      · subst e; rw [hpki, hnone, hpk0]
      · exact hpkj v j hj e
  -- skipped
  have skip : ∀ nx', GOff E (cxOf E fn) arr o L → Good E P C (ops E l K (Go.Ev.put (dst o.dst) undefA L) h nx') M := by
    intro nx' hoff
    have hoff' : GOff E (cxOf E fn) arr o (Go.Ev.put (dst o.dst) undefA L) := by
      obtain ⟨y, w0, h1, h2⟩ := hoff
      exact ⟨y, w0, h1, by rw [sg undefA y w0 h1]; exact h2⟩
    refine fin undefA h nx' (fun _ _ _ => trivial) a.hr (keptSame _ _ ?_ a.kept) (fun f _ => rfl) (.inl ⟨hoff', fun t ht => ?_⟩) (.inl hoff')
    · split
      · cases o.dst <;> rfl
      · rfl
    · rw [ht]; exact put_same
  have main : GOn E (cxOf E fn) arr o L → Good E P C ((insU (qOf E (cxOf E fn)) E (dst o.dst) o).run E l (ops E l) K L h nx) M := by
    intro hon
    have hon' : ∀ v, GOn E (cxOf E fn) arr o (Go.Ev.put (dst o.dst) v L) := by
      intro v
      rcases hon with hon | ⟨y, w0, h1, h2⟩
      · exact .inl hon
      · exact .inr ⟨y, w0, h1, (sg v y w0 h1).trans h2⟩
    have hag : ∀ v, Agr E (cxOf E fn) o L (Go.Ev.put (dst o.dst) v L) := fun v y hy => (so v y hy).symm
    have hsl : ∀ v t, o.dst = some t → v = getT t (Go.Ev.put (dst o.dst) v L).tm := fun v t ht => by rw [ht]; exact put_same.symm
    have hkq : kindOf E o.op ≤ 1 := Nat.le_of_ble_eq_true hq
    have hk01 : kindOf E o.op = 0 ∨ kindOf E o.op = 1 := by omega
    rcases hk01 with hk | hk
    · have e1 : ∀ dd, insU (qOf E (cxOf E fn)) E dd o = .pu dd (pureI (qOf E (cxOf E fn)) E o.op) := fun dd => by unfold insU; simp only [hk]
      rw [e1]
      show Good E P C (opt ((pureI (qOf E (cxOf E fn)) E o.op).ev E h L) .fail fun v => ops E l K (Go.Ev.put (dst o.dst) v L) h nx) M
      cases hev : (pureI (qOf E (cxOf E fn)) E o.op).ev E h L with
      | none => trivial
      | some v =>
        simp only [opt_some]
        refine fin v h nx (fun _ _ _ => trivial) a.hr (keptSame _ _ (by rw [e1]) a.kept) (fun f _ => rfl) (.inr ⟨hon' v, ?_⟩) (.inr ?_)
        · rw [e1]
          simp only
          cases hmp : memP (pureI (qOf E (cxOf E fn)) E o.op) with
          | true => exact .inl rfl
          | false => exact .inr ⟨L, hag v, fun h0 => ⟨v, by rw [mem_free hmp h0 h]; exact hev, hsl v⟩⟩
        · rw [e1]
          exact fun _ => ⟨L, hag v, v, hev, hsl v⟩
    · have e1 : ∀ dd, insU (qOf E (cxOf E fn)) E dd o = .al dd (allocI (qOf E (cxOf E fn)) E o.op) := fun dd => by unfold insU; simp only [hk]
      rw [e1]
      show Good E P C (opt ((allocI (qOf E (cxOf E fn)) E o.op).ev h nx L) .fail fun r => Prod.rec (motive := fun _ => Sp) (fun o' v => cnd (hget nx h).isNone (ops E l K (Go.Ev.put (dst o.dst) v L) (hset nx o' h) nx.next) .fail) r) M
      cases hev : (allocI (qOf E (cxOf E fn)) E o.op).ev h nx L with
      | none => trivial
      | some r =>
        obtain ⟨ob, v⟩ := r
        simp only [opt_some]
        cases hnx : (hget nx h).isNone with
        | false => trivial
        | true =>
          simp only [cnd_true]
          obtain ⟨hst, hnn, hkey⟩ := alloc_stat hev
          have hno := a.hr.noneAt hnx
          have hdst : ∃ t, o.dst = some t := by
            have := (a.sd.ok ho).2.2
            unfold dstOk at this
            rw [e1] at this
            cases hdst : o.dst with
            | none => rw [hdst] at this; cases this
            | some t => exact ⟨t, rfl⟩
          obtain ⟨t, hdst⟩ := hdst
          refine fin v (hset nx ob h) nx.next (fun _ _ _ => trivial) (a.hr.add hst hno) ?_ (Grow.new hnx) (.inr ⟨hon' v, by rw [e1]; trivial⟩) (.inr ?_)
          · have hgi : pk E (cxOf E fn) arr (Nat.lor d (Nat.pow 2 i)) (Go.Ev.put (dst o.dst) v L) i = some nx := by
              rw [hpki, e1]
              simp only
              rw [hdst]; exact hkey
            obtain ⟨k1, k2⟩ := fm_insert (n := nx) a.dr.lin.nodup hi hpk0 hgi (hpkj v) a.kept.1 (fun hmem => by have := (a.kept.2 nx hmem).1; rw [hnx] at this; cases this)
            refine ⟨k1, fun f hf => ?_⟩
            rcases k2 f hf with rfl | hf
            · exact ⟨by rw [hget_hset]; exact hnn, hno⟩
            · obtain ⟨k3, k4⟩ := a.kept.2 f hf
              exact ⟨by rw [hget_hset_ne (fun e => by subst e; rw [hnx] at k3; cases k3)]; exact k3, k4⟩
          · rw [e1]
            refine ⟨L, nx, hag v, ?_, by rw [hget_hset]; exact hnn, ?_⟩
            · rw [htg, hdst]; exact hkey
            · rw [hget_hset, htg, hdst]
              exact ai_grow (Grow.new hnx) hev
  -- the guard
  show Good E P C ((insOf (qOf E (cxOf E fn)) E arr (dst o.dst) o).run E l (ops E l) K L h nx) M
  unfold insOf insG
  cases hg : o.guard with
  | none => exact main (.inl hg)
  | some p =>
    obtain ⟨j, want⟩ := p
    simp only
    cases hj : arr[j]? with
    | none => trivial
    | some p =>
      simp only
      cases hdp : p.dst with
      | none => trivial
      | some t =>
        simp only
        have hgo : guardOf arr o = some (.tmp t, want) := by unfold guardOf; rw [hg]; simp only; rw [hj]; simp only; rw [hdp]
        show Good E P C (asBool (getO (qOf E (cxOf E fn) (.tmp t)) L) (asTuple (getO (qOf E (cxOf E fn) (.tmp t)) L) .fail fun _ => ops E l K (Go.Ev.put (dst o.dst) undefA L) h nx)
          fun b => cnd (cnd b want (bnot want)) ((insU (qOf E (cxOf E fn)) E (dst o.dst) o).run E l (ops E l) K L h nx) (ops E l K (Go.Ev.put (dst o.dst) undefA L) h nx)) M
        cases hv : getO (qOf E (cxOf E fn) (.tmp t)) L with
        | bool b =>
          show Good E P C (cnd (cnd b want (bnot want)) _ _) M
          have e1 : cnd b want (bnot want) = (b == want) := by cases b <;> cases want <;> rfl
          rw [e1]
          cases hbw : b == want with
          | true =>
            have : b = want := by cases b <;> cases want <;> first | rfl | cases hbw
            subst this
            exact main (.inr ⟨_, _, hgo, hv⟩)
          | false =>
            have : b = !want := by cases b <;> cases want <;> first | rfl | cases hbw
            subst this
            exact skip nx ⟨_, _, hgo, .inl hv⟩
        | tuple vs => exact skip nx ⟨_, _, hgo, .inr ⟨vs, hv⟩⟩
        | _ => trivial
end
end
end Go.Ev

namespace Go.Ev
set_option linter.unusedVariables false
set_option linter.unusedSectionVars false
set_option linter.unusedSimpArgs false
noncomputable section
variable [Val] [Fk]
theorem marked_inj {arr : Array Oper} {e e' : Nat × Oper × Nat} (h : e ∈ marked arr) (h' : e' ∈ marked arr) (he : e.1 = e'.1) : e = e' := by
  obtain ⟨i, o, m⟩ := e
  obtain ⟨i', o', m'⟩ := e'
  obtain ⟨h1, rfl⟩ := mem_marked.1 h
  obtain ⟨h2, rfl⟩ := mem_marked.1 h'
  simp only at he
  subst he
  rw [h1] at h2; cases h2; rfl
theorem marked_nodup (arr : Array Oper) : (marked arr).Nodup := by
  have h : ((marked arr).map (·.1)).Nodup := by
    unfold marked
    rw [List.map_fst_zip]
    · exact List.nodup_range
    · simp [before_size]
  exact (List.pairwise_map.1 h).imp fun hne e => hne (by rw [e])
theorem takeQ_spec {E : Env} {arr : Array Oper} : ∀ {td : List (Nat × Oper × Nat)} {d : Nat} {a r : List (Nat × Oper × Nat)} {d1 : Nat}, takeQ E d td = (a, r, d1) → td.Nodup → (∀ e ∈ td, e ∈ marked arr ∧ inM d e.1 = false) →
    r.Nodup ∧ (∀ e ∈ r, e ∈ td) ∧ (∀ e ∈ td, e ∈ r ∨ inM d1 e.1 = true) ∧ (∀ e ∈ r, inM d1 e.1 = false) ∧ (∀ p, inM d p = true → inM d1 p = true) ∧ (∀ p, inM d1 p = true → inM d p = true ∨ ∃ e ∈ td, e.1 = p)
  | [], d, a, r, d1, h, _, _ => by
    cases h
    exact ⟨List.nodup_nil, (fun e he => by cases he), (fun e he => by cases he), (fun e he => by cases he), fun p hp => hp, fun p hp => .inl hp⟩
  | (i, o, m) :: l, d, a, r, d1, h, hnd, hm => by
    have hnd' := List.nodup_cons.1 hnd
    have hi := hm _ (List.mem_cons_self ..)
    unfold takeQ at h
    cases hb : isQ E o && subM m d with
    | true =>
      rw [hb] at h
      simp only [cond_true] at h
      generalize hg : takeQ E (Nat.lor d (Nat.pow 2 i)) l = g at h
      obtain ⟨a', b, d'⟩ := g
      simp only [Prod.mk.injEq] at h
      obtain ⟨rfl, rfl, rfl⟩ := h
      obtain ⟨k1, k2, k3, k4, k5, k6⟩ := takeQ_spec hg hnd'.2 (fun e he => by
        have he' := hm e (List.mem_cons_of_mem _ he)
        refine ⟨he'.1, ?_⟩
        rw [inM_lor, he'.2]
        have hne : i ≠ e.1 := fun hh => hnd'.1 (by rw [marked_inj hi.1 he'.1 hh]; exact he)
        simp [hne])
      have hdi : ∀ p, inM (Nat.lor d (Nat.pow 2 i)) p = true ↔ inM d p = true ∨ i = p := fun p => by rw [inM_lor]; simp
      refine ⟨k1, fun e he => List.mem_cons_of_mem _ (k2 e he), fun e he => ?_, k4, fun p hp => k5 p ((hdi p).2 (.inl hp)), fun p hp => ?_⟩
      · rcases List.mem_cons.1 he with rfl | he
        · exact .inr (k5 _ ((hdi _).2 (.inr rfl)))
        · exact k3 e he
      · rcases k6 p hp with hp | ⟨e, he, hp⟩
        · rcases (hdi p).1 hp with hp | hp
          · exact .inl hp
          · exact .inr ⟨_, List.mem_cons_self .., hp⟩
        · exact .inr ⟨e, List.mem_cons_of_mem _ he, hp⟩
    | false =>
      rw [hb] at h
      simp only [cond_false] at h
      generalize hg : takeQ E d l = g at h
      obtain ⟨a', b, d'⟩ := g
      simp only [Prod.mk.injEq] at h
      obtain ⟨rfl, rfl, rfl⟩ := h
      obtain ⟨k1, k2, k3, k4, k5, k6⟩ := takeQ_spec hg hnd'.2 (fun e he => hm e (List.mem_cons_of_mem _ he))
      refine ⟨List.nodup_cons.2 ⟨fun hh => hnd'.1 (k2 _ hh), k1⟩, fun e he => ?_, fun e he => ?_, fun e he => ?_, k5, fun p hp => ?_⟩
      · rcases List.mem_cons.1 he with rfl | he
        · exact List.mem_cons_self ..
        · exact List.mem_cons_of_mem _ (k2 e he)
      · rcases List.mem_cons.1 he with rfl | he
        · exact .inl (List.mem_cons_self ..)
        · exact (k3 e he).imp (List.mem_cons_of_mem _) id
      · rcases List.mem_cons.1 he with rfl | he
        · cases hd : inM d' i with
          | false => rfl
          | true =>
            rcases k6 i hd with hp | ⟨e, he, hp⟩
            · rw [hi.2] at hp; cases hp
            · have := marked_inj (hm e (List.mem_cons_of_mem _ he)).1 hi.1 hp
              subst this
              exact absurd he hnd'.1
        · exact k4 e he
      · rcases k6 p hp with hp | ⟨e, he, hp⟩
        · exact .inl hp
        · exact .inr ⟨e, List.mem_cons_of_mem _ he, hp⟩
theorem Left.quiet {E : Env} {arr : Array Oper} {td a r : List (Nat × Oper × Nat)} {d d1 : Nat} (k : Left arr d td) (h : takeQ E d td = (a, r, d1)) : Left arr d1 r := by
  obtain ⟨k1, k2, k3, k4, k5, k6⟩ := takeQ_spec h k.1 (fun e he => (k.2 e).1 he)
  refine ⟨k1, fun e => ⟨fun he => ⟨((k.2 e).1 (k2 e he)).1, k4 e he⟩, fun he => ?_⟩⟩
  have hd : inM d e.1 = false := by
    cases hd : inM d e.1 with
    | false => rfl
    | true => rw [k5 _ hd] at he; cases he.2
  rcases k3 e ((k.2 e).2 ⟨he.1, hd⟩) with h1 | h1
  · exact h1
  · rw [h1] at he; cases he.2
theorem takeE_spec {E : Env} : ∀ {td : List (Nat × Oper × Nat)} {d : Nat} {x : Nat × Oper × Nat} {r : List (Nat × Oper × Nat)}, takeE E d td = some (x, r) →
    isQ E x.2.1 = false ∧ subM x.2.2 d = true ∧ (∀ e, e ∈ td ↔ e = x ∨ e ∈ r) ∧ (td.Nodup → r.Nodup ∧ x ∉ r)
  | [], d, x, r, h => by cases h
  | (i, o, m) :: l, d, x, r, h => by
    unfold takeE at h
    cases hb : !isQ E o && subM m d with
    | true =>
      rw [hb] at h
      simp only [cond_true, Option.some.injEq, Prod.mk.injEq] at h
      obtain ⟨rfl, rfl⟩ := h
      simp only [Bool.and_eq_true, Bool.not_eq_true'] at hb
      exact ⟨hb.1, hb.2, fun e => List.mem_cons, fun hnd => ⟨(List.nodup_cons.1 hnd).2, (List.nodup_cons.1 hnd).1⟩⟩
    | false =>
      rw [hb] at h
      simp only [cond_false] at h
      cases ht : takeE E d l with
      | none => rw [ht] at h; cases h
      | some p =>
        obtain ⟨x', r'⟩ := p
        rw [ht] at h
        simp only [Option.some.injEq, Prod.mk.injEq] at h
        obtain ⟨rfl, rfl⟩ := h
        obtain ⟨k1, k2, k3, k4⟩ := takeE_spec ht
        refine ⟨k1, k2, fun e => ?_, fun hnd => ?_⟩
        · rw [List.mem_cons, List.mem_cons, k3 e]
          constructor
          · rintro (h | h | h)
            · exact .inr (.inl h)
            · exact .inl h
            · exact .inr (.inr h)
          · rintro (h | h | h)
            · exact .inr (.inl h)
            · exact .inl h
            · exact .inr (.inr h)
        · have hnd' := List.nodup_cons.1 hnd
          obtain ⟨j1, j2⟩ := k4 hnd'.2
          refine ⟨List.nodup_cons.2 ⟨fun hh => hnd'.1 ((k3 _).2 (.inr hh)), j1⟩, fun hh => ?_⟩
          rcases List.mem_cons.1 hh with e | hh
          · subst e; exact hnd'.1 ((k3 _).2 (.inl rfl))
          · exact j2 hh
theorem Left.eff {E : Env} {arr : Array Oper} {td r : List (Nat × Oper × Nat)} {d i m : Nat} {o : Oper} (k : Left arr d td) (h : takeE E d td = some ((i, o, m), r)) : Left arr (Nat.lor d (Nat.pow 2 i)) r := by
  obtain ⟨k1, k2, k3, k4⟩ := takeE_spec h
  obtain ⟨j1, j2⟩ := k4 k.1
  have hx := (k.2 _).1 ((k3 _).2 (.inl rfl))
  refine ⟨j1, fun e => ⟨fun he => ?_, fun he => ?_⟩⟩
  · have hm := (k.2 e).1 ((k3 e).2 (.inr he))
    refine ⟨hm.1, ?_⟩
    have hne : i ≠ e.1 := fun hh => by have := marked_inj hx.1 hm.1 hh; subst this; exact j2 he
    rw [inM_lor, hm.2]; simp [hne]
  · rw [inM_lor] at he
    simp only [Bool.or_eq_false_iff, decide_eq_false_iff_not] at he
    rcases (k3 e).1 ((k.2 e).2 ⟨he.1, he.2.1⟩) with h1 | h1
    · subst h1; exact absurd rfl he.2.2
    · exact h1
section
variable {E : Env} {P : Program} {C : Call0}
variable {rest : List Ci} {k : List Item} {fn : Nat} {ds : List Df} {dd : Bool} {rnd : Option Key} {cs : List Fr} {frs : List Frame} {Fs : List Key} {arr : Array Oper}
    {idxs : List Nat} {μ : Mu} {fr : Frame} {w : World}
theorem quiet_good {M : Machine} {K : Kx} {l : List Ins} : ∀ {td a r : List (Nat × Oper × Nat)} {d d1 : Nat} {qs : List (Nat × Oper × Nat)} {L : Lo} {h : Hp} {nx : Key}, takeQ E d td = (a, r, d1) → td.Nodup → (∀ e ∈ td, e ∈ marked arr ∧ inM d e.1 = false) →
    DAt E P C rest k fn ds dd rnd cs frs Fs arr d qs idxs μ L h fr w →
    (∀ L' h' nx', DAt E P C rest k fn ds dd rnd cs frs Fs arr d1 (qs ++ a) idxs μ L' h' fr w → Good E P C (ops E l K L' h' nx') M) →
    Good E P C (ops E ((a.map fun x => insOf (qOf E (cxOf E fn)) E arr (dst x.2.1.dst) x.2.1) ++ l) K L h nx) M
  | [], a, r, d, d1, qs, L, h, nx, ht, _, _, A, go => by
    cases ht
    exact go L h nx (by rw [List.append_nil]; exact A)
  | (i, o, m) :: td, a, r, d, d1, qs, L, h, nx, ht, hnd, hm, A, go => by
    have hnd' := List.nodup_cons.1 hnd
    have hi := hm _ (List.mem_cons_self ..)
    unfold takeQ at ht
    cases hb : isQ E o && subM m d with
    | true =>
      rw [hb] at ht
      simp only [cond_true] at ht
      generalize hg : takeQ E (Nat.lor d (Nat.pow 2 i)) td = g at ht
      obtain ⟨a', b, d'⟩ := g
      simp only [Prod.mk.injEq] at ht
      obtain ⟨rfl, rfl, rfl⟩ := ht
      simp only [Bool.and_eq_true] at hb
      rw [List.map_cons, List.cons_append]
      refine quiet_step A hi.1 hi.2 hb.1 hb.2 fun L' h' nx' A' => ?_
      refine quiet_good hg hnd'.2 (fun e he => ?_) A' fun L2 h2 nx2 A2 => go L2 h2 nx2 (by rw [List.append_assoc] at A2; exact A2)
      have he' := hm e (List.mem_cons_of_mem _ he)
      refine ⟨he'.1, ?_⟩
      rw [inM_lor, he'.2]
      have hne : i ≠ e.1 := fun hh => hnd'.1 (by rw [marked_inj hi.1 he'.1 hh]; exact he)
      simp [hne]
    | false =>
      rw [hb] at ht
      simp only [cond_false] at ht
      generalize hg : takeQ E d td = g at ht
      obtain ⟨a', b, d'⟩ := g
      simp only [Prod.mk.injEq] at ht
      obtain ⟨rfl, rfl, rfl⟩ := ht
      exact quiet_good hg hnd'.2 (fun e he => hm e (List.mem_cons_of_mem _ he)) A go
end
end
end Go.Ev

namespace Go.Ev
set_option linter.unusedVariables false
set_option linter.unusedSectionVars false
set_option linter.unusedSimpArgs false
noncomputable section
variable [Val] [Fk]
/-! ## a store, seen by itself -/
theorem store1_fn {h : Hp} {f : Key} {g o : Nat} {v : AV} {h1 : Hp} (hs : store1 h f g o v = some h1) : ∃ ob, ∀ h', hget f h' = hget f h → store1 h' f g o v = some (hset f ob h') := by
  unfold store1 at hs
  generalize hO : hget f h = O at hs
  cases O with
  | cells ro gen sz dp ext c =>
    have hs : cnd ro none (cnd (Nat.beq sz 0) none (cnd (Nat.beq g gen) (opt (c.get (Nat.div o sz)) none fun r => Row.rec (motive := fun _ => Option Hp) (fun old gw => cnd (Nat.ble gw g)
      (some (hset f (.cells ro gen sz dp ext (c.set dp (Nat.div o sz) (.mk (setNth v old (Nat.mod o sz)) g))) h)) none) r) none)) = some h1 := hs
    obtain ⟨b1, hs⟩ := cnd_inv' hs
    obtain ⟨b2, hs⟩ := cnd_inv' hs
    obtain ⟨b3, hs⟩ := cnd_inv hs
    cases hr : c.get (Nat.div o sz) with
    | none => rw [hr] at hs; cases hs
    | some r =>
      obtain ⟨old, gw⟩ := r
      rw [hr] at hs
      obtain ⟨b4, hs⟩ := cnd_inv (show cnd (Nat.ble gw g) (some (hset f (.cells ro gen sz dp ext (c.set dp (Nat.div o sz) (.mk (setNth v old (Nat.mod o sz)) g))) h)) none = some h1 from hs)
      refine ⟨.cells ro gen sz dp ext (c.set dp (Nat.div o sz) (.mk (setNth v old (Nat.mod o sz)) g)), fun h' hh' => ?_⟩
      unfold store1
      rw [hh']
      show cnd ro none (cnd (Nat.beq sz 0) none (cnd (Nat.beq g gen) (opt (c.get (Nat.div o sz)) none fun r => Row.rec (motive := fun _ => Option Hp) (fun old gw => cnd (Nat.ble gw g)
        (some (hset f (.cells ro gen sz dp ext (c.set dp (Nat.div o sz) (.mk (setNth v old (Nat.mod o sz)) g))) h')) none) r) none)) = _
      rw [b2, b3, hr]
      subst b1
      show cnd (Nat.ble gw g) _ none = _
      rw [b4]; rfl
  | _ => cases hs
theorem storeC_fn {h : Hp} {f : Key} {g o n : Nat} {l : List AV} {h1 : Hp} (hs : storeC h f g o n l = some h1) : ∃ ob, ∀ h', hget f h' = hget f h → storeC h' f g o n l = some (hset f ob h') := by
  unfold storeC at hs
  generalize hO : hget f h = O at hs
  cases O with
  | cells ro gen sz dp ext c =>
    have hs : cnd ro none (cnd (Nat.beq g gen)
      (cnd (Nat.ble (Nat.add (Nat.mod o sz) n) sz)
        (opt (c.get (Nat.div o sz)) none fun r => Row.rec (motive := fun _ => Option Hp) (fun old gw => cnd (Nat.ble gw g)
          (some (hset f (.cells ro gen sz dp ext (c.set dp (Nat.div o sz) (.mk (cnd (Nat.beq n sz) l (putAt old (Nat.mod o sz) l)) g))) h)) none) r)
        (cnd (Nat.beq (Nat.mod o sz) 0) (cnd (Nat.beq (Nat.mod n sz) 0) (opt (overRows dp g c (Nat.div o sz) (cutR sz (Nat.div n sz) l)) none fun c' =>
          some (hset f (.cells ro gen sz dp ext c') h)) none) none)) none) = some h1 := hs
    obtain ⟨b1, hs⟩ := cnd_inv' hs
    obtain ⟨b2, hs⟩ := cnd_inv hs
    subst b1
    have goal : ∀ h', hget f h' = hget f h → storeC h' f g o n l = (cnd (Nat.beq g gen)
      (cnd (Nat.ble (Nat.add (Nat.mod o sz) n) sz)
        (opt (c.get (Nat.div o sz)) none fun r => Row.rec (motive := fun _ => Option Hp) (fun old gw => cnd (Nat.ble gw g)
          (some (hset f (.cells false gen sz dp ext (c.set dp (Nat.div o sz) (.mk (cnd (Nat.beq n sz) l (putAt old (Nat.mod o sz) l)) g))) h')) none) r)
        (cnd (Nat.beq (Nat.mod o sz) 0) (cnd (Nat.beq (Nat.mod n sz) 0) (opt (overRows dp g c (Nat.div o sz) (cutR sz (Nat.div n sz) l)) none fun c' =>
          some (hset f (.cells false gen sz dp ext c') h')) none) none)) none) := by
      intro h' hh'
      unfold storeC
      rw [hh', hO]
      rfl
    cases b3 : Nat.ble (Nat.add (Nat.mod o sz) n) sz with
    | true =>
      rw [b3] at hs
      simp only [cnd_true] at hs
      cases hr : c.get (Nat.div o sz) with
      | none => rw [hr] at hs; cases hs
      | some r =>
        obtain ⟨old, gw⟩ := r
        rw [hr] at hs
        obtain ⟨b4, hs⟩ := cnd_inv (show cnd (Nat.ble gw g) (some (hset f (.cells false gen sz dp ext (c.set dp (Nat.div o sz) (.mk (cnd (Nat.beq n sz) l (putAt old (Nat.mod o sz) l)) g))) h)) none = some h1 from hs)
        refine ⟨.cells false gen sz dp ext (c.set dp (Nat.div o sz) (.mk (cnd (Nat.beq n sz) l (putAt old (Nat.mod o sz) l)) g)), fun h' hh' => ?_⟩
        rw [goal h' (hh'.trans hO.symm), b2, b3, hr]
        show cnd (Nat.ble gw g) _ none = _
        rw [b4]; rfl
    | false =>
      rw [b3] at hs
      simp only [cnd_false] at hs
      obtain ⟨b4, hs⟩ := cnd_inv hs
      obtain ⟨b5, hs⟩ := cnd_inv hs
      cases hr : overRows dp g c (Nat.div o sz) (cutR sz (Nat.div n sz) l) with
      | none => rw [hr] at hs; cases hs
      | some c' =>
        refine ⟨.cells false gen sz dp ext c', fun h' hh' => ?_⟩
        rw [goal h' (hh'.trans hO.symm), b2, b3, b4, b5, hr]
        rfl
  | _ => cases hs
structure StFn (f : Key) (F : Hp → Hp) : Prop where
  off : ∀ k h, k ≠ f → hget k (F h) = hget k h
  at' : ∀ h h', hget f h' = hget f h → hget f (F h') = hget f (F h)
theorem StFn.id (f : Key) : StFn f (fun h => h) := ⟨fun _ _ _ => rfl, fun _ _ e => e⟩
theorem StFn.set (f : Key) (ob : Ob) : StFn f (hset f ob) := ⟨fun k h e => hget_hset_ne (fun e' => e e'.symm) _ _, fun h h' _ => by rw [hget_hset, hget_hset]⟩
theorem xStore_fn {n : Nat} {x y : Opd} {h : Hp} {nx : Key} {L : Lo} {f : Key} {g o : Nat} {r : Tn} (hx : getO x L = .ptr f g o) (hs : xStore n x y h nx L = some r) :
    ∃ F : Hp → Hp, StFn f F ∧ ∀ h' nx', hget f h' = hget f h → xStore n x y h' nx' L = some (.mk undefA (F h') nx') := by
  have unf : ∀ h' nx', xStore n x y h' nx' L = asAgg (getO y L)
      (cnd (Nat.beq n 1) (cnd (getO y L).scalar (opt (store1 h' f g o (getO y L)) none fun h2 => some (Tn.mk undefA h2 nx')) none) none)
      fun l => cnd (Nat.beq l.length n) (opt (storeTo h' f g o l) none fun h2 => some (Tn.mk undefA h2 nx')) none := by
    intro h' nx'
    unfold xStore
    rw [hx]; rfl
  have scal : (∀ h' nx', xStore n x y h' nx' L = (cnd (Nat.beq n 1) (cnd (getO y L).scalar (opt (store1 h' f g o (getO y L)) none fun h2 => some (Tn.mk undefA h2 nx')) none) none)) →
      ∃ F : Hp → Hp, StFn f F ∧ ∀ h' nx', hget f h' = hget f h → xStore n x y h' nx' L = some (.mk undefA (F h') nx') := by
    intro hu
    rw [hu] at hs
    obtain ⟨b1, hs⟩ := cnd_inv hs
    obtain ⟨b2, hs⟩ := cnd_inv hs
    cases h1 : store1 h f g o (getO y L) with
    | none => rw [h1] at hs; cases hs
    | some h2 =>
      obtain ⟨ob, hob⟩ := store1_fn h1
      exact ⟨hset f ob, .set f ob, fun h' nx' hh' => by rw [hu, b1, b2, hob h' hh']; rfl⟩
  cases hy : getO y L with
  | agg l =>
    have hu : ∀ h' nx', xStore n x y h' nx' L = cnd (Nat.beq l.length n) (opt (storeTo h' f g o l) none fun h2 => some (Tn.mk undefA h2 nx')) none := fun h' nx' => by rw [unf, hy]; rfl
    rw [hu] at hs
    obtain ⟨b1, hs⟩ := cnd_inv hs
    cases b2 : Nat.beq l.length 0 with
    | true =>
      refine ⟨fun h => h, .id f, fun h' nx' hh' => ?_⟩
      rw [hu, b1]
      show opt (storeTo h' f g o l) none _ = _
      unfold storeTo; rw [b2]; rfl
    | false =>
      have hst : ∀ h', storeTo h' f g o l = cnd (allScalar l) (storeC h' f g o l.length l) none := fun h' => by unfold storeTo; rw [b2]; rfl
      rw [hst] at hs
      cases b3 : allScalar l with
      | false => rw [b3] at hs; cases hs
      | true =>
        rw [b3] at hs
        simp only [cnd_true] at hs
        cases h1 : storeC h f g o l.length l with
        | none => rw [h1] at hs; cases hs
        | some h2 =>
          obtain ⟨ob, hob⟩ := storeC_fn h1
          exact ⟨hset f ob, .set f ob, fun h' nx' hh' => by rw [hu, b1, hst, b3]; simp only [cnd_true]; rw [hob h' hh']; rfl⟩
  | _ => exact scal fun h' nx' => by rw [unf, hy]; rfl
end
end Go.Ev

namespace Go.Ev
set_option linter.unusedVariables false
set_option linter.unusedSectionVars false
set_option linter.unusedSimpArgs false
noncomputable section
variable [Val] [Fk]
section
variable {E : Env} {P : Program} (hE : EnvOk E P) {C : Call0}
variable {rest : List Ci} {k : List Item} {fn : Nat} {ds : List Df} {dd : Bool} {rnd : Option Key} {cs : List Fr} {frs : List Frame} {Fs : List Key} {arr : Array Oper}
    {d : Nat} {qs : List (Nat × Oper × Nat)} {idxs : List Nat} {μ : Mu} {L : Lo} {h : Hp} {nx : Key} {fr : Frame} {w : World}
theorem isSt_inv {o : Oper} (h : isSt o = true) : o.guard = none ∧ o.dst = none ∧ ∃ t x y, o.op = .store t x y := by
  unfold isSt at h
  split at h
  · rename_i h1 h2 h3; exact ⟨h1, h3, _, _, _, h2⟩
  · cases h
include hE in
theorem store_step {i : Nat} {is : List Nat} {o : Oper} {n : Nat} {x y : Opd} {h1 : Hp} {nx' : Key} (A : DAt E P C rest k fn ds dd rnd cs frs Fs arr d qs (i :: is) μ L h fr w) (hd : inM d i = false) (ho : arr[i]? = some o) (hst : isSt o = true)
    (hef : effI (qOf E (cxOf E fn)) E o.op = .store n x y) (hx : xStore n x y h nx L = some (.mk undefA h1 nx')) (pa : ∀ j o', j ∈ is → inM d j = true → arr[j]? = some o' → ∀ h', PendH E (cxOf E fn) arr h' o' L) :
    ∃ v w' μ', Steps P (lone fr (frs ++ C.cs0) w) (lone (fr.finish v) (frs ++ C.cs0) w') ∧ μ.le μ' ∧ DAt E P C rest k fn ds dd rnd cs frs Fs arr (Nat.lor d (Nat.pow 2 i)) qs is μ' L h1 (fr.finish v) w' := by
  obtain ⟨hm, hsz⟩ := A.fi.run _ _ _ _ rfl
  obtain ⟨hg, hdst, t, ox, oy, hop⟩ := isSt_inv hst
  have hqq : ∀ y, VR μ (getO (q2 E (cxOf E fn) arr o y) L) (fr.eval y) := by rw [eval_evT]; exact q2_ok (DrI.reads A.sd A.dr A.gr rfl ho)
  have hev : (effI (q2 E (cxOf E fn) arr o) E o.op).ev E h nx L = some (.mk undefA h1 nx') := by
    rw [← effI_congr (q := qOf E (cxOf E fn)) (fun y hy => (q2_op hy).symm), hef]
    exact hx
  have notD : ∀ c, o.op ≠ .defer c := fun c hh => by rw [hop] at hh; cases hh
  have hw : Region.wanted o (yielded arr fr.tmps) = true := by simp [Region.wanted, hg]
  have hput : ∀ a : AV, Go.Ev.put (dst o.dst) a L = L := fun a => by rw [hdst, show dst none = .no from rfl, put_no]
  have hnot : i ∉ is := (List.nodup_cons.1 A.dr.lin.nodup).1
  have hpk := DrI.pkE A.sd A.dr hd ho undefA
  rw [hput] at hpk
  have hkf : (i :: is).filterMap (pk E (cxOf E fn) arr d L) = is.filterMap (pk E (cxOf E fn) arr d L) := List.filterMap_cons_none (pk_self A.sd (k := 0) hd)
  have hdr := fun ν hle v hv => DrI.eff A.sd (DrI.mono (ν := ν) hle A.dr) hd ho hsz (a := undefA) (v := v) hv
  obtain ⟨dst0, op, ty, pos, af, gd⟩ := o
  obtain ⟨v, nxt, w', ν, hrun, hnv, hv, hle, hh, he, hkp⟩ := eff_sound (d := dst0) (ty := ty) (pos := pos) (af := af) (gd := gd) hE A.hr A.ext.size hqq (fun f => rfl) hev
  refine ⟨v, w', ν, exec_step hm A.todo ho hw notD hrun hnv _, hle, ⟨A.sd, hh, A.gr.mono hle, A.ext.trans he, (A.fi.mono hle).finish v A.todo ho, A.st.mono hle, ?_, finish_todo fr v A.todo, A.td.mono hle, ?_, fun j o' hj hdj ho' => pa j o' hj ?_ ho' h1⟩⟩
  · rw [hpk, ← hkf]; exact A.kept.kp hkp
  · have := hdr ν hle v hv
    rw [hput] at this
    rw [finish_tmps fr v A.todo ho]
    exact this
  · rw [inM_lor] at hdj
    simp only [Bool.or_eq_true, decide_eq_true_eq] at hdj
    rcases hdj with h2 | h2
    · exact h2
    · subst h2; exact absurd hj hnot
include hE in
theorem two_run {i j : Nat} {is : List Nat} {o p : Oper} {n m : Nat} {x y x' y' : Opd} {h1 h2 : Hp} {nx1 nx2 : Key} (A : DAt E P C rest k fn ds dd rnd cs frs Fs arr d qs (i :: is) μ L h fr w) (hd : inM d i = false) (hdj : inM d j = false) (hij : i ≠ j)
    (hall : ∀ e, e < arr.size → e ≠ i → e ≠ j → inM d e = true)
    (ho : arr[i]? = some o) (hst : isSt o = true) (hef : effI (qOf E (cxOf E fn)) E o.op = .store n x y) (hx : xStore n x y h nx L = some (.mk undefA h1 nx1))
    (hp : arr[j]? = some p) (hst' : isSt p = true) (hef' : effI (qOf E (cxOf E fn)) E p.op = .store m x' y') (hx' : xStore m x' y' h1 nx1 L = some (.mk undefA h2 nx2))
    (pa : ∀ j o', j ∈ is → inM d j = true → arr[j]? = some o' → ∀ h', PendH E (cxOf E fn) arr h' o' L) :
    ∃ fr' w' μ' d', Steps P (lone fr (frs ++ C.cs0) w) (lone fr' (frs ++ C.cs0) w') ∧ μ.le μ' ∧ DAt E P C rest k fn ds dd rnd cs frs Fs arr d' qs [] μ' L h2 fr' w' := by
  obtain ⟨v, w1, μ1, s1, le1, A1⟩ := store_step hE A hd ho hst hef hx pa
  have hnot : i ∉ is := (List.nodup_cons.1 A.dr.lin.nodup).1
  have pa1 : ∀ e o', e ∈ is → inM (Nat.lor d (Nat.pow 2 i)) e = true → arr[e]? = some o' → ∀ h', PendH E (cxOf E fn) arr h' o' L := by
    intro e o' he hde ho'
    rw [inM_lor] at hde
    simp only [Bool.or_eq_true, decide_eq_true_eq] at hde
    rcases hde with h3 | h3
    · exact pa e o' he h3 ho'
    · subst h3; exact absurd he hnot
  -- what was left, with what is left of it
  have keep : ∀ {idxs : List Nat} {μ : Mu} {fr : Frame} {w : World} {d : Nat} {h : Hp}, DAt E P C rest k fn ds dd rnd cs frs Fs arr d qs idxs μ L h fr w →
      ∃ idxs' μ' fr' w', Steps P (lone fr (frs ++ C.cs0) w) (lone fr' (frs ++ C.cs0) w') ∧ μ.le μ' ∧ DAt E P C rest k fn ds dd rnd cs frs Fs arr d qs idxs' μ' L h fr' w' ∧ (idxs' = [] ∨ ∃ j is, idxs' = j :: is ∧ inM d j = false) ∧ ∀ e ∈ idxs', e ∈ idxs := by
    intro idxs
    induction idxs with
    | nil => intro μ fr w d h a; exact ⟨[], μ, fr, w, .refl _ _, Mu.le_refl _, a, .inl rfl, fun e he => he⟩
    | cons i is ih =>
      intro μ fr w d h a
      cases hd : inM d i with
      | false => exact ⟨i :: is, μ, fr, w, .refl _ _, Mu.le_refl _, a, .inr ⟨i, is, rfl, hd⟩, fun e he => he⟩
      | true =>
        obtain ⟨v, w', μ', h1, h2, h3⟩ := pend_step hE a hd
        obtain ⟨idxs', μ2, fr2, w2, k1, k2, k3, k4, k5⟩ := ih h3
        exact ⟨idxs', μ2, fr2, w2, h1.trans k1, fun f g x hx => k2 _ _ _ (h2 _ _ _ hx), k3, k4, fun e he => List.mem_cons_of_mem _ (k5 e he)⟩
  obtain ⟨is2, μ2, fr2, w2, s2, le2, A2, hend, hsub⟩ := keep A1
  have hjl : j < arr.size := (Array.getElem?_eq_some_iff.1 hp).1
  have hdj1 : inM (Nat.lor d (Nat.pow 2 i)) j = false := by rw [inM_lor, hdj]; simp [hij]
  rcases hend with rfl | ⟨j', is3, rfl, hdj'⟩
  · rw [A2.dr.cd j hjl (by simp)] at hdj1; cases hdj1
  · have hjj : j' = j := by
      by_cases e : j' = j
      · exact e
      · rw [inM_lor] at hdj'
        simp only [Bool.or_eq_false_iff, decide_eq_false_iff_not] at hdj'
        rw [hall j' (A2.dr.lin.lt j' (List.mem_cons_self ..)) (fun e' => hdj'.2 e'.symm) e] at hdj'
        cases hdj'.1
    subst hjj
    obtain ⟨v3, w3, μ3, s3, le3, A3⟩ := store_step hE A2 hdj' hp hst' hef' hx' (fun e o' he hde ho' => pa1 e o' (hsub e (List.mem_cons_of_mem _ he)) hde ho')
    obtain ⟨is4, μ4, fr4, w4, s4, le4, A4, hend4, _⟩ := keep A3
    have : is4 = [] := by
      rcases hend4 with e | ⟨e, is5, rfl, hde⟩
      · exact e
      · rw [inM_lor, inM_lor] at hde
        simp only [Bool.or_eq_false_iff, decide_eq_false_iff_not] at hde
        rw [hall e (A4.dr.lin.lt e (List.mem_cons_self ..)) (fun e' => hde.1.2 e'.symm) (fun e' => hde.2 e'.symm)] at hde
        cases hde.1.1
    subst this
    exact ⟨fr4, w4, μ4, _, ((s1.trans s2).trans s3).trans s4, fun f g z hz => le4 _ _ _ (le3 _ _ _ (le2 _ _ _ (le1 _ _ _ hz))), A4⟩
theorem DAt.same {h' : Hp} (A : DAt E P C rest k fn ds dd rnd cs frs Fs arr d qs [] μ L h fr w) (e : ∀ f, hget f h' = hget f h) : DAt E P C rest k fn ds dd rnd cs frs Fs arr d qs [] μ L h' fr w :=
  ⟨A.sd, A.hr.same e, A.gr, A.ext, A.fi, A.st, ⟨A.kept.1, fun f hf => by rw [e]; exact A.kept.2 f hf⟩, A.todo, A.td, A.dr, fun i o hi => by cases hi⟩
end
end
end Go.Ev

namespace Go.Ev
set_option linter.unusedVariables false
set_option linter.unusedSectionVars false
set_option linter.unusedSimpArgs false
noncomputable section
variable [Val] [Fk]
/-! ## entries of one map, in whatever order -/
theorem isIn_inv {o : Oper} (h : isIn o = true) : o.guard = none ∧ o.dst = none ∧ ∃ t m k v, o.op = .insert t m k v := by
  unfold isIn at h
  split at h
  · rename_i h1 h2 h3; exact ⟨h1, h3, _, _, _, _, h2⟩
  · cases h
theorem ieOf_inv {E : Env} {q : Operand → Opd} {o : Oper} {e : IE} (h : ieOf E q o = some e) : effI q E o.op = .mapUp e.kt e.m e.k e.v := by
  unfold ieOf at h
  split at h
  · rename_i h1; cases h; exact h1
  · cases h
theorem ieList_mem {E : Env} {q : Operand → Opd} : ∀ {l : List (Nat × Oper × Nat)} {r : List IE}, ieList E q l = some r → r = l.filterMap (fun x => ieOf E q x.2.1) ∧ ∀ x ∈ l, ∃ e, ieOf E q x.2.1 = some e
  | [], r, h => by cases h; exact ⟨rfl, fun x hx => by cases hx⟩
  | x :: l, r, h => by
    unfold ieList at h
    split at h
    · rename_i e r' h1 h2
      cases h
      obtain ⟨rfl, h4⟩ := ieList_mem h2
      refine ⟨by rw [List.filterMap_cons, h1], fun y hy => ?_⟩
      rcases List.mem_cons.1 hy with rfl | hy
      · exact ⟨e, h1⟩
      · exact h4 y hy
    · cases h
def Apart (E : Env) (L : Lo) (a b : IE) : Prop := aeq E 12 a.kt (getO a.k L) (getO b.k L) = some false ∧ aeq E 12 b.kt (getO b.k L) (getO a.k L) = some false
theorem apart_inv {E : Env} {L : Lo} {a b : IE} (h : apart E L a b = true) : Apart E L a b := by
  unfold apart at h
  have key : ∀ o : Option Bool, opt o false bnot = true → o = some false := by
    intro o ho
    cases o with
    | none => cases ho
    | some b => cases b with
      | false => rfl
      | true => cases ho
  cases hh : opt (aeq E 12 a.kt (getO a.k L) (getO b.k L)) false bnot with
  | false => rw [hh] at h; cases h
  | true => rw [hh] at h; exact ⟨key _ hh, key _ h⟩
theorem Apart.symm {E : Env} {L : Lo} {a b : IE} (h : Apart E L a b) : Apart E L b a := ⟨h.2, h.1⟩
theorem insOk_inv {E : Env} {L : Lo} {f : Key} : ∀ {l : List IE}, insOk E L f l = true → (∀ e ∈ l, getO e.m L = .map f ∧ okKey E e.kt (getO e.k L) = true) ∧ l.Pairwise (Apart E L)
  | [], _ => ⟨fun e he => (by cases he), .nil⟩
  | e :: l, h => by
    have h : cnd (isF f (getO e.m L)) (cnd (okKey E e.kt (getO e.k L)) (cnd (l.all (apart E L e)) (insOk E L f l) false) false) false = true := h
    cases h1 : isF f (getO e.m L) with
    | false => rw [h1] at h; cases h
    | true =>
      cases h2 : okKey E e.kt (getO e.k L) with
      | false => rw [h1, h2] at h; cases h
      | true =>
        cases h3 : l.all (apart E L e) with
        | false => rw [h1, h2, h3] at h; cases h
        | true =>
          rw [h1, h2, h3] at h
          obtain ⟨k1, k2⟩ := insOk_inv (show insOk E L f l = true from h)
          refine ⟨fun x hx => ?_, .cons (fun x hx => apart_inv (List.all_eq_true.1 h3 x hx)) k2⟩
          rcases List.mem_cons.1 hx with rfl | hx
          · refine ⟨?_, h2⟩
            unfold isF at h1
            cases hg : getO x.m L with
            | map g => rw [hg] at h1; rw [Key.beq_eq (show Key.beq f g = true from h1)]
            | _ => rw [hg] at h1; cases h1
          · exact k1 x hx
theorem insEs_kv {L : Lo} : ∀ (l : List IE), (insEs L l).map kv = l.map (fun e => (getO e.k L, getO e.v L))
  | [] => rfl
  | e :: l => by
    show kv _ :: (insEs L l).map kv = _
    rw [insEs_kv l]; rfl
theorem landAll_inM {p : Nat} : ∀ {l : List (Nat × Oper × Nat)} {m : Nat}, inM (landAll m l) p = true → inM m p = true ∧ ∀ x ∈ l, inM x.2.2 p = true
  | [], m, h => ⟨h, fun x hx => by cases hx⟩
  | y :: l, m, h => by
    obtain ⟨h1, h2⟩ := landAll_inM (l := l) h
    rw [inM_land, Bool.and_eq_true] at h1
    refine ⟨h1.1, fun x hx => ?_⟩
    rcases List.mem_cons.1 hx with rfl | hx
    · exact h1.2
    · exact h2 x hx
section
variable {E : Env} {P : Program} (hE : EnvOk E P) {C : Call0}
variable {rest : List Ci} {k : List Item} {fn : Nat} {ds : List Df} {dd : Bool} {rnd : Option Key} {cs : List Fr} {frs : List Frame} {Fs : List Key} {arr : Array Oper}
    {d : Nat} {qs : List (Nat × Oper × Nat)} {idxs : List Nat} {μ : Mu} {L : Lo} {h : Hp} {nx : Key} {fr : Frame} {w : World}
include hE in
theorem ins_step {i : Nat} {is : List Nat} {o : Oper} {e : IE} {h1 : Hp} {nx' : Key} (A : DAt E P C rest k fn ds dd rnd cs frs Fs arr d qs (i :: is) μ L h fr w) (hd : inM d i = false) (ho : arr[i]? = some o) (hst : isIn o = true)
    (hef : ieOf E (qOf E (cxOf E fn)) o = some e) (hx : xMapUp E e.kt e.m e.k e.v h nx L = some (.mk undefA h1 nx')) (pa : ∀ j o', j ∈ is → inM d j = true → arr[j]? = some o' → ∀ h', PendH E (cxOf E fn) arr h' o' L) :
    ∃ v w' μ', Steps P (lone fr (frs ++ C.cs0) w) (lone (fr.finish v) (frs ++ C.cs0) w') ∧ μ.le μ' ∧ DAt E P C rest k fn ds dd rnd cs frs Fs arr (Nat.lor d (Nat.pow 2 i)) qs is μ' L h1 (fr.finish v) w' := by
  have hef := ieOf_inv hef
  obtain ⟨hm, hsz⟩ := A.fi.run _ _ _ _ rfl
  obtain ⟨hg, hdst, t, ox, oy, oz, hop⟩ := isIn_inv hst
  have hqq : ∀ y, VR μ (getO (q2 E (cxOf E fn) arr o y) L) (fr.eval y) := by rw [eval_evT]; exact q2_ok (DrI.reads A.sd A.dr A.gr rfl ho)
  have hev : (effI (q2 E (cxOf E fn) arr o) E o.op).ev E h nx L = some (.mk undefA h1 nx') := by
    rw [← effI_congr (q := qOf E (cxOf E fn)) (fun y hy => (q2_op hy).symm), hef]
    exact hx
  have notD : ∀ c, o.op ≠ .defer c := fun c hh => by rw [hop] at hh; cases hh
  have hw : Region.wanted o (yielded arr fr.tmps) = true := by simp [Region.wanted, hg]
  have hput : ∀ a : AV, Go.Ev.put (dst o.dst) a L = L := fun a => by rw [hdst, show dst none = .no from rfl, put_no]
  have hnot : i ∉ is := (List.nodup_cons.1 A.dr.lin.nodup).1
  have hpk := DrI.pkE A.sd A.dr hd ho undefA
  rw [hput] at hpk
  have hkf : (i :: is).filterMap (pk E (cxOf E fn) arr d L) = is.filterMap (pk E (cxOf E fn) arr d L) := List.filterMap_cons_none (pk_self A.sd (k := 0) hd)
  have hdr := fun ν hle v hv => DrI.eff A.sd (DrI.mono (ν := ν) hle A.dr) hd ho hsz (a := undefA) (v := v) hv
  obtain ⟨dst0, op, ty, pos, af, gd⟩ := o
  obtain ⟨v, nxt, w', ν, hrun, hnv, hv, hle, hh, he, hkp⟩ := eff_sound (d := dst0) (ty := ty) (pos := pos) (af := af) (gd := gd) hE A.hr A.ext.size hqq (fun f => rfl) hev
  refine ⟨v, w', ν, exec_step hm A.todo ho hw notD hrun hnv _, hle, ⟨A.sd, hh, A.gr.mono hle, A.ext.trans he, (A.fi.mono hle).finish v A.todo ho, A.st.mono hle, ?_, finish_todo fr v A.todo, A.td.mono hle, ?_, fun j o' hj hdj ho' => pa j o' hj ?_ ho' h1⟩⟩
  · rw [hpk, ← hkf]; exact A.kept.kp hkp
  · have := hdr ν hle v hv
    rw [hput] at this
    rw [finish_tmps fr v A.todo ho]
    exact this
  · rw [inM_lor] at hdj
    simp only [Bool.or_eq_true, decide_eq_true_eq] at hdj
    rcases hdj with h2 | h2
    · exact h2
    · subst h2; exact absurd hj hnot
include hE in
theorem keep_run : ∀ {idxs : List Nat} {μ : Mu} {fr : Frame} {w : World} {d : Nat} {h : Hp}, DAt E P C rest k fn ds dd rnd cs frs Fs arr d qs idxs μ L h fr w →
    ∃ idxs' μ' fr' w', Steps P (lone fr (frs ++ C.cs0) w) (lone fr' (frs ++ C.cs0) w') ∧ μ.le μ' ∧ DAt E P C rest k fn ds dd rnd cs frs Fs arr d qs idxs' μ' L h fr' w' ∧ (idxs' = [] ∨ ∃ j is, idxs' = j :: is ∧ inM d j = false) ∧ ∀ e ∈ idxs', e ∈ idxs := by
  intro idxs
  induction idxs with
  | nil => intro μ fr w d h a; exact ⟨[], μ, fr, w, .refl _ _, Mu.le_refl _, a, .inl rfl, fun e he => he⟩
  | cons i is ih =>
    intro μ fr w d h a
    cases hd : inM d i with
    | false => exact ⟨i :: is, μ, fr, w, .refl _ _, Mu.le_refl _, a, .inr ⟨i, is, rfl, hd⟩, fun e he => he⟩
    | true =>
      obtain ⟨v, w', μ', h1, h2, h3⟩ := pend_step hE a hd
      obtain ⟨idxs', μ2, fr2, w2, k1, k2, k3, k4, k5⟩ := ih h3
      exact ⟨idxs', μ2, fr2, w2, h1.trans k1, fun f g x hx => k2 _ _ _ (h2 _ _ _ hx), k3, k4, fun e he => List.mem_cons_of_mem _ (k5 e he)⟩
structure Rem (E : Env) (q : Operand → Opd) (arr : Array Oper) (L : Lo) (f : Key) (d : Nat) (es : List En) (R : List (Nat × Oper × Nat)) : Prop where
  nodup : (R.map (·.1)).Nodup
  mem : ∀ x ∈ R, arr[x.1]? = some x.2.1 ∧ inM d x.1 = false ∧ isIn x.2.1 = true ∧ ∃ e, ieOf E q x.2.1 = some e ∧ getO e.m L = .map f ∧ okKey E e.kt (getO e.k L) = true ∧ ∀ y ∈ es, aeq E 12 e.kt (getO e.k L) y.k = some false
  all : ∀ i, i < arr.size → inM d i = false → (∃ x ∈ R, x.1 = i) ∨ ∀ x ∈ R, inM (pre arr i) x.1 = true
  pw : (R.filterMap fun x => ieOf E q x.2.1).Pairwise (Apart E L)
def kvs (L : Lo) (l : List IE) : List (AV × AV) := l.map fun e => (getO e.k L, getO e.v L)
include hE in
theorem many_run {f : Key} {h0 : Hp} (nx : Key) : ∀ (n : Nat) (R : List (Nat × Oper × Nat)) (es : List En) (clock d : Nat) (idxs : List Nat) (μ : Mu) (h : Hp) (fr : Frame) (w : World), R.length = n →
    DAt E P C rest k fn ds dd rnd cs frs Fs arr d qs idxs μ L h fr w → Rem E (qOf E (cxOf E fn)) arr L f d es R → hget f h = .map es clock → (∀ g, g ≠ f → hget g h = hget g h0) →
    (∀ j o', j ∈ idxs → inM d j = true → arr[j]? = some o' → ∀ h', PendH E (cxOf E fn) arr h' o' L) →
    ∃ fr' w' μ' d' h' es' clock' idxs', Steps P (lone fr (frs ++ C.cs0) w) (lone fr' (frs ++ C.cs0) w') ∧ μ.le μ' ∧ DAt E P C rest k fn ds dd rnd cs frs Fs arr d' qs idxs' μ' L h' fr' w' ∧
      hget f h' = .map es' clock' ∧ (∀ g, g ≠ f → hget g h' = hget g h0) ∧ (es'.map kv).Perm (es.map kv ++ kvs L (R.filterMap fun x => ieOf E (qOf E (cxOf E fn)) x.2.1)) ∧
      (∀ p, inM d' p = (inM d p || decide (∃ x ∈ R, x.1 = p))) ∧ (∀ j o', j ∈ idxs' → inM d' j = true → arr[j]? = some o' → ∀ h', PendH E (cxOf E fn) arr h' o' L) := by
  intro n
  induction n with
  | zero =>
    intro R es clock d idxs μ h fr w hn A hR hf hg pa
    have : R = [] := List.eq_nil_of_length_eq_zero hn
    subst this
    exact ⟨fr, w, μ, d, h, es, clock, idxs, .refl _ _, Mu.le_refl _, A, hf, hg, by simp [kvs], fun p => by simp, pa⟩
  | succ n ih =>
    intro R es clock d idxs μ h fr w hn A hR hf hg pa
    obtain ⟨is2, μ2, fr2, w2, s2, le2, A2, hend, hsub⟩ := keep_run hE A
    rcases hend with rfl | ⟨j, is, rfl, hdj⟩
    · exfalso
      cases R with
      | nil => cases hn
      | cons x R =>
        obtain ⟨h1, h2, _⟩ := hR.mem x (List.mem_cons_self ..)
        rw [A2.dr.cd x.1 (Array.getElem?_eq_some_iff.1 h1).1 (by simp)] at h2
        cases h2
    · obtain ⟨x, hx, rfl⟩ : ∃ x ∈ R, x.1 = j := by
        rcases hR.all j (A2.dr.lin.lt j (List.mem_cons_self ..)) hdj with hh | hh
        · exact hh
        · exfalso
          cases R with
          | nil => cases hn
          | cons x R =>
            have h1 := hh x (List.mem_cons_self ..)
            have h2 := (DrI.ahead A2.sd A2.dr h1).1
            rw [(hR.mem x (List.mem_cons_self ..)).2.1] at h2
            cases h2
      obtain ⟨r1, r2, rfl⟩ := List.append_of_mem hx
      obtain ⟨h1, h2, h3, e, h4, h5, h6, h7⟩ := hR.mem x hx
      have hfk : findK E e.kt (getO e.k L) es = some none := by
        unfold findK
        rw [h6]
        exact findK0_none h7
      have hup : xMapUp E e.kt e.m e.k e.v h nx L = some (.mk undefA (hset f (.map (es ++ [.mk (getO e.k L) (getO e.v L) clock]) (Nat.succ clock)) h) nx) := by
        unfold xMapUp
        rw [h5]
        show asMapO (hget f h) none _ = _
        rw [hf]
        show opt (findK E e.kt (getO e.k L) es) none _ = _
        rw [hfk]
        rfl
      have hnot : x.1 ∉ is := (List.nodup_cons.1 A2.dr.lin.nodup).1
      obtain ⟨v3, w3, μ3, s3, le3, A3⟩ := ins_step hE A2 hdj h1 h3 h4 hup (fun e o' he hde ho' => pa e o' (hsub e (List.mem_cons_of_mem _ he)) hde ho')
      have hperm : (r1 ++ x :: r2).Perm (x :: (r1 ++ r2)) := List.perm_middle
      have hnd : ((x :: (r1 ++ r2)).map (·.1)).Nodup := (hperm.map _).nodup_iff.1 hR.nodup
      rw [List.map_cons, List.nodup_cons] at hnd
      have hpf := hperm.filterMap (fun x => ieOf E (qOf E (cxOf E fn)) x.2.1)
      have hpw : ((x :: (r1 ++ r2)).filterMap fun x => ieOf E (qOf E (cxOf E fn)) x.2.1).Pairwise (Apart E L) := (hpf.pairwise_iff (fun hh => Apart.symm hh)).1 hR.pw
      rw [List.filterMap_cons, h4] at hpw
      simp only at hpw
      obtain ⟨hpw1, hpw2⟩ := List.pairwise_cons.1 hpw
      have hR' : Rem E (qOf E (cxOf E fn)) arr L f (Nat.lor d (Nat.pow 2 x.1)) (es ++ [.mk (getO e.k L) (getO e.v L) clock]) (r1 ++ r2) := by
        refine ⟨hnd.2, fun y hy => ?_, fun i hi hdi => ?_, hpw2⟩
        · have hy0 : y ∈ r1 ++ x :: r2 := hperm.mem_iff.2 (List.mem_cons_of_mem _ hy)
          obtain ⟨k1, k2, k3, e', k4, k5, k6, k7⟩ := hR.mem y hy0
          refine ⟨k1, ?_, k3, e', k4, k5, k6, fun z hz => ?_⟩
          · rw [inM_lor, k2]
            simp only [Bool.false_or, decide_eq_false_iff_not]
            intro e2
            exact hnd.1 (List.mem_map.2 ⟨y, hy, e2.symm⟩)
          · rcases List.mem_append.1 hz with hz | hz
            · exact k7 z hz
            · rw [List.mem_singleton] at hz; subst hz
              exact (hpw1 e' (List.mem_filterMap.2 ⟨y, hy, k4⟩)).2
        · rw [inM_lor] at hdi
          simp only [Bool.or_eq_false_iff, decide_eq_false_iff_not] at hdi
          rcases hR.all i hi hdi.1 with ⟨y, hy, hyi⟩ | hh
          · rcases List.mem_cons.1 (hperm.mem_iff.1 hy) with rfl | hy
            · exact absurd hyi hdi.2
            · exact .inl ⟨y, hy, hyi⟩
          · exact .inr fun y hy => hh y (hperm.mem_iff.2 (List.mem_cons_of_mem _ hy))
      obtain ⟨fr4, w4, μ4, d4, h4', es4, c4, is4, s4, le4, A4, f4, g4, p4, b4, pa4⟩ := ih (r1 ++ r2) (es ++ [.mk (getO e.k L) (getO e.v L) clock]) (Nat.succ clock) _ is μ3 _ _ _ (by simp at hn ⊢; omega) A3 hR' (hget_hset _ _ _)
        (fun g hgf => by rw [hget_hset_ne (fun e => hgf e.symm)]; exact hg g hgf)
        (fun j o' hj hdj' ho' => pa j o' (hsub j (List.mem_cons_of_mem _ hj)) (by
          rw [inM_lor] at hdj'
          simp only [Bool.or_eq_true, decide_eq_true_eq] at hdj'
          rcases hdj' with h8 | h8
          · exact h8
          · subst h8; exact absurd hj hnot) ho')
      refine ⟨fr4, w4, μ4, d4, h4', es4, c4, is4, (s2.trans s3).trans s4, fun f g z hz => le4 _ _ _ (le3 _ _ _ (le2 _ _ _ hz)), A4, f4, g4, p4.trans ?_, fun p => ?_, pa4⟩
      · rw [List.map_append, List.append_assoc]
        refine List.Perm.append_left _ ?_
        have := (hpf.map fun e => (getO e.k L, getO e.v L))
        rw [List.filterMap_cons, h4] at this
        exact this.symm
      · rw [b4, inM_lor, Bool.or_assoc]
        congr 1
        rw [Bool.eq_iff_iff]
        simp only [Bool.or_eq_true, decide_eq_true_eq]
        constructor
        · rintro (hh | ⟨y, hy, rfl⟩)
          · exact ⟨x, hx, hh⟩
          · exact ⟨y, hperm.mem_iff.2 (List.mem_cons_of_mem _ hy), rfl⟩
        · rintro ⟨y, hy, rfl⟩
          rcases List.mem_cons.1 (hperm.mem_iff.1 hy) with rfl | hy
          · exact .inl rfl
          · exact .inr ⟨y, hy, rfl⟩
theorem DAt.weak {h' : Hp} (A : DAt E P C rest k fn ds dd rnd cs frs Fs arr d qs idxs μ L h fr w) (hr : HR C.W.heap.size μ h' w) (e : ∀ f, (hget f h).isNone = false → (hget f h').isNone = false)
    (pa : ∀ j o', j ∈ idxs → inM d j = true → arr[j]? = some o' → ∀ h', PendH E (cxOf E fn) arr h' o' L) :
    DAt E P C rest k fn ds dd rnd cs frs Fs arr d qs idxs μ L h' fr w :=
  ⟨A.sd, hr, A.gr, A.ext, A.fi, A.st, ⟨A.kept.1, fun f hf => ⟨e f (A.kept.2 f hf).1, (A.kept.2 f hf).2⟩⟩, A.todo, A.td, A.dr, fun i o hi hd ho => pa i o hi hd ho h'⟩
theorem lorAll_inM {p : Nat} : ∀ {l : List (Nat × Oper × Nat)} {d : Nat}, inM (lorAll d l) p = (inM d p || decide (∃ x ∈ l, x.1 = p))
  | [], d => by simp [lorAll]
  | x :: l, d => by
    show inM (lorAll (Nat.lor d (Nat.pow 2 x.1)) l) p = _
    rw [lorAll_inM (l := l), inM_lor, Bool.or_assoc]
    congr 1
    rw [Bool.eq_iff_iff]
    simp
theorem HR.mapWeak {B : Nat} {f : Key} {es es0 : List En} {clock : Nat} {h' : Hp} (hH : HR B μ h w) (ho : hget f h = .map es clock) (hp : (es0.map kv).Perm (es.map kv)) (hf : hget f h' = .mapu es0) (hg : ∀ g, g ≠ f → hget g h' = hget g h) : HR B μ h' w :=
  ⟨hH.inj, hH.lt, fun g => by
    by_cases e : g = f
    · subst e
      have hO := hH.obj g
      rw [ho] at hO
      rw [hf]
      obtain ⟨h1, h2⟩ := hO
      refine ⟨h1, fun b s n hm => ?_⟩
      obtain ⟨h3, es', h4, h5⟩ := h2 b s n hm
      exact ⟨h3, es', clock, es, h4, h5, hp⟩
    · rw [hg g e]; exact hH.obj g, hH.side, hH.fk, hH.start⟩
end
end
end Go.Ev
