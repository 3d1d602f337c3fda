/- THE EVALUATOR, part 9 of 10: EvDr8 EvDr9 EvDr12 EvDr13 EvDr14 EvDr10 EvDr11 EvCtl11 EvCtl12 -/
import Derived.Test.YtmaokndfmohdpaaGreatDoorEv8
set_option linter.unusedVariables false
set_option linter.unusedSectionVars false
set_option linter.unusedSimpArgs false
namespace Go.Ev
set_option linter.unusedVariables false
set_option linter.unusedSectionVars false
set_option linter.unusedSimpArgs false
noncomputable section
variable [Val]

theorem fm_insert {f g : Nat → Option Key} {i : Nat} {n : Key} {Fs : List Key} : ∀ {l : List Nat}, l.Nodup → i ∈ l → f i = none → g i = some n → (∀ j ∈ l, j ≠ i → g j = f j) →
    (l.filterMap f ++ Fs).Nodup → n ∉ l.filterMap f ++ Fs → (l.filterMap g ++ Fs).Nodup ∧ ∀ y, y ∈ l.filterMap g ++ Fs → y = n ∨ y ∈ l.filterMap f ++ Fs
  | [], _, hi, _, _, _, _, _ => by cases hi
  | j :: l, hnd, hi, hf, hg, hs, hN, hn => by
    have hnd' := List.nodup_cons.1 hnd
    by_cases e : j = i
    · subst e
      have he : l.filterMap g = l.filterMap f := fm_congr fun a ha => hs a (List.mem_cons_of_mem _ ha) (fun e => by subst e; exact hnd'.1 ha)
      rw [List.filterMap_cons_none hf] at hN hn ⊢
      rw [List.filterMap_cons_some hg, he]
      refine ⟨List.nodup_cons.2 ⟨hn, hN⟩, fun y hy => ?_⟩
      rw [List.cons_append] at hy
      rcases List.mem_cons.1 hy with h | h
      · exact .inl h
      · exact .inr h
    · have hi' : i ∈ l := by rcases List.mem_cons.1 hi with h | h; exact absurd h.symm e; exact h
      have hgj := hs j (List.mem_cons_self ..) e
      cases hfj : f j with
      | none =>
        rw [hfj] at hgj
        rw [List.filterMap_cons_none hfj] at hN hn ⊢
        rw [List.filterMap_cons_none hgj]
        exact fm_insert hnd'.2 hi' hf hg (fun a ha hne => hs a (List.mem_cons_of_mem _ ha) hne) hN hn
      | some y0 =>
        rw [hfj] at hgj
        rw [List.filterMap_cons_some hfj] at hN hn ⊢
        rw [List.filterMap_cons_some hgj]
        simp only [List.cons_append] at hN hn ⊢
        have hN' := List.nodup_cons.1 hN
        obtain ⟨k1, k2⟩ := fm_insert hnd'.2 hi' hf hg (fun a ha hne => hs a (List.mem_cons_of_mem _ ha) hne) hN'.2 (fun h => hn (List.mem_cons_of_mem _ h))
        refine ⟨List.nodup_cons.2 ⟨fun h => ?_, k1⟩, fun y hy => ?_⟩
        · rcases k2 _ h with e2 | e2
          · subst e2; exact hn (List.mem_cons_self ..)
          · exact hN'.1 e2
        · rcases List.mem_cons.1 hy with e2 | e2
          · exact .inr (by subst e2; exact List.mem_cons_self ..)
          · rcases k2 y e2 with e3 | e3
            · exact .inl e3
            · exact .inr (List.mem_cons_of_mem _ e3)

section
variable {E : Env} {P : Program} {C : Call0}
variable {rest : List Ci} {k : List Item} {fn : Nat} {ds : List Df} {dd : Bool} {rnd : Option Key} {cs : List Fr} {frs : List Frame} {Fs : List Key} {arr : Array Oper}
    {d : Nat} {qs : List (Nat × Oper × Nat)} {idxs : List Nat} {μ : Mu} {L : Lo} {h : Hp} {fr : Frame} {w : World}

/-- one quiet operation, done ahead of the machine -/
theorem quiet_step {i m : Nat} {o : Oper} {l : List Ins} {nx : Key} {M : Machine} {K : Kx} (a : DAt E P C rest k fn ds dd rnd cs frs Fs arr d qs idxs μ L h fr w) (he : (i, o, m) ∈ marked arr) (hd : inM d i = false) (hq : isQ E o = true) (hm : subM m d = true)
    (go : ∀ L' h' nx', DAt E P C rest k fn ds dd rnd cs frs Fs arr (Nat.lor d (Nat.pow 2 i)) (qs ++ [(i, o, m)]) idxs μ L' h' fr w → Good E P C (ops E l K L' h' nx') M) :
    Good E P C (ops E (insOf (qOf E (cxOf E fn)) E arr (dst o.dst) o :: l) K L h nx) M := by
  obtain ⟨ho, rfl⟩ := mem_marked.1 he
  have hlt : i < arr.size := (Array.getElem?_eq_some_iff.1 ho).1
  have hi : i ∈ idxs := by
    by_cases hh : i ∈ idxs
    · exact hh
    · rw [a.dr.cd i hlt hh] at hd; cases hd
  have hok := (a.sd.ok ho).1
  have so := fun v => (same_self (v := v) (L := L) a.sd ho hq).1
  have sg := fun v => (same_self (v := v) (L := L) a.sd ho hq).2
  have hsame : ∀ v j o', j ∈ idxs → j ≠ i → inM d j = true → arr[j]? = some o' → SameFor E (cxOf E fn) arr o' L (Go.Ev.put (dst o.dst) v L) := by
    intro v j o' hj hne hdj ho'
    refine same_put a.sd ho ho' (fun e => hne e.symm) ?_ (fun h => by rw [hq] at h; cases h)
    cases hh : inM (pre arr j) i with
    | false => rfl
    | true => rw [a.dr.dcl j i (a.dr.lin.lt j hj) hdj hh] at hd; cases hd
  have hdj : ∀ j, inM (Nat.lor d (Nat.pow 2 i)) j = true → j ≠ i → inM d j = true := by
    intro j hj hne
    rw [inM_lor] at hj
    simp only [Bool.or_eq_true, decide_eq_true_eq] at hj
    rcases hj with h | h
    · exact h
    · exact absurd h.symm hne
  have hii : inM (Nat.lor d (Nat.pow 2 i)) i = true := by rw [inM_lor]; simp
  -- all that is to be shown
  have fin : ∀ (v : AV) (h' : Hp) (nx' : Key), (∀ t, t < 512 → t ∉ o.dst.toList → True) → HR C.W.heap.size μ h' w → Kept1 μ h' (idxs.filterMap (pk E (cxOf E fn) arr (Nat.lor d (Nat.pow 2 i)) (Go.Ev.put (dst o.dst) v L)) ++ Fs) → Grow h h' →
      PendL E (cxOf E fn) arr o (Go.Ev.put (dst o.dst) v L) → PendH E (cxOf E fn) arr h' o (Go.Ev.put (dst o.dst) v L) → Good E P C (ops E l K (Go.Ev.put (dst o.dst) v L) h' nx') M := by
    intro v h' nx' _ hr hk hg hpl hph
    refine go _ _ _ ⟨a.sd, hr, a.gr, a.ext, a.fi, a.st, hk, a.todo, a.td, ⟨a.dr.lin, fun j hj hn => ?_, fun j p hj hdj' hp => ?_, fun j hj hdj' => ?_, fun e he' => ?_, fun t ht hX => ?_, fun j o' hj hdj' ho' => ?_⟩, fun j o' hj hdj' ho' => ?_⟩
    · rw [inM_lor, a.dr.cd j hj hn]; rfl
    · rw [inM_lor]
      by_cases e : j = i
      · subst e; rw [subM_inM hm hp]; rfl
      · rw [a.dr.dcl j p hj (hdj j hdj' e) hp]; rfl
    · by_cases e : j = i
      · subst e; exact ⟨o, _, List.mem_append_right _ (List.mem_singleton.2 rfl)⟩
      · obtain ⟨o', m', hm'⟩ := a.dr.hqs j hj (hdj j hdj' e)
        exact ⟨o', m', List.mem_append_left _ hm'⟩
    · rcases List.mem_append.1 he' with h1 | h1
      · exact a.dr.qsm e h1
      · rw [List.mem_singleton] at h1; subst h1; exact ⟨he, hq⟩
    · have hne : o.dst ≠ some t := fun e => hX ⟨i, hi, hii, o, ho, e⟩
      rw [put_ne hok (inNd_lt ht) hne]
      refine a.dr.need t ht ?_
      rintro ⟨j, hj, hdj', o', ho', hdst⟩
      exact hX ⟨j, hj, by rw [inM_lor, hdj']; rfl, o', ho', hdst⟩
    · by_cases e : j = i
      · subst e; rw [ho] at ho'; cases ho'; exact hpl
      · exact (hsame v j o' hj e (hdj j hdj' e) ho').pendL (a.dr.pl j o' hj (hdj j hdj' e) ho')
    · by_cases e : j = i
      · subst e; rw [ho] at ho'; cases ho'; exact hph
      · exact (hsame v j o' hj e (hdj j hdj' e) ho').pendH ((a.ph j o' hj (hdj j hdj' e) ho').grow hg)
  have htg : ∀ v, tgtV (Go.Ev.put (dst o.dst) v L) o = match o.dst with | some _ => v | none => undefA := by
    intro v
    unfold tgtV
    cases hdst : o.dst with
    | none => rfl
    | some t => exact put_same
  have hpkj : ∀ v j, j ∈ idxs → j ≠ i → pk E (cxOf E fn) arr (Nat.lor d (Nat.pow 2 i)) (Go.Ev.put (dst o.dst) v L) j = pk E (cxOf E fn) arr d L j := by
    intro v j hj hne
    unfold pk
    rw [inM_lor, show decide (i = j) = false from by simp [Ne.symm hne], Bool.or_false]
    cases ho' : arr[j]? with
    | none => rfl
    | some o' =>
      simp only
      cases hdj' : inM d j with
      | false => rfl
      | true => rw [(hsame v j o' hj hne hdj' ho').tgt]
  have hpki : ∀ v, pk E (cxOf E fn) arr (Nat.lor d (Nat.pow 2 i)) (Go.Ev.put (dst o.dst) v L) i = match insU (qOf E (cxOf E fn)) E .no o with | .al _ _ => keyOfA (match o.dst with | some _ => v | none => undefA) | _ => none := by
    intro v
    unfold pk
    rw [ho]
    simp only
    rw [hii, htg]; rfl
  have hpk0 : pk E (cxOf E fn) arr d L i = none := pk_self a.sd (k := 0) hd
  have keptSame : ∀ v h', (match insU (qOf E (cxOf E fn)) E .no o with | .al _ _ => keyOfA (match o.dst with | some _ => v | none => undefA) | _ => none) = none → Kept1 μ h' (idxs.filterMap (pk E (cxOf E fn) arr d L) ++ Fs) →
      Kept1 μ h' (idxs.filterMap (pk E (cxOf E fn) arr (Nat.lor d (Nat.pow 2 i)) (Go.Ev.put (dst o.dst) v L)) ++ Fs) := by
    intro v h' hnone hk
    rw [fm_congr (g := pk E (cxOf E fn) arr d L) fun j hj => ?_]
    · exact hk
    · by_cases e : j = i
      · subst e; rw [hpki, hnone, hpk0]
      · exact hpkj v j hj e
  -- skipped
  have skip : ∀ nx', GOff E (cxOf E fn) arr o L → Good E P C (ops E l K (Go.Ev.put (dst o.dst) undefA L) h nx') M := by
    intro nx' hoff
    have hoff' : GOff E (cxOf E fn) arr o (Go.Ev.put (dst o.dst) undefA L) := by
      obtain ⟨y, w0, h1, h2⟩ := hoff
      exact ⟨y, w0, h1, by rw [sg undefA y w0 h1]; exact h2⟩
    refine fin undefA h nx' (fun _ _ _ => trivial) a.hr (keptSame _ _ ?_ a.kept) (fun f _ => rfl) (.inl ⟨hoff', fun t ht => ?_⟩) (.inl hoff')
    · split
      · cases o.dst <;> rfl
      · rfl
    · rw [ht]; exact put_same
  have main : GOn E (cxOf E fn) arr o L → Good E P C ((insU (qOf E (cxOf E fn)) E (dst o.dst) o).run E l (ops E l) K L h nx) M := by
    intro hon
    have hon' : ∀ v, GOn E (cxOf E fn) arr o (Go.Ev.put (dst o.dst) v L) := by
      intro v
      rcases hon with hon | ⟨y, w0, h1, h2⟩
      · exact .inl hon
      · exact .inr ⟨y, w0, h1, (sg v y w0 h1).trans h2⟩
    have hag : ∀ v, Agr E (cxOf E fn) o L (Go.Ev.put (dst o.dst) v L) := fun v y hy => (so v y hy).symm
    have hsl : ∀ v t, o.dst = some t → v = getT t (Go.Ev.put (dst o.dst) v L).tm := fun v t ht => by rw [ht]; exact put_same.symm
    have hkq : kindOf E o.op ≤ 1 := Nat.le_of_ble_eq_true hq
    have hk01 : kindOf E o.op = 0 ∨ kindOf E o.op = 1 := by omega
    rcases hk01 with hk | hk
    · have e1 : ∀ dd, insU (qOf E (cxOf E fn)) E dd o = .pu dd (pureI (qOf E (cxOf E fn)) E o.op) := fun dd => by unfold insU; simp only [hk]
      rw [e1]
      show Good E P C (opt ((pureI (qOf E (cxOf E fn)) E o.op).ev E h L) .fail fun v => ops E l K (Go.Ev.put (dst o.dst) v L) h nx) M
      cases hev : (pureI (qOf E (cxOf E fn)) E o.op).ev E h L with
      | none => trivial
      | some v =>
        simp only [opt_some]
        refine fin v h nx (fun _ _ _ => trivial) a.hr (keptSame _ _ (by rw [e1]) a.kept) (fun f _ => rfl) (.inr ⟨hon' v, ?_⟩) (.inr ?_)
        · rw [e1]
          simp only
          cases hmp : memP (pureI (qOf E (cxOf E fn)) E o.op) with
          | true => exact .inl rfl
          | false => exact .inr ⟨L, hag v, fun h0 => ⟨v, by rw [mem_free hmp h0 h]; exact hev, hsl v⟩⟩
        · rw [e1]
          exact fun _ => ⟨L, hag v, v, hev, hsl v⟩
    · have e1 : ∀ dd, insU (qOf E (cxOf E fn)) E dd o = .al dd (allocI (qOf E (cxOf E fn)) E o.op) := fun dd => by unfold insU; simp only [hk]
      rw [e1]
      show Good E P C (opt ((allocI (qOf E (cxOf E fn)) E o.op).ev h nx L) .fail fun r => Prod.rec (motive := fun _ => Sp) (fun o' v => cnd (hget nx h).isNone (ops E l K (Go.Ev.put (dst o.dst) v L) (hset nx o' h) nx.next) .fail) r) M
      cases hev : (allocI (qOf E (cxOf E fn)) E o.op).ev h nx L with
      | none => trivial
      | some r =>
        obtain ⟨ob, v⟩ := r
        simp only [opt_some]
        cases hnx : (hget nx h).isNone with
        | false => trivial
        | true =>
          simp only [cnd_true]
          obtain ⟨hst, hnn, hkey⟩ := alloc_stat hev
          have hno := a.hr.noneAt hnx
          have hdst : ∃ t, o.dst = some t := by
            have := (a.sd.ok ho).2.2
            unfold dstOk at this
            rw [e1] at this
            cases hdst : o.dst with
            | none => rw [hdst] at this; cases this
            | some t => exact ⟨t, rfl⟩
          obtain ⟨t, hdst⟩ := hdst
          refine fin v (hset nx ob h) nx.next (fun _ _ _ => trivial) (a.hr.add hst hno) ?_ (Grow.new hnx) (.inr ⟨hon' v, by rw [e1]; trivial⟩) (.inr ?_)
          · have hgi : pk E (cxOf E fn) arr (Nat.lor d (Nat.pow 2 i)) (Go.Ev.put (dst o.dst) v L) i = some nx := by
              rw [hpki, e1]
              simp only
              rw [hdst]; exact hkey
            obtain ⟨k1, k2⟩ := fm_insert (n := nx) a.dr.lin.nodup hi hpk0 hgi (hpkj v) a.kept.1 (fun hmem => by have := (a.kept.2 nx hmem).1; rw [hnx] at this; cases this)
            refine ⟨k1, fun f hf => ?_⟩
            rcases k2 f hf with rfl | hf
            · exact ⟨by rw [hget_hset]; exact hnn, hno⟩
            · obtain ⟨k3, k4⟩ := a.kept.2 f hf
              exact ⟨by rw [hget_hset_ne (fun e => by subst e; rw [hnx] at k3; cases k3)]; exact k3, k4⟩
          · rw [e1]
            refine ⟨L, nx, hag v, ?_, by rw [hget_hset]; exact hnn, ?_⟩
            · rw [htg, hdst]; exact hkey
            · rw [hget_hset, htg, hdst]
              exact ai_grow (Grow.new hnx) hev
  -- the guard
  show Good E P C ((insOf (qOf E (cxOf E fn)) E arr (dst o.dst) o).run E l (ops E l) K L h nx) M
  unfold insOf insG
  cases hg : o.guard with
  | none => exact main (.inl hg)
  | some p =>
    obtain ⟨j, want⟩ := p
    simp only
    cases hj : arr[j]? with
    | none => trivial
    | some p =>
      simp only
      cases hdp : p.dst with
      | none => trivial
      | some t =>
        simp only
        have hgo : guardOf arr o = some (.tmp t, want) := by unfold guardOf; rw [hg]; simp only; rw [hj]; simp only; rw [hdp]
        show Good E P C (asBool (getO (qOf E (cxOf E fn) (.tmp t)) L) (asTuple (getO (qOf E (cxOf E fn) (.tmp t)) L) .fail fun _ => ops E l K (Go.Ev.put (dst o.dst) undefA L) h nx)
          fun b => cnd (cnd b want (bnot want)) ((insU (qOf E (cxOf E fn)) E (dst o.dst) o).run E l (ops E l) K L h nx) (ops E l K (Go.Ev.put (dst o.dst) undefA L) h nx)) M
        cases hv : getO (qOf E (cxOf E fn) (.tmp t)) L with
        | bool b =>
          show Good E P C (cnd (cnd b want (bnot want)) _ _) M
          have e1 : cnd b want (bnot want) = (b == want) := by cases b <;> cases want <;> rfl
          rw [e1]
          cases hbw : b == want with
          | true =>
            have : b = want := by cases b <;> cases want <;> first | rfl | cases hbw
            subst this
            exact main (.inr ⟨_, _, hgo, hv⟩)
          | false =>
            have : b = !want := by cases b <;> cases want <;> first | rfl | cases hbw
            subst this
            exact skip nx ⟨_, _, hgo, .inl hv⟩
        | tuple vs => exact skip nx ⟨_, _, hgo, .inr ⟨vs, hv⟩⟩
        | _ => trivial
end
end
end Go.Ev


namespace Go.Ev
set_option linter.unusedVariables false
set_option linter.unusedSectionVars false
set_option linter.unusedSimpArgs false
noncomputable section
variable [Val]

theorem marked_inj {arr : Array Oper} {e e' : Nat × Oper × Nat} (h : e ∈ marked arr) (h' : e' ∈ marked arr) (he : e.1 = e'.1) : e = e' := by
  obtain ⟨i, o, m⟩ := e
  obtain ⟨i', o', m'⟩ := e'
  obtain ⟨h1, rfl⟩ := mem_marked.1 h
  obtain ⟨h2, rfl⟩ := mem_marked.1 h'
  simp only at he
  subst he
  rw [h1] at h2; cases h2; rfl
theorem marked_nodup (arr : Array Oper) : (marked arr).Nodup := by
  have h : ((marked arr).map (·.1)).Nodup := by
    unfold marked
    rw [List.map_fst_zip]
    · exact List.nodup_range
    · simp [before_size]
  exact (List.pairwise_map.1 h).imp fun hne e => hne (by rw [e])

theorem takeQ_spec {E : Env} {arr : Array Oper} : ∀ {td : List (Nat × Oper × Nat)} {d : Nat} {a r : List (Nat × Oper × Nat)} {d1 : Nat}, takeQ E d td = (a, r, d1) → td.Nodup → (∀ e ∈ td, e ∈ marked arr ∧ inM d e.1 = false) →
    r.Nodup ∧ (∀ e ∈ r, e ∈ td) ∧ (∀ e ∈ td, e ∈ r ∨ inM d1 e.1 = true) ∧ (∀ e ∈ r, inM d1 e.1 = false) ∧ (∀ p, inM d p = true → inM d1 p = true) ∧ (∀ p, inM d1 p = true → inM d p = true ∨ ∃ e ∈ td, e.1 = p)
  | [], d, a, r, d1, h, _, _ => by
    cases h
    exact ⟨List.nodup_nil, (fun e he => by cases he), (fun e he => by cases he), (fun e he => by cases he), fun p hp => hp, fun p hp => .inl hp⟩
  | (i, o, m) :: l, d, a, r, d1, h, hnd, hm => by
    have hnd' := List.nodup_cons.1 hnd
    have hi := hm _ (List.mem_cons_self ..)
    unfold takeQ at h
    cases hb : isQ E o && subM m d with
    | true =>
      rw [hb] at h
      simp only [cond_true] at h
      generalize hg : takeQ E (Nat.lor d (Nat.pow 2 i)) l = g at h
      obtain ⟨a', b, d'⟩ := g
      simp only [Prod.mk.injEq] at h
      obtain ⟨rfl, rfl, rfl⟩ := h
      obtain ⟨k1, k2, k3, k4, k5, k6⟩ := takeQ_spec hg hnd'.2 (fun e he => by
        have he' := hm e (List.mem_cons_of_mem _ he)
        refine ⟨he'.1, ?_⟩
        rw [inM_lor, he'.2]
        have hne : i ≠ e.1 := fun hh => hnd'.1 (by rw [marked_inj hi.1 he'.1 hh]; exact he)
        simp [hne])
      have hdi : ∀ p, inM (Nat.lor d (Nat.pow 2 i)) p = true ↔ inM d p = true ∨ i = p := fun p => by rw [inM_lor]; simp
      refine ⟨k1, fun e he => List.mem_cons_of_mem _ (k2 e he), fun e he => ?_, k4, fun p hp => k5 p ((hdi p).2 (.inl hp)), fun p hp => ?_⟩
      · rcases List.mem_cons.1 he with rfl | he
        · exact .inr (k5 _ ((hdi _).2 (.inr rfl)))
        · exact k3 e he
      · rcases k6 p hp with hp | ⟨e, he, hp⟩
        · rcases (hdi p).1 hp with hp | hp
          · exact .inl hp
          · exact .inr ⟨_, List.mem_cons_self .., hp⟩
        · exact .inr ⟨e, List.mem_cons_of_mem _ he, hp⟩
    | false =>
      rw [hb] at h
      simp only [cond_false] at h
      generalize hg : takeQ E d l = g at h
      obtain ⟨a', b, d'⟩ := g
      simp only [Prod.mk.injEq] at h
      obtain ⟨rfl, rfl, rfl⟩ := h
      obtain ⟨k1, k2, k3, k4, k5, k6⟩ := takeQ_spec hg hnd'.2 (fun e he => hm e (List.mem_cons_of_mem _ he))
      refine ⟨List.nodup_cons.2 ⟨fun hh => hnd'.1 (k2 _ hh), k1⟩, fun e he => ?_, fun e he => ?_, fun e he => ?_, k5, fun p hp => ?_⟩
      · rcases List.mem_cons.1 he with rfl | he
        · exact List.mem_cons_self ..
        · exact List.mem_cons_of_mem _ (k2 e he)
      · rcases List.mem_cons.1 he with rfl | he
        · exact .inl (List.mem_cons_self ..)
        · exact (k3 e he).imp (List.mem_cons_of_mem _) id
      · rcases List.mem_cons.1 he with rfl | he
        · cases hd : inM d' i with
          | false => rfl
          | true =>
            rcases k6 i hd with hp | ⟨e, he, hp⟩
            · rw [hi.2] at hp; cases hp
            · have := marked_inj (hm e (List.mem_cons_of_mem _ he)).1 hi.1 hp
              subst this
              exact absurd he hnd'.1
        · exact k4 e he
      · rcases k6 p hp with hp | ⟨e, he, hp⟩
        · exact .inl hp
        · exact .inr ⟨e, List.mem_cons_of_mem _ he, hp⟩
theorem Left.quiet {E : Env} {arr : Array Oper} {td a r : List (Nat × Oper × Nat)} {d d1 : Nat} (k : Left arr d td) (h : takeQ E d td = (a, r, d1)) : Left arr d1 r := by
  obtain ⟨k1, k2, k3, k4, k5, k6⟩ := takeQ_spec h k.1 (fun e he => (k.2 e).1 he)
  refine ⟨k1, fun e => ⟨fun he => ⟨((k.2 e).1 (k2 e he)).1, k4 e he⟩, fun he => ?_⟩⟩
  have hd : inM d e.1 = false := by
    cases hd : inM d e.1 with
    | false => rfl
    | true => rw [k5 _ hd] at he; cases he.2
  rcases k3 e ((k.2 e).2 ⟨he.1, hd⟩) with h1 | h1
  · exact h1
  · rw [h1] at he; cases he.2
theorem takeE_spec {E : Env} : ∀ {td : List (Nat × Oper × Nat)} {d : Nat} {x : Nat × Oper × Nat} {r : List (Nat × Oper × Nat)}, takeE E d td = some (x, r) →
    isQ E x.2.1 = false ∧ subM x.2.2 d = true ∧ (∀ e, e ∈ td ↔ e = x ∨ e ∈ r) ∧ (td.Nodup → r.Nodup ∧ x ∉ r)
  | [], d, x, r, h => by cases h
  | (i, o, m) :: l, d, x, r, h => by
    unfold takeE at h
    cases hb : !isQ E o && subM m d with
    | true =>
      rw [hb] at h
      simp only [cond_true, Option.some.injEq, Prod.mk.injEq] at h
      obtain ⟨rfl, rfl⟩ := h
      simp only [Bool.and_eq_true, Bool.not_eq_true'] at hb
      exact ⟨hb.1, hb.2, fun e => List.mem_cons, fun hnd => ⟨(List.nodup_cons.1 hnd).2, (List.nodup_cons.1 hnd).1⟩⟩
    | false =>
      rw [hb] at h
      simp only [cond_false] at h
      cases ht : takeE E d l with
      | none => rw [ht] at h; cases h
      | some p =>
        obtain ⟨x', r'⟩ := p
        rw [ht] at h
        simp only [Option.some.injEq, Prod.mk.injEq] at h
        obtain ⟨rfl, rfl⟩ := h
        obtain ⟨k1, k2, k3, k4⟩ := takeE_spec ht
        refine ⟨k1, k2, fun e => ?_, fun hnd => ?_⟩
        · rw [List.mem_cons, List.mem_cons, k3 e]
          constructor
          · rintro (h | h | h)
            · exact .inr (.inl h)
            · exact .inl h
            · exact .inr (.inr h)
          · rintro (h | h | h)
            · exact .inr (.inl h)
            · exact .inl h
            · exact .inr (.inr h)
        · have hnd' := List.nodup_cons.1 hnd
          obtain ⟨j1, j2⟩ := k4 hnd'.2
          refine ⟨List.nodup_cons.2 ⟨fun hh => hnd'.1 ((k3 _).2 (.inr hh)), j1⟩, fun hh => ?_⟩
          rcases List.mem_cons.1 hh with e | hh
          · subst e; exact hnd'.1 ((k3 _).2 (.inl rfl))
          · exact j2 hh
theorem Left.eff {E : Env} {arr : Array Oper} {td r : List (Nat × Oper × Nat)} {d i m : Nat} {o : Oper} (k : Left arr d td) (h : takeE E d td = some ((i, o, m), r)) : Left arr (Nat.lor d (Nat.pow 2 i)) r := by
  obtain ⟨k1, k2, k3, k4⟩ := takeE_spec h
  obtain ⟨j1, j2⟩ := k4 k.1
  have hx := (k.2 _).1 ((k3 _).2 (.inl rfl))
  refine ⟨j1, fun e => ⟨fun he => ?_, fun he => ?_⟩⟩
  · have hm := (k.2 e).1 ((k3 e).2 (.inr he))
    refine ⟨hm.1, ?_⟩
    have hne : i ≠ e.1 := fun hh => by have := marked_inj hx.1 hm.1 hh; subst this; exact j2 he
    rw [inM_lor, hm.2]; simp [hne]
  · rw [inM_lor] at he
    simp only [Bool.or_eq_false_iff, decide_eq_false_iff_not] at he
    rcases (k3 e).1 ((k.2 e).2 ⟨he.1, he.2.1⟩) with h1 | h1
    · subst h1; exact absurd rfl he.2.2
    · exact h1

section
variable {E : Env} {P : Program} {C : Call0}
variable {rest : List Ci} {k : List Item} {fn : Nat} {ds : List Df} {dd : Bool} {rnd : Option Key} {cs : List Fr} {frs : List Frame} {Fs : List Key} {arr : Array Oper}
    {idxs : List Nat} {μ : Mu} {fr : Frame} {w : World}
/-- the quiet ones that may be taken -/
theorem quiet_good {M : Machine} {K : Kx} {l : List Ins} : ∀ {td a r : List (Nat × Oper × Nat)} {d d1 : Nat} {qs : List (Nat × Oper × Nat)} {L : Lo} {h : Hp} {nx : Key}, takeQ E d td = (a, r, d1) → td.Nodup → (∀ e ∈ td, e ∈ marked arr ∧ inM d e.1 = false) →
    DAt E P C rest k fn ds dd rnd cs frs Fs arr d qs idxs μ L h fr w →
    (∀ L' h' nx', DAt E P C rest k fn ds dd rnd cs frs Fs arr d1 (qs ++ a) idxs μ L' h' fr w → Good E P C (ops E l K L' h' nx') M) →
    Good E P C (ops E ((a.map fun x => insOf (qOf E (cxOf E fn)) E arr (dst x.2.1.dst) x.2.1) ++ l) K L h nx) M
  | [], a, r, d, d1, qs, L, h, nx, ht, _, _, A, go => by
    cases ht
    exact go L h nx (by rw [List.append_nil]; exact A)
  | (i, o, m) :: td, a, r, d, d1, qs, L, h, nx, ht, hnd, hm, A, go => by
    have hnd' := List.nodup_cons.1 hnd
    have hi := hm _ (List.mem_cons_self ..)
    unfold takeQ at ht
    cases hb : isQ E o && subM m d with
    | true =>
      rw [hb] at ht
      simp only [cond_true] at ht
      generalize hg : takeQ E (Nat.lor d (Nat.pow 2 i)) td = g at ht
      obtain ⟨a', b, d'⟩ := g
      simp only [Prod.mk.injEq] at ht
      obtain ⟨rfl, rfl, rfl⟩ := ht
      simp only [Bool.and_eq_true] at hb
      rw [List.map_cons, List.cons_append]
      refine quiet_step A hi.1 hi.2 hb.1 hb.2 fun L' h' nx' A' => ?_
      refine quiet_good hg hnd'.2 (fun e he => ?_) A' fun L2 h2 nx2 A2 => go L2 h2 nx2 (by rw [List.append_assoc] at A2; exact A2)
      have he' := hm e (List.mem_cons_of_mem _ he)
      refine ⟨he'.1, ?_⟩
      rw [inM_lor, he'.2]
      have hne : i ≠ e.1 := fun hh => hnd'.1 (by rw [marked_inj hi.1 he'.1 hh]; exact he)
      simp [hne]
    | false =>
      rw [hb] at ht
      simp only [cond_false] at ht
      generalize hg : takeQ E d td = g at ht
      obtain ⟨a', b, d'⟩ := g
      simp only [Prod.mk.injEq] at ht
      obtain ⟨rfl, rfl, rfl⟩ := ht
      exact quiet_good hg hnd'.2 (fun e he => hm e (List.mem_cons_of_mem _ he)) A go
end
end
end Go.Ev


namespace Go.Ev
set_option linter.unusedVariables false
set_option linter.unusedSectionVars false
set_option linter.unusedSimpArgs false
noncomputable section
variable [Val]

/-! ## a store, seen by itself -/
theorem store1_fn {h : Hp} {f : Key} {g o : Nat} {v : AV} {h1 : Hp} (hs : store1 h f g o v = some h1) : ∃ ob, ∀ h', hget f h' = hget f h → store1 h' f g o v = some (hset f ob h') := by
  unfold store1 at hs
  generalize hO : hget f h = O at hs
  cases O with
  | cells ro gen sz dp ext c =>
    have hs : cnd ro none (cnd (Nat.beq sz 0) none (cnd (Nat.beq g gen) (opt (c.get (Nat.div o sz)) none fun r => Row.rec (motive := fun _ => Option Hp) (fun old gw => cnd (Nat.ble gw g)
      (some (hset f (.cells ro gen sz dp ext (c.set dp (Nat.div o sz) (.mk (setNth v old (Nat.mod o sz)) g))) h)) none) r) none)) = some h1 := hs
    obtain ⟨b1, hs⟩ := cnd_inv' hs
    obtain ⟨b2, hs⟩ := cnd_inv' hs
    obtain ⟨b3, hs⟩ := cnd_inv hs
    cases hr : c.get (Nat.div o sz) with
    | none => rw [hr] at hs; cases hs
    | some r =>
      obtain ⟨old, gw⟩ := r
      rw [hr] at hs
      obtain ⟨b4, hs⟩ := cnd_inv (show cnd (Nat.ble gw g) (some (hset f (.cells ro gen sz dp ext (c.set dp (Nat.div o sz) (.mk (setNth v old (Nat.mod o sz)) g))) h)) none = some h1 from hs)
      refine ⟨.cells ro gen sz dp ext (c.set dp (Nat.div o sz) (.mk (setNth v old (Nat.mod o sz)) g)), fun h' hh' => ?_⟩
      unfold store1
      rw [hh']
      show cnd ro none (cnd (Nat.beq sz 0) none (cnd (Nat.beq g gen) (opt (c.get (Nat.div o sz)) none fun r => Row.rec (motive := fun _ => Option Hp) (fun old gw => cnd (Nat.ble gw g)
        (some (hset f (.cells ro gen sz dp ext (c.set dp (Nat.div o sz) (.mk (setNth v old (Nat.mod o sz)) g))) h')) none) r) none)) = _
      rw [b2, b3, hr]
      subst b1
      show cnd (Nat.ble gw g) _ none = _
      rw [b4]; rfl
  | _ => cases hs
theorem storeC_fn {h : Hp} {f : Key} {g o n : Nat} {l : List AV} {h1 : Hp} (hs : storeC h f g o n l = some h1) : ∃ ob, ∀ h', hget f h' = hget f h → storeC h' f g o n l = some (hset f ob h') := by
  unfold storeC at hs
  generalize hO : hget f h = O at hs
  cases O with
  | cells ro gen sz dp ext c =>
    have hs : cnd ro none (cnd (Nat.beq g gen)
      (cnd (Nat.ble (Nat.add (Nat.mod o sz) n) sz)
        (opt (c.get (Nat.div o sz)) none fun r => Row.rec (motive := fun _ => Option Hp) (fun old gw => cnd (Nat.ble gw g)
          (some (hset f (.cells ro gen sz dp ext (c.set dp (Nat.div o sz) (.mk (cnd (Nat.beq n sz) l (putAt old (Nat.mod o sz) l)) g))) h)) none) r)
        (cnd (Nat.beq (Nat.mod o sz) 0) (cnd (Nat.beq (Nat.mod n sz) 0) (opt (overRows dp g c (Nat.div o sz) (cutR sz (Nat.div n sz) l)) none fun c' =>
          some (hset f (.cells ro gen sz dp ext c') h)) none) none)) none) = some h1 := hs
    obtain ⟨b1, hs⟩ := cnd_inv' hs
    obtain ⟨b2, hs⟩ := cnd_inv hs
    subst b1
    have goal : ∀ h', hget f h' = hget f h → storeC h' f g o n l = (cnd (Nat.beq g gen)
      (cnd (Nat.ble (Nat.add (Nat.mod o sz) n) sz)
        (opt (c.get (Nat.div o sz)) none fun r => Row.rec (motive := fun _ => Option Hp) (fun old gw => cnd (Nat.ble gw g)
          (some (hset f (.cells false gen sz dp ext (c.set dp (Nat.div o sz) (.mk (cnd (Nat.beq n sz) l (putAt old (Nat.mod o sz) l)) g))) h')) none) r)
        (cnd (Nat.beq (Nat.mod o sz) 0) (cnd (Nat.beq (Nat.mod n sz) 0) (opt (overRows dp g c (Nat.div o sz) (cutR sz (Nat.div n sz) l)) none fun c' =>
          some (hset f (.cells false gen sz dp ext c') h')) none) none)) none) := by
      intro h' hh'
      unfold storeC
      rw [hh', hO]
      rfl
    cases b3 : Nat.ble (Nat.add (Nat.mod o sz) n) sz with
    | true =>
      rw [b3] at hs
      simp only [cnd_true] at hs
      cases hr : c.get (Nat.div o sz) with
      | none => rw [hr] at hs; cases hs
      | some r =>
        obtain ⟨old, gw⟩ := r
        rw [hr] at hs
        obtain ⟨b4, hs⟩ := cnd_inv (show cnd (Nat.ble gw g) (some (hset f (.cells false gen sz dp ext (c.set dp (Nat.div o sz) (.mk (cnd (Nat.beq n sz) l (putAt old (Nat.mod o sz) l)) g))) h)) none = some h1 from hs)
        refine ⟨.cells false gen sz dp ext (c.set dp (Nat.div o sz) (.mk (cnd (Nat.beq n sz) l (putAt old (Nat.mod o sz) l)) g)), fun h' hh' => ?_⟩
        rw [goal h' (hh'.trans hO.symm), b2, b3, hr]
        show cnd (Nat.ble gw g) _ none = _
        rw [b4]; rfl
    | false =>
      rw [b3] at hs
      simp only [cnd_false] at hs
      obtain ⟨b4, hs⟩ := cnd_inv hs
      obtain ⟨b5, hs⟩ := cnd_inv hs
      cases hr : overRows dp g c (Nat.div o sz) (cutR sz (Nat.div n sz) l) with
      | none => rw [hr] at hs; cases hs
      | some c' =>
        refine ⟨.cells false gen sz dp ext c', fun h' hh' => ?_⟩
        rw [goal h' (hh'.trans hO.symm), b2, b3, b4, b5, hr]
        rfl
  | _ => cases hs

/-- what a store does to memory -/
structure StFn (f : Key) (F : Hp → Hp) : Prop where
  off : ∀ k h, k ≠ f → hget k (F h) = hget k h
  at' : ∀ h h', hget f h' = hget f h → hget f (F h') = hget f (F h)
theorem StFn.id (f : Key) : StFn f (fun h => h) := ⟨fun _ _ _ => rfl, fun _ _ e => e⟩
theorem StFn.set (f : Key) (ob : Ob) : StFn f (hset f ob) := ⟨fun k h e => hget_hset_ne (fun e' => e e'.symm) _ _, fun h h' _ => by rw [hget_hset, hget_hset]⟩
theorem xStore_fn {n : Nat} {x y : Opd} {h : Hp} {nx : Key} {L : Lo} {f : Key} {g o : Nat} {r : Tn} (hx : getO x L = .ptr f g o) (hs : xStore n x y h nx L = some r) :
    ∃ F : Hp → Hp, StFn f F ∧ ∀ h' nx', hget f h' = hget f h → xStore n x y h' nx' L = some (.mk undefA (F h') nx') := by
  have unf : ∀ h' nx', xStore n x y h' nx' L = asAgg (getO y L)
      (cnd (Nat.beq n 1) (cnd (getO y L).scalar (opt (store1 h' f g o (getO y L)) none fun h2 => some (Tn.mk undefA h2 nx')) none) none)
      fun l => cnd (Nat.beq l.length n) (opt (storeTo h' f g o l) none fun h2 => some (Tn.mk undefA h2 nx')) none := by
    intro h' nx'
    unfold xStore
    rw [hx]; rfl
  have scal : (∀ h' nx', xStore n x y h' nx' L = (cnd (Nat.beq n 1) (cnd (getO y L).scalar (opt (store1 h' f g o (getO y L)) none fun h2 => some (Tn.mk undefA h2 nx')) none) none)) →
      ∃ F : Hp → Hp, StFn f F ∧ ∀ h' nx', hget f h' = hget f h → xStore n x y h' nx' L = some (.mk undefA (F h') nx') := by
    intro hu
    rw [hu] at hs
    obtain ⟨b1, hs⟩ := cnd_inv hs
    obtain ⟨b2, hs⟩ := cnd_inv hs
    cases h1 : store1 h f g o (getO y L) with
    | none => rw [h1] at hs; cases hs
    | some h2 =>
      obtain ⟨ob, hob⟩ := store1_fn h1
      exact ⟨hset f ob, .set f ob, fun h' nx' hh' => by rw [hu, b1, b2, hob h' hh']; rfl⟩
  cases hy : getO y L with
  | agg l =>
    have hu : ∀ h' nx', xStore n x y h' nx' L = cnd (Nat.beq l.length n) (opt (storeTo h' f g o l) none fun h2 => some (Tn.mk undefA h2 nx')) none := fun h' nx' => by rw [unf, hy]; rfl
    rw [hu] at hs
    obtain ⟨b1, hs⟩ := cnd_inv hs
    cases b2 : Nat.beq l.length 0 with
    | true =>
      refine ⟨fun h => h, .id f, fun h' nx' hh' => ?_⟩
      rw [hu, b1]
      show opt (storeTo h' f g o l) none _ = _
      unfold storeTo; rw [b2]; rfl
    | false =>
      have hst : ∀ h', storeTo h' f g o l = cnd (allScalar l) (storeC h' f g o l.length l) none := fun h' => by unfold storeTo; rw [b2]; rfl
      rw [hst] at hs
      cases b3 : allScalar l with
      | false => rw [b3] at hs; cases hs
      | true =>
        rw [b3] at hs
        simp only [cnd_true] at hs
        cases h1 : storeC h f g o l.length l with
        | none => rw [h1] at hs; cases hs
        | some h2 =>
          obtain ⟨ob, hob⟩ := storeC_fn h1
          exact ⟨hset f ob, .set f ob, fun h' nx' hh' => by rw [hu, b1, hst, b3]; simp only [cnd_true]; rw [hob h' hh']; rfl⟩
  | _ => exact scal fun h' nx' => by rw [unf, hy]; rfl

end
end Go.Ev


namespace Go.Ev
set_option linter.unusedVariables false
set_option linter.unusedSectionVars false
set_option linter.unusedSimpArgs false
noncomputable section
variable [Val]

section
variable {E : Env} {P : Program} (hE : EnvOk E P) {C : Call0}
variable {rest : List Ci} {k : List Item} {fn : Nat} {ds : List Df} {dd : Bool} {rnd : Option Key} {cs : List Fr} {frs : List Frame} {Fs : List Key} {arr : Array Oper}
    {d : Nat} {qs : List (Nat × Oper × Nat)} {idxs : List Nat} {μ : Mu} {L : Lo} {h : Hp} {nx : Key} {fr : Frame} {w : World}

theorem isSt_inv {o : Oper} (h : isSt o = true) : o.guard = none ∧ o.dst = none ∧ ∃ t x y, o.op = .store t x y := by
  unfold isSt at h
  split at h
  · rename_i h1 h2 h3; exact ⟨h1, h3, _, _, _, h2⟩
  · cases h

include hE in
/-- the machine stores -/
theorem store_step {i : Nat} {is : List Nat} {o : Oper} {n : Nat} {x y : Opd} {h1 : Hp} {nx' : Key} (A : DAt E P C rest k fn ds dd rnd cs frs Fs arr d qs (i :: is) μ L h fr w) (hd : inM d i = false) (ho : arr[i]? = some o) (hst : isSt o = true)
    (hef : effI (qOf E (cxOf E fn)) E o.op = .store n x y) (hx : xStore n x y h nx L = some (.mk undefA h1 nx')) (pa : ∀ j o', j ∈ is → inM d j = true → arr[j]? = some o' → ∀ h', PendH E (cxOf E fn) arr h' o' L) :
    ∃ v w' μ', Steps P (lone fr (frs ++ C.cs0) w) (lone (fr.finish v) (frs ++ C.cs0) w') ∧ μ.le μ' ∧ DAt E P C rest k fn ds dd rnd cs frs Fs arr (Nat.lor d (Nat.pow 2 i)) qs is μ' L h1 (fr.finish v) w' := by
  obtain ⟨hm, hsz⟩ := A.fi.run _ _ _ _ rfl
  obtain ⟨hg, hdst, t, ox, oy, hop⟩ := isSt_inv hst
  have hqq : ∀ y, VR μ (getO (q2 E (cxOf E fn) arr o y) L) (fr.eval y) := by rw [eval_evT]; exact q2_ok (DrI.reads A.sd A.dr A.gr rfl ho)
  have hev : (effI (q2 E (cxOf E fn) arr o) E o.op).ev E h nx L = some (.mk undefA h1 nx') := by
    rw [← effI_congr (q := qOf E (cxOf E fn)) (fun y hy => (q2_op hy).symm), hef]
    exact hx
  have notD : ∀ c, o.op ≠ .defer c := fun c hh => by rw [hop] at hh; cases hh
  have hw : Region.wanted o (yielded arr fr.tmps) = true := by simp [Region.wanted, hg]
  have hput : ∀ a : AV, Go.Ev.put (dst o.dst) a L = L := fun a => by rw [hdst, show dst none = .no from rfl, put_no]
  have hnot : i ∉ is := (List.nodup_cons.1 A.dr.lin.nodup).1
  have hpk := DrI.pkE A.sd A.dr hd ho undefA
  rw [hput] at hpk
  have hkf : (i :: is).filterMap (pk E (cxOf E fn) arr d L) = is.filterMap (pk E (cxOf E fn) arr d L) := List.filterMap_cons_none (pk_self A.sd (k := 0) hd)
  have hdr := fun ν hle v hv => DrI.eff A.sd (DrI.mono (ν := ν) hle A.dr) hd ho hsz (a := undefA) (v := v) hv
  obtain ⟨dst0, op, ty, pos, af, gd⟩ := o
  obtain ⟨v, nxt, w', ν, hrun, hnv, hv, hle, hh, he, hkp⟩ := eff_sound (d := dst0) (ty := ty) (pos := pos) (af := af) (gd := gd) hE A.hr A.ext.size hqq (fun f => rfl) hev
  refine ⟨v, w', ν, exec_step hm A.todo ho hw notD hrun hnv _, hle, ⟨A.sd, hh, A.gr.mono hle, A.ext.trans he, (A.fi.mono hle).finish v A.todo ho, A.st.mono hle, ?_, finish_todo fr v A.todo, A.td.mono hle, ?_, fun j o' hj hdj ho' => pa j o' hj ?_ ho' h1⟩⟩
  · rw [hpk, ← hkf]; exact A.kept.kp hkp
  · have := hdr ν hle v hv
    rw [hput] at this
    rw [finish_tmps fr v A.todo ho]
    exact this
  · rw [inM_lor] at hdj
    simp only [Bool.or_eq_true, decide_eq_true_eq] at hdj
    rcases hdj with h2 | h2
    · exact h2
    · subst h2; exact absurd hj hnot

include hE in
/-- the machine stores twice, and does what was left -/
theorem two_run {i j : Nat} {is : List Nat} {o p : Oper} {n m : Nat} {x y x' y' : Opd} {h1 h2 : Hp} {nx1 nx2 : Key} (A : DAt E P C rest k fn ds dd rnd cs frs Fs arr d qs (i :: is) μ L h fr w) (hd : inM d i = false) (hdj : inM d j = false) (hij : i ≠ j)
    (hall : ∀ e, e < arr.size → e ≠ i → e ≠ j → inM d e = true)
    (ho : arr[i]? = some o) (hst : isSt o = true) (hef : effI (qOf E (cxOf E fn)) E o.op = .store n x y) (hx : xStore n x y h nx L = some (.mk undefA h1 nx1))
    (hp : arr[j]? = some p) (hst' : isSt p = true) (hef' : effI (qOf E (cxOf E fn)) E p.op = .store m x' y') (hx' : xStore m x' y' h1 nx1 L = some (.mk undefA h2 nx2))
    (pa : ∀ j o', j ∈ is → inM d j = true → arr[j]? = some o' → ∀ h', PendH E (cxOf E fn) arr h' o' L) :
    ∃ fr' w' μ' d', Steps P (lone fr (frs ++ C.cs0) w) (lone fr' (frs ++ C.cs0) w') ∧ μ.le μ' ∧ DAt E P C rest k fn ds dd rnd cs frs Fs arr d' qs [] μ' L h2 fr' w' := by
  obtain ⟨v, w1, μ1, s1, le1, A1⟩ := store_step hE A hd ho hst hef hx pa
  have hnot : i ∉ is := (List.nodup_cons.1 A.dr.lin.nodup).1
  have pa1 : ∀ e o', e ∈ is → inM (Nat.lor d (Nat.pow 2 i)) e = true → arr[e]? = some o' → ∀ h', PendH E (cxOf E fn) arr h' o' L := by
    intro e o' he hde ho'
    rw [inM_lor] at hde
    simp only [Bool.or_eq_true, decide_eq_true_eq] at hde
    rcases hde with h3 | h3
    · exact pa e o' he h3 ho'
    · subst h3; exact absurd he hnot
  -- what was left, with what is left of it
  have keep : ∀ {idxs : List Nat} {μ : Mu} {fr : Frame} {w : World} {d : Nat} {h : Hp}, DAt E P C rest k fn ds dd rnd cs frs Fs arr d qs idxs μ L h fr w →
      ∃ idxs' μ' fr' w', Steps P (lone fr (frs ++ C.cs0) w) (lone fr' (frs ++ C.cs0) w') ∧ μ.le μ' ∧ DAt E P C rest k fn ds dd rnd cs frs Fs arr d qs idxs' μ' L h fr' w' ∧ (idxs' = [] ∨ ∃ j is, idxs' = j :: is ∧ inM d j = false) ∧ ∀ e ∈ idxs', e ∈ idxs := by
    intro idxs
    induction idxs with
    | nil => intro μ fr w d h a; exact ⟨[], μ, fr, w, .refl _ _, Mu.le_refl _, a, .inl rfl, fun e he => he⟩
    | cons i is ih =>
      intro μ fr w d h a
      cases hd : inM d i with
      | false => exact ⟨i :: is, μ, fr, w, .refl _ _, Mu.le_refl _, a, .inr ⟨i, is, rfl, hd⟩, fun e he => he⟩
      | true =>
        obtain ⟨v, w', μ', h1, h2, h3⟩ := pend_step hE a hd
        obtain ⟨idxs', μ2, fr2, w2, k1, k2, k3, k4, k5⟩ := ih h3
        exact ⟨idxs', μ2, fr2, w2, h1.trans k1, fun f g x hx => k2 _ _ _ (h2 _ _ _ hx), k3, k4, fun e he => List.mem_cons_of_mem _ (k5 e he)⟩
  obtain ⟨is2, μ2, fr2, w2, s2, le2, A2, hend, hsub⟩ := keep A1
  have hjl : j < arr.size := (Array.getElem?_eq_some_iff.1 hp).1
  have hdj1 : inM (Nat.lor d (Nat.pow 2 i)) j = false := by rw [inM_lor, hdj]; simp [hij]
  rcases hend with rfl | ⟨j', is3, rfl, hdj'⟩
  · rw [A2.dr.cd j hjl (by simp)] at hdj1; cases hdj1
  · have hjj : j' = j := by
      by_cases e : j' = j
      · exact e
      · rw [inM_lor] at hdj'
        simp only [Bool.or_eq_false_iff, decide_eq_false_iff_not] at hdj'
        rw [hall j' (A2.dr.lin.lt j' (List.mem_cons_self ..)) (fun e' => hdj'.2 e'.symm) e] at hdj'
        cases hdj'.1
    subst hjj
    obtain ⟨v3, w3, μ3, s3, le3, A3⟩ := store_step hE A2 hdj' hp hst' hef' hx' (fun e o' he hde ho' => pa1 e o' (hsub e (List.mem_cons_of_mem _ he)) hde ho')
    obtain ⟨is4, μ4, fr4, w4, s4, le4, A4, hend4, _⟩ := keep A3
    have : is4 = [] := by
      rcases hend4 with e | ⟨e, is5, rfl, hde⟩
      · exact e
      · rw [inM_lor, inM_lor] at hde
        simp only [Bool.or_eq_false_iff, decide_eq_false_iff_not] at hde
        rw [hall e (A4.dr.lin.lt e (List.mem_cons_self ..)) (fun e' => hde.1.2 e'.symm) (fun e' => hde.2 e'.symm)] at hde
        cases hde.1.1
    subst this
    exact ⟨fr4, w4, μ4, _, ((s1.trans s2).trans s3).trans s4, fun f g z hz => le4 _ _ _ (le3 _ _ _ (le2 _ _ _ (le1 _ _ _ hz))), A4⟩

/-- another memory that says the same -/
theorem DAt.same {h' : Hp} (A : DAt E P C rest k fn ds dd rnd cs frs Fs arr d qs [] μ L h fr w) (e : ∀ f, hget f h' = hget f h) : DAt E P C rest k fn ds dd rnd cs frs Fs arr d qs [] μ L h' fr w :=
  ⟨A.sd, A.hr.same e, A.gr, A.ext, A.fi, A.st, ⟨A.kept.1, fun f hf => by rw [e]; exact A.kept.2 f hf⟩, A.todo, A.td, A.dr, fun i o hi => by cases hi⟩

end
end
end Go.Ev


namespace Go.Ev
set_option linter.unusedVariables false
set_option linter.unusedSectionVars false
set_option linter.unusedSimpArgs false
noncomputable section
variable [Val]

/-! ## entries of one map, in whatever order -/
theorem isIn_inv {o : Oper} (h : isIn o = true) : o.guard = none ∧ o.dst = none ∧ ∃ t m k v, o.op = .insert t m k v := by
  unfold isIn at h
  split at h
  · rename_i h1 h2 h3; exact ⟨h1, h3, _, _, _, _, h2⟩
  · cases h
theorem ieOf_inv {E : Env} {q : Operand → Opd} {o : Oper} {e : IE} (h : ieOf E q o = some e) : effI q E o.op = .mapUp e.kt e.m e.k e.v := by
  unfold ieOf at h
  split at h
  · rename_i h1; cases h; exact h1
  · cases h
theorem ieList_mem {E : Env} {q : Operand → Opd} : ∀ {l : List (Nat × Oper × Nat)} {r : List IE}, ieList E q l = some r → r = l.filterMap (fun x => ieOf E q x.2.1) ∧ ∀ x ∈ l, ∃ e, ieOf E q x.2.1 = some e
  | [], r, h => by cases h; exact ⟨rfl, fun x hx => by cases hx⟩
  | x :: l, r, h => by
    unfold ieList at h
    split at h
    · rename_i e r' h1 h2
      cases h
      obtain ⟨rfl, h4⟩ := ieList_mem h2
      refine ⟨by rw [List.filterMap_cons, h1], fun y hy => ?_⟩
      rcases List.mem_cons.1 hy with rfl | hy
      · exact ⟨e, h1⟩
      · exact h4 y hy
    · cases h
/-- two entries' keys differ -/
def Apart (E : Env) (L : Lo) (a b : IE) : Prop := aeq E 12 a.kt (getO a.k L) (getO b.k L) = some false ∧ aeq E 12 b.kt (getO b.k L) (getO a.k L) = some false
theorem apart_inv {E : Env} {L : Lo} {a b : IE} (h : apart E L a b = true) : Apart E L a b := by
  unfold apart at h
  have key : ∀ o : Option Bool, opt o false bnot = true → o = some false := by
    intro o ho
    cases o with
    | none => cases ho
    | some b => cases b with
      | false => rfl
      | true => cases ho
  cases hh : opt (aeq E 12 a.kt (getO a.k L) (getO b.k L)) false bnot with
  | false => rw [hh] at h; cases h
  | true => rw [hh] at h; exact ⟨key _ hh, key _ h⟩
theorem Apart.symm {E : Env} {L : Lo} {a b : IE} (h : Apart E L a b) : Apart E L b a := ⟨h.2, h.1⟩
theorem insOk_inv {E : Env} {L : Lo} {f : Key} : ∀ {l : List IE}, insOk E L f l = true → (∀ e ∈ l, getO e.m L = .map f ∧ okKey E e.kt (getO e.k L) = true) ∧ l.Pairwise (Apart E L)
  | [], _ => ⟨fun e he => (by cases he), .nil⟩
  | e :: l, h => by
    have h : cnd (isF f (getO e.m L)) (cnd (okKey E e.kt (getO e.k L)) (cnd (l.all (apart E L e)) (insOk E L f l) false) false) false = true := h
    cases h1 : isF f (getO e.m L) with
    | false => rw [h1] at h; cases h
    | true =>
      cases h2 : okKey E e.kt (getO e.k L) with
      | false => rw [h1, h2] at h; cases h
      | true =>
        cases h3 : l.all (apart E L e) with
        | false => rw [h1, h2, h3] at h; cases h
        | true =>
          rw [h1, h2, h3] at h
          obtain ⟨k1, k2⟩ := insOk_inv (show insOk E L f l = true from h)
          refine ⟨fun x hx => ?_, .cons (fun x hx => apart_inv (List.all_eq_true.1 h3 x hx)) k2⟩
          rcases List.mem_cons.1 hx with rfl | hx
          · refine ⟨?_, h2⟩
            unfold isF at h1
            cases hg : getO x.m L with
            | map g => rw [hg] at h1; rw [Key.beq_eq (show Key.beq f g = true from h1)]
            | _ => rw [hg] at h1; cases h1
          · exact k1 x hx
theorem insEs_kv {L : Lo} : ∀ (l : List IE), (insEs L l).map kv = l.map (fun e => (getO e.k L, getO e.v L))
  | [] => rfl
  | e :: l => by
    show kv _ :: (insEs L l).map kv = _
    rw [insEs_kv l]; rfl
theorem landAll_inM {p : Nat} : ∀ {l : List (Nat × Oper × Nat)} {m : Nat}, inM (landAll m l) p = true → inM m p = true ∧ ∀ x ∈ l, inM x.2.2 p = true
  | [], m, h => ⟨h, fun x hx => by cases hx⟩
  | y :: l, m, h => by
    obtain ⟨h1, h2⟩ := landAll_inM (l := l) h
    rw [inM_land, Bool.and_eq_true] at h1
    refine ⟨h1.1, fun x hx => ?_⟩
    rcases List.mem_cons.1 hx with rfl | hx
    · exact h1.2
    · exact h2 x hx

section
variable {E : Env} {P : Program} (hE : EnvOk E P) {C : Call0}
variable {rest : List Ci} {k : List Item} {fn : Nat} {ds : List Df} {dd : Bool} {rnd : Option Key} {cs : List Fr} {frs : List Frame} {Fs : List Key} {arr : Array Oper}
    {d : Nat} {qs : List (Nat × Oper × Nat)} {idxs : List Nat} {μ : Mu} {L : Lo} {h : Hp} {nx : Key} {fr : Frame} {w : World}

include hE in
/-- the machine makes an entry -/
theorem ins_step {i : Nat} {is : List Nat} {o : Oper} {e : IE} {h1 : Hp} {nx' : Key} (A : DAt E P C rest k fn ds dd rnd cs frs Fs arr d qs (i :: is) μ L h fr w) (hd : inM d i = false) (ho : arr[i]? = some o) (hst : isIn o = true)
    (hef : ieOf E (qOf E (cxOf E fn)) o = some e) (hx : xMapUp E e.kt e.m e.k e.v h nx L = some (.mk undefA h1 nx')) (pa : ∀ j o', j ∈ is → inM d j = true → arr[j]? = some o' → ∀ h', PendH E (cxOf E fn) arr h' o' L) :
    ∃ v w' μ', Steps P (lone fr (frs ++ C.cs0) w) (lone (fr.finish v) (frs ++ C.cs0) w') ∧ μ.le μ' ∧ DAt E P C rest k fn ds dd rnd cs frs Fs arr (Nat.lor d (Nat.pow 2 i)) qs is μ' L h1 (fr.finish v) w' := by
  have hef := ieOf_inv hef
  obtain ⟨hm, hsz⟩ := A.fi.run _ _ _ _ rfl
  obtain ⟨hg, hdst, t, ox, oy, oz, hop⟩ := isIn_inv hst
  have hqq : ∀ y, VR μ (getO (q2 E (cxOf E fn) arr o y) L) (fr.eval y) := by rw [eval_evT]; exact q2_ok (DrI.reads A.sd A.dr A.gr rfl ho)
  have hev : (effI (q2 E (cxOf E fn) arr o) E o.op).ev E h nx L = some (.mk undefA h1 nx') := by
    rw [← effI_congr (q := qOf E (cxOf E fn)) (fun y hy => (q2_op hy).symm), hef]
    exact hx
  have notD : ∀ c, o.op ≠ .defer c := fun c hh => by rw [hop] at hh; cases hh
  have hw : Region.wanted o (yielded arr fr.tmps) = true := by simp [Region.wanted, hg]
  have hput : ∀ a : AV, Go.Ev.put (dst o.dst) a L = L := fun a => by rw [hdst, show dst none = .no from rfl, put_no]
  have hnot : i ∉ is := (List.nodup_cons.1 A.dr.lin.nodup).1
  have hpk := DrI.pkE A.sd A.dr hd ho undefA
  rw [hput] at hpk
  have hkf : (i :: is).filterMap (pk E (cxOf E fn) arr d L) = is.filterMap (pk E (cxOf E fn) arr d L) := List.filterMap_cons_none (pk_self A.sd (k := 0) hd)
  have hdr := fun ν hle v hv => DrI.eff A.sd (DrI.mono (ν := ν) hle A.dr) hd ho hsz (a := undefA) (v := v) hv
  obtain ⟨dst0, op, ty, pos, af, gd⟩ := o
  obtain ⟨v, nxt, w', ν, hrun, hnv, hv, hle, hh, he, hkp⟩ := eff_sound (d := dst0) (ty := ty) (pos := pos) (af := af) (gd := gd) hE A.hr A.ext.size hqq (fun f => rfl) hev
  refine ⟨v, w', ν, exec_step hm A.todo ho hw notD hrun hnv _, hle, ⟨A.sd, hh, A.gr.mono hle, A.ext.trans he, (A.fi.mono hle).finish v A.todo ho, A.st.mono hle, ?_, finish_todo fr v A.todo, A.td.mono hle, ?_, fun j o' hj hdj ho' => pa j o' hj ?_ ho' h1⟩⟩
  · rw [hpk, ← hkf]; exact A.kept.kp hkp
  · have := hdr ν hle v hv
    rw [hput] at this
    rw [finish_tmps fr v A.todo ho]
    exact this
  · rw [inM_lor] at hdj
    simp only [Bool.or_eq_true, decide_eq_true_eq] at hdj
    rcases hdj with h2 | h2
    · exact h2
    · subst h2; exact absurd hj hnot

include hE in
/-- what was left, as far as the next that is undone -/
theorem keep_run : ∀ {idxs : List Nat} {μ : Mu} {fr : Frame} {w : World} {d : Nat} {h : Hp}, DAt E P C rest k fn ds dd rnd cs frs Fs arr d qs idxs μ L h fr w →
    ∃ idxs' μ' fr' w', Steps P (lone fr (frs ++ C.cs0) w) (lone fr' (frs ++ C.cs0) w') ∧ μ.le μ' ∧ DAt E P C rest k fn ds dd rnd cs frs Fs arr d qs idxs' μ' L h fr' w' ∧ (idxs' = [] ∨ ∃ j is, idxs' = j :: is ∧ inM d j = false) ∧ ∀ e ∈ idxs', e ∈ idxs := by
  intro idxs
  induction idxs with
  | nil => intro μ fr w d h a; exact ⟨[], μ, fr, w, .refl _ _, Mu.le_refl _, a, .inl rfl, fun e he => he⟩
  | cons i is ih =>
    intro μ fr w d h a
    cases hd : inM d i with
    | false => exact ⟨i :: is, μ, fr, w, .refl _ _, Mu.le_refl _, a, .inr ⟨i, is, rfl, hd⟩, fun e he => he⟩
    | true =>
      obtain ⟨v, w', μ', h1, h2, h3⟩ := pend_step hE a hd
      obtain ⟨idxs', μ2, fr2, w2, k1, k2, k3, k4, k5⟩ := ih h3
      exact ⟨idxs', μ2, fr2, w2, h1.trans k1, fun f g x hx => k2 _ _ _ (h2 _ _ _ hx), k3, k4, fun e he => List.mem_cons_of_mem _ (k5 e he)⟩

/-- what the rest of the entries is -/
structure Rem (E : Env) (q : Operand → Opd) (arr : Array Oper) (L : Lo) (f : Key) (d : Nat) (es : List En) (R : List (Nat × Oper × Nat)) : Prop where
  nodup : (R.map (·.1)).Nodup
  mem : ∀ x ∈ R, arr[x.1]? = some x.2.1 ∧ inM d x.1 = false ∧ isIn x.2.1 = true ∧ ∃ e, ieOf E q x.2.1 = some e ∧ getO e.m L = .map f ∧ okKey E e.kt (getO e.k L) = true ∧ ∀ y ∈ es, aeq E 12 e.kt (getO e.k L) y.k = some false
  all : ∀ i, i < arr.size → inM d i = false → (∃ x ∈ R, x.1 = i) ∨ ∀ x ∈ R, inM (pre arr i) x.1 = true
  pw : (R.filterMap fun x => ieOf E q x.2.1).Pairwise (Apart E L)

def kvs (L : Lo) (l : List IE) : List (AV × AV) := l.map fun e => (getO e.k L, getO e.v L)

include hE in
/-- the machine makes all entries -/
theorem many_run {f : Key} {h0 : Hp} (nx : Key) : ∀ (n : Nat) (R : List (Nat × Oper × Nat)) (es : List En) (clock d : Nat) (idxs : List Nat) (μ : Mu) (h : Hp) (fr : Frame) (w : World), R.length = n →
    DAt E P C rest k fn ds dd rnd cs frs Fs arr d qs idxs μ L h fr w → Rem E (qOf E (cxOf E fn)) arr L f d es R → hget f h = .map es clock → (∀ g, g ≠ f → hget g h = hget g h0) →
    (∀ j o', j ∈ idxs → inM d j = true → arr[j]? = some o' → ∀ h', PendH E (cxOf E fn) arr h' o' L) →
    ∃ fr' w' μ' d' h' es' clock' idxs', Steps P (lone fr (frs ++ C.cs0) w) (lone fr' (frs ++ C.cs0) w') ∧ μ.le μ' ∧ DAt E P C rest k fn ds dd rnd cs frs Fs arr d' qs idxs' μ' L h' fr' w' ∧
      hget f h' = .map es' clock' ∧ (∀ g, g ≠ f → hget g h' = hget g h0) ∧ (es'.map kv).Perm (es.map kv ++ kvs L (R.filterMap fun x => ieOf E (qOf E (cxOf E fn)) x.2.1)) ∧
      (∀ p, inM d' p = (inM d p || decide (∃ x ∈ R, x.1 = p))) ∧ (∀ j o', j ∈ idxs' → inM d' j = true → arr[j]? = some o' → ∀ h', PendH E (cxOf E fn) arr h' o' L) := by
  intro n
  induction n with
  | zero =>
    intro R es clock d idxs μ h fr w hn A hR hf hg pa
    have : R = [] := List.eq_nil_of_length_eq_zero hn
    subst this
    exact ⟨fr, w, μ, d, h, es, clock, idxs, .refl _ _, Mu.le_refl _, A, hf, hg, by simp [kvs], fun p => by simp, pa⟩
  | succ n ih =>
    intro R es clock d idxs μ h fr w hn A hR hf hg pa
    obtain ⟨is2, μ2, fr2, w2, s2, le2, A2, hend, hsub⟩ := keep_run hE A
    rcases hend with rfl | ⟨j, is, rfl, hdj⟩
    · exfalso
      cases R with
      | nil => cases hn
      | cons x R =>
        obtain ⟨h1, h2, _⟩ := hR.mem x (List.mem_cons_self ..)
        rw [A2.dr.cd x.1 (Array.getElem?_eq_some_iff.1 h1).1 (by simp)] at h2
        cases h2
    · obtain ⟨x, hx, rfl⟩ : ∃ x ∈ R, x.1 = j := by
        rcases hR.all j (A2.dr.lin.lt j (List.mem_cons_self ..)) hdj with hh | hh
        · exact hh
        · exfalso
          cases R with
          | nil => cases hn
          | cons x R =>
            have h1 := hh x (List.mem_cons_self ..)
            have h2 := (DrI.ahead A2.sd A2.dr h1).1
            rw [(hR.mem x (List.mem_cons_self ..)).2.1] at h2
            cases h2
      obtain ⟨r1, r2, rfl⟩ := List.append_of_mem hx
      obtain ⟨h1, h2, h3, e, h4, h5, h6, h7⟩ := hR.mem x hx
      have hfk : findK E e.kt (getO e.k L) es = some none := by
        unfold findK
        rw [h6]
        exact findK0_none h7
      have hup : xMapUp E e.kt e.m e.k e.v h nx L = some (.mk undefA (hset f (.map (es ++ [.mk (getO e.k L) (getO e.v L) clock]) (Nat.succ clock)) h) nx) := by
        unfold xMapUp
        rw [h5]
        show asMapO (hget f h) none _ = _
        rw [hf]
        show opt (findK E e.kt (getO e.k L) es) none _ = _
        rw [hfk]
        rfl
      have hnot : x.1 ∉ is := (List.nodup_cons.1 A2.dr.lin.nodup).1
      obtain ⟨v3, w3, μ3, s3, le3, A3⟩ := ins_step hE A2 hdj h1 h3 h4 hup (fun e o' he hde ho' => pa e o' (hsub e (List.mem_cons_of_mem _ he)) hde ho')
      have hperm : (r1 ++ x :: r2).Perm (x :: (r1 ++ r2)) := List.perm_middle
      have hnd : ((x :: (r1 ++ r2)).map (·.1)).Nodup := (hperm.map _).nodup_iff.1 hR.nodup
      rw [List.map_cons, List.nodup_cons] at hnd
      have hpf := hperm.filterMap (fun x => ieOf E (qOf E (cxOf E fn)) x.2.1)
      have hpw : ((x :: (r1 ++ r2)).filterMap fun x => ieOf E (qOf E (cxOf E fn)) x.2.1).Pairwise (Apart E L) := (hpf.pairwise_iff (fun hh => Apart.symm hh)).1 hR.pw
      rw [List.filterMap_cons, h4] at hpw
      simp only at hpw
      obtain ⟨hpw1, hpw2⟩ := List.pairwise_cons.1 hpw
      have hR' : Rem E (qOf E (cxOf E fn)) arr L f (Nat.lor d (Nat.pow 2 x.1)) (es ++ [.mk (getO e.k L) (getO e.v L) clock]) (r1 ++ r2) := by
        refine ⟨hnd.2, fun y hy => ?_, fun i hi hdi => ?_, hpw2⟩
        · have hy0 : y ∈ r1 ++ x :: r2 := hperm.mem_iff.2 (List.mem_cons_of_mem _ hy)
          obtain ⟨k1, k2, k3, e', k4, k5, k6, k7⟩ := hR.mem y hy0
          refine ⟨k1, ?_, k3, e', k4, k5, k6, fun z hz => ?_⟩
          · rw [inM_lor, k2]
            simp only [Bool.false_or, decide_eq_false_iff_not]
            intro e2
            exact hnd.1 (List.mem_map.2 ⟨y, hy, e2.symm⟩)
          · rcases List.mem_append.1 hz with hz | hz
            · exact k7 z hz
            · rw [List.mem_singleton] at hz; subst hz
              exact (hpw1 e' (List.mem_filterMap.2 ⟨y, hy, k4⟩)).2
        · rw [inM_lor] at hdi
          simp only [Bool.or_eq_false_iff, decide_eq_false_iff_not] at hdi
          rcases hR.all i hi hdi.1 with ⟨y, hy, hyi⟩ | hh
          · rcases List.mem_cons.1 (hperm.mem_iff.1 hy) with rfl | hy
            · exact absurd hyi hdi.2
            · exact .inl ⟨y, hy, hyi⟩
          · exact .inr fun y hy => hh y (hperm.mem_iff.2 (List.mem_cons_of_mem _ hy))
      obtain ⟨fr4, w4, μ4, d4, h4', es4, c4, is4, s4, le4, A4, f4, g4, p4, b4, pa4⟩ := ih (r1 ++ r2) (es ++ [.mk (getO e.k L) (getO e.v L) clock]) (Nat.succ clock) _ is μ3 _ _ _ (by simp at hn ⊢; omega) A3 hR' (hget_hset _ _ _)
        (fun g hgf => by rw [hget_hset_ne (fun e => hgf e.symm)]; exact hg g hgf)
        (fun j o' hj hdj' ho' => pa j o' (hsub j (List.mem_cons_of_mem _ hj)) (by
          rw [inM_lor] at hdj'
          simp only [Bool.or_eq_true, decide_eq_true_eq] at hdj'
          rcases hdj' with h8 | h8
          · exact h8
          · subst h8; exact absurd hj hnot) ho')
      refine ⟨fr4, w4, μ4, d4, h4', es4, c4, is4, (s2.trans s3).trans s4, fun f g z hz => le4 _ _ _ (le3 _ _ _ (le2 _ _ _ hz)), A4, f4, g4, p4.trans ?_, fun p => ?_, pa4⟩
      · rw [List.map_append, List.append_assoc]
        refine List.Perm.append_left _ ?_
        have := (hpf.map fun e => (getO e.k L, getO e.v L))
        rw [List.filterMap_cons, h4] at this
        exact this.symm
      · rw [b4, inM_lor, Bool.or_assoc]
        congr 1
        rw [Bool.eq_iff_iff]
        simp only [Bool.or_eq_true, decide_eq_true_eq]
        constructor
        · rintro (hh | ⟨y, hy, rfl⟩)
          · exact ⟨x, hx, hh⟩
          · exact ⟨y, hperm.mem_iff.2 (List.mem_cons_of_mem _ hy), rfl⟩
        · rintro ⟨y, hy, rfl⟩
          rcases List.mem_cons.1 (hperm.mem_iff.1 hy) with rfl | hy
          · exact .inl rfl
          · exact .inr ⟨y, hy, rfl⟩

/-- another memory that says less -/
theorem DAt.weak {h' : Hp} (A : DAt E P C rest k fn ds dd rnd cs frs Fs arr d qs idxs μ L h fr w) (hr : HR C.W.heap.size μ h' w) (e : ∀ f, (hget f h).isNone = false → (hget f h').isNone = false)
    (pa : ∀ j o', j ∈ idxs → inM d j = true → arr[j]? = some o' → ∀ h', PendH E (cxOf E fn) arr h' o' L) :
    DAt E P C rest k fn ds dd rnd cs frs Fs arr d qs idxs μ L h' fr w :=
  ⟨A.sd, hr, A.gr, A.ext, A.fi, A.st, ⟨A.kept.1, fun f hf => ⟨e f (A.kept.2 f hf).1, (A.kept.2 f hf).2⟩⟩, A.todo, A.td, A.dr, fun i o hi hd ho => pa i o hi hd ho h'⟩
theorem lorAll_inM {p : Nat} : ∀ {l : List (Nat × Oper × Nat)} {d : Nat}, inM (lorAll d l) p = (inM d p || decide (∃ x ∈ l, x.1 = p))
  | [], d => by simp [lorAll]
  | x :: l, d => by
    show inM (lorAll (Nat.lor d (Nat.pow 2 x.1)) l) p = _
    rw [lorAll_inM (l := l), inM_lor, Bool.or_assoc]
    congr 1
    rw [Bool.eq_iff_iff]
    simp

theorem HR.mapWeak {B : Nat} {f : Key} {es es0 : List En} {clock : Nat} {h' : Hp} (hH : HR B μ h w) (ho : hget f h = .map es clock) (hp : (es0.map kv).Perm (es.map kv)) (hf : hget f h' = .mapu es0) (hg : ∀ g, g ≠ f → hget g h' = hget g h) : HR B μ h' w :=
  ⟨hH.inj, hH.lt, fun g => by
    by_cases e : g = f
    · subst e
      have hO := hH.obj g
      rw [ho] at hO
      rw [hf]
      obtain ⟨h1, h2⟩ := hO
      refine ⟨h1, fun b s n hm => ?_⟩
      obtain ⟨h3, es', h4, h5⟩ := h2 b s n hm
      exact ⟨h3, es', clock, es, h4, h5, hp⟩
    · rw [hg g e]; exact hH.obj g, hH.side⟩

end
end
end Go.Ev


namespace Go.Ev
set_option linter.unusedVariables false
set_option linter.unusedSectionVars false
set_option linter.unusedSimpArgs false
noncomputable section
variable [Val]

section
variable {E : Env} {P : Program} (hE : EnvOk E P) {C : Call0} (hS : SumOk E P C)
variable {rest : List Ci} {k : List Item} {fn : Nat} {ds : List Df} {dd : Bool} {rnd : Option Key} {cs : List Fr} {frs : List Frame} {Fs : List Key} {arr : Array Oper}
    {d : Nat} {qs : List (Nat × Oper × Nat)} {idxs : List Nat} {μ : Mu} {L : Lo} {h : Hp} {nx : Key} {fr : Frame} {w : World}

/-- the region is through -/
theorem dat_end (A : DAt E P C rest k fn ds dd rnd cs frs Fs arr d qs [] μ L h fr w) : Good E P C (.go (.mk L rest (.mk fn ds .run dd rnd) cs h nx)) (lone fr (frs ++ C.cs0) w) := by
  obtain ⟨hm, hsz⟩ := A.fi.run _ _ _ _ rfl
  refine ⟨_, .one (s_regionEnd hm A.todo), ?_⟩
  refine Sim.mk (F := []) (Fs := Fs) A.hr A.gr A.ext ?_ A.st (by simpa using A.kept)
  have hk : KnR (cxOf E fn).nd μ [] L fr.tmps := ⟨fun t ht _ => A.dr.need t ht (by rintro ⟨i, hi, _⟩; cases hi), (fun e he => by cases he), fun u d x hm => by cases hm⟩
  have htd := A.td
  have hf := A.fi
  cases hf with
  | mk h1 h2 h3 h4 h5 h6 h7 => exact .mk (.mk h1 h2 h3 h4 h5 h6 h7) (.plain hk htd)

/-- what the plan is to do -/
def PG (E : Env) (P : Program) (C : Call0) (rest : List Ci) (k : List Item) (fn : Nat) (dd : Bool) (rnd : Option Key) (arr : Array Oper) (fuel : Nat) : Prop :=
  ∀ (d : Nat) (qs td : List (Nat × Oper × Nat)) (idxs : List Nat) (μ : Mu) (L : Lo) (h : Hp) (nx : Key) (fr : Frame) (w : World) (ds : List Df) (cs : List Fr) (frs : List Frame) (Fs : List Key), Left arr d td →
    DAt E P C rest k fn ds dd rnd cs frs Fs arr d qs idxs μ L h fr w →
    Good E P C (ops E (plan E (qOf E (cxOf E fn)) arr fuel d qs td) (.mk rest (.mk fn ds .run dd rnd) cs) L h nx) (lone fr (frs ++ C.cs0) w)

theorem chk_good {fuel i : Nat} {tdl : List (Nat × Oper × Nat)} (IH : PG E P C rest k fn dd rnd arr fuel) (sd : DrSt E (cxOf E fn) arr) (hr : HR C.W.heap.size μ h w) (gr : GR E μ) (ext : Ext C.W.heap.size C.W w) (fi : FiR E μ (.mk fn ds .run dd rnd) fr)
    (st : StR E μ cs frs Fs) (kept : Kept1 μ h (idxs.filterMap (pk E (cxOf E fn) arr d L) ++ Fs)) (todo : fr.todo = .inRegion arr idxs :: k) (td : TodoR E (cxOf E fn) μ [] rest k) (dr : DrI E (cxOf E fn) arr d qs idxs μ L fr.tmps)
    (hl : Left arr d tdl) (hp : ∀ p, inM (pre arr i) p = true → p ∉ idxs) :
    Good E P C (ops E (.chk (pend E (qOf E (cxOf E fn)) arr (pre arr i) qs) :: plan E (qOf E (cxOf E fn)) arr fuel d (qs.filter fun e => !inM (pre arr i) e.1) tdl) (.mk rest (.mk fn ds .run dd rnd) cs) L h nx) (lone fr (frs ++ C.cs0) w) := by
  show Good E P C (cnd (ckAll E h L (pend E (qOf E (cxOf E fn)) arr (pre arr i) qs)) (ops E (plan E (qOf E (cxOf E fn)) arr fuel d (qs.filter fun e => !inM (pre arr i) e.1) tdl) (.mk rest (.mk fn ds .run dd rnd) cs) L h nx) .fail) _
  cases hck : ckAll E h L (pend E (qOf E (cxOf E fn)) arr (pre arr i) qs) with
  | false => trivial
  | true =>
    have hno : ∀ j, j ∈ idxs → inM (pre arr i) j = false := fun j hj => by
      cases hh : inM (pre arr i) j with
      | false => rfl
      | true => exact absurd hj (hp j hh)
    refine IH _ _ _ _ _ _ _ _ _ _ _ _ _ _ hl ⟨sd, hr, gr, ext, fi, st, kept, todo, td, ⟨dr.lin, dr.cd, dr.dcl, fun j hj hdj => ?_, fun e he => dr.qsm e (List.mem_filter.1 he).1, dr.need, dr.pl⟩, fun j o hj hdj ho => chk_pendH sd dr hck hj hdj ho (hno j hj)⟩
    obtain ⟨o', m', hm⟩ := dr.hqs j hj hdj
    exact ⟨o', m', List.mem_filter.2 ⟨hm, by simp [hno j hj]⟩⟩

include hE hS in
theorem effect_good {fuel i : Nat} {is : List Nat} {o : Oper} {tdl : List (Nat × Oper × Nat)} (IH : PG E P C rest k fn dd rnd arr fuel) (A : DAt E P C rest k fn ds dd rnd cs frs Fs arr d qs (i :: is) μ L h fr w)
    (hd : inM d i = false) (ho : arr[i]? = some o) (hq : isQ E o = false) (hl : Left arr (Nat.lor d (Nat.pow 2 i)) tdl) :
    Good E P C (ops E (insOf (qOf E (cxOf E fn)) E arr (dst o.dst) o :: .chk (pend E (qOf E (cxOf E fn)) arr (pre arr i) qs) :: plan E (qOf E (cxOf E fn)) arr fuel (Nat.lor d (Nat.pow 2 i)) (qs.filter fun e => !inM (pre arr i) e.1) tdl) (.mk rest (.mk fn ds .run dd rnd) cs) L h nx) (lone fr (frs ++ C.cs0) w) := by
  obtain ⟨hm, hsz⟩ := A.fi.run _ _ _ _ rfl
  have hqq : ∀ y, VR μ (getO (q2 E (cxOf E fn) arr o y) L) (fr.eval y) := by rw [eval_evT]; exact q2_ok (DrI.reads A.sd A.dr A.gr rfl ho)
  have hkf : (i :: is).filterMap (pk E (cxOf E fn) arr d L) = is.filterMap (pk E (cxOf E fn) arr d L) := List.filterMap_cons_none (pk_self A.sd (k := 0) hd)
  have hah : ∀ p, inM (pre arr i) p = true → p ∉ is := fun p hp hm => (DrI.ahead A.sd A.dr hp).2 (List.mem_cons_of_mem _ hm)
  have hwait : ∀ ν, μ.le ν → BodyR E fn ν L fr.tmps .run (.wait (dst o.dst) (.chk (pend E (qOf E (cxOf E fn)) arr (pre arr i) qs) :: plan E (qOf E (cxOf E fn)) arr fuel (Nat.lor d (Nat.pow 2 i)) (qs.filter fun e => !inM (pre arr i) e.1) tdl) :: rest) fr.todo (is.filterMap (pk E (cxOf E fn) arr d L)) := by
    intro ν hle
    rw [A.todo]
    exact .drawn (.wait A.sd (A.td.mono hle) ho hq hd hl (A.dr.mono hle))
  show Good E P C ((insOf (qOf E (cxOf E fn)) E arr (dst o.dst) o).run E (.chk (pend E (qOf E (cxOf E fn)) arr (pre arr i) qs) :: plan E (qOf E (cxOf E fn)) arr fuel (Nat.lor d (Nat.pow 2 i)) (qs.filter fun e => !inM (pre arr i) e.1) tdl) (ops E (.chk (pend E (qOf E (cxOf E fn)) arr (pre arr i) qs) :: plan E (qOf E (cxOf E fn)) arr fuel (Nat.lor d (Nat.pow 2 i)) (qs.filter fun e => !inM (pre arr i) e.1) tdl)) (.mk rest (.mk fn ds .run dd rnd) cs) L h nx) _
  rw [q2_ins (x := cxOf E fn)]
  refine ins_good hE hS (F := is.filterMap (pk E (cxOf E fn) arr d L)) (Fs := Fs) hqq ⟨A.hr, A.gr, A.ext, A.fi, A.st, by rw [← hkf]; exact A.kept, A.todo, ho, hwait, fun ν a v hle hv => ?_, (hwait μ (Mu.le_refl _)).res, ?_⟩
  · rw [finish_todo fr v A.todo, finish_tmps fr v A.todo ho, ← DrI.pkE A.sd A.dr hd ho a]
    exact .drawn (.mid A.sd (A.td.mono hle) hl (DrI.eff A.sd (A.dr.mono hle) hd ho hsz hv) hah)
  · intro ν a v h' nx' w' ds' fr' cs' frs' hle hv hr' hg' he' hf' htm' htd' hs' hkp'
    have ht' : fr'.todo = .inRegion arr (i :: is) :: k := by rw [htd', A.todo]
    refine chk_good IH A.sd hr' hg' he' (hf'.finish v ht' ho) hs' (by rw [DrI.pkE A.sd A.dr hd ho a]; exact hkp') (finish_todo fr' v ht') (A.td.mono hle) ?_ hl hah
    rw [finish_tmps fr' v ht' ho, htm']
    exact DrI.eff A.sd (A.dr.mono hle) hd ho hsz hv

theorem pend_nil {m : Nat} {q : Operand → Opd} : ∀ {qs : List (Nat × Oper × Nat)}, pend E q arr m qs = [] → ∀ {i o n}, (i, o, n) ∈ qs → inM m i = false → ckIns E q arr o = none
  | [], _, _, _, _, hm, _ => by cases hm
  | (i', o', n') :: l, hp, i, o, n, hm, hi => by
    have hp : (bif inM m i' then pend E q arr m l else match ckIns E q arr o' with
      | some c => c :: pend E q arr m l
      | none => pend E q arr m l) = [] := hp
    rcases List.mem_cons.1 hm with e | hm
    · cases e
      rw [hi] at hp
      cases hc : ckIns E q arr o' with
      | none => rfl
      | some c => rw [hc] at hp; cases hp
    · refine pend_nil (qs := l) ?_ hm hi
      cases hi' : inM m i' with
      | true => rw [hi'] at hp; exact hp
      | false =>
        rw [hi'] at hp
        cases hc : ckIns E q arr o' with
        | none => rw [hc] at hp; exact hp
        | some c => rw [hc] at hp; cases hp
/-- what need not be looked at again says the same in any memory -/
theorem free_pendH {m e : Nat} {o' : Oper} (A : DAt E P C rest k fn ds dd rnd cs frs Fs arr d qs idxs μ L h fr w) (hp : pend E (qOf E (cxOf E fn)) arr m qs = []) (he : e ∈ idxs) (hde : inM d e = true) (ho' : arr[e]? = some o') (hm : inM m e = false) (h' : Hp) :
    PendH E (cxOf E fn) arr h' o' L := by
  obtain ⟨o2, n, hmem⟩ := A.dr.hqs e he hde
  have h1 := (mem_marked.1 (A.dr.qsm _ hmem).1).1
  rw [ho'] at h1; cases h1
  have hck := pend_nil hp hmem hm
  have hdo := (A.sd.ok ho').2.2
  rcases A.dr.pl e o' he hde ho' with ⟨h3, h4⟩ | ⟨h3, h4⟩
  · exact .inl h3
  · refine .inr ?_
    unfold dstOk at hdo
    unfold ckIns at hck
    split at h4
    · rename_i dd0 p hins
      intro hmp
      rw [hins] at hdo hck
      cases hdst : o'.dst with
      | none => rw [hdst] at hdo; simp only [hmp] at hdo; cases hdo
      | some t => rw [hdst] at hck; simp only [hmp, cond_true] at hck; cases hck
    · rename_i dd0 p hins
      rw [hins] at hdo hck
      cases hdst : o'.dst with
      | none => rw [hdst] at hdo; cases hdo
      | some t => rw [hdst] at hck; cases hck
    · exact h4.elim

theorem marked_fst : ∀ {l : List (Nat × Oper × Nat)}, l.Nodup → (∀ x ∈ l, x ∈ marked arr) → (l.map (·.1)).Nodup
  | [], _, _ => .nil
  | x :: l, h, hm => by
    obtain ⟨h1, h2⟩ := List.nodup_cons.1 h
    rw [List.map_cons, List.nodup_cons]
    refine ⟨fun hh => ?_, marked_fst h2 fun y hy => hm y (List.mem_cons_of_mem _ hy)⟩
    obtain ⟨y, hy, e⟩ := List.mem_map.1 hh
    have := marked_inj (hm y (List.mem_cons_of_mem _ hy)) (hm x (List.mem_cons_self ..)) e
    exact h1 (this ▸ hy)
include hE in
/-- entries of one map, in whatever order -/
theorem many_good {fuel : Nat} {l R Q : List (Nat × Oper × Nat)} {r : List IE} (IH : PG E P C rest k fn dd rnd arr fuel) (A : DAt E P C rest k fn ds dd rnd cs frs Fs arr d qs idxs μ L h fr w)
    (hend : idxs = [] ∨ ∃ j is, idxs = j :: is ∧ inM d j = false) (hl : Left arr d l) (hR : R = l.filter (nowIn d)) (hQ : Q = l.filter fun e => !nowIn d e) (hO : manyO E (qOf E (cxOf E fn)) arr qs R Q = some r) :
    Good E P C (ops E (.ins r :: plan E (qOf E (cxOf E fn)) arr fuel (lorAll d R) qs Q) (.mk rest (.mk fn ds .run dd rnd) cs) L h nx) (lone fr (frs ++ C.cs0) w) := by
  have memR : ∀ x, x ∈ R → x ∈ l ∧ isIn x.2.1 = true := fun x hx => by
    rw [hR] at hx
    obtain ⟨h1, h2⟩ := List.mem_filter.1 hx
    unfold nowIn at h2
    rw [Bool.and_eq_true] at h2
    exact ⟨h1, h2.1⟩
  have memQ : ∀ x, x ∈ l → x ∈ R ∨ x ∈ Q := fun x hx => by
    cases hn : nowIn d x with
    | true => exact .inl (by rw [hR]; exact List.mem_filter.2 ⟨hx, hn⟩)
    | false => exact .inr (by rw [hQ]; exact List.mem_filter.2 ⟨hx, by rw [hn]; rfl⟩)
  have mk : ∀ x, x ∈ l → arr[x.1]? = some x.2.1 ∧ x.2.2 = pre arr x.1 ∧ inM d x.1 = false := fun x hx => by
    have hy := (hl.2 x).1 hx
    obtain ⟨h1, h2⟩ := mem_marked.1 (show (x.1, x.2.1, x.2.2) ∈ marked arr from hy.1)
    exact ⟨h1, h2, hy.2⟩
  have hnd : (R.map (·.1)).Nodup := marked_fst (arr := arr) (by rw [hR]; exact hl.1.filter _) fun x hx => ((hl.2 x).1 (memR x hx).1).1
  have here : ∀ i, i < arr.size → inM d i = false → ∃ x ∈ l, x.1 = i := fun i hi hd => ⟨(i, arr[i], pre arr i), (hl.2 _).2 ⟨mem_marked.2 ⟨Array.getElem?_eq_getElem hi, rfl⟩, hd⟩, rfl⟩
  unfold manyO at hO
  cases R with
  | nil => cases hO
  | cons x0 R' =>
    simp only at hO
    cases hq : Q.all (fun y => (x0 :: R').all fun z => inM y.2.2 z.1) with
    | false => rw [hq] at hO; cases hO
    | true =>
      rw [hq] at hO
      simp only [cond_true] at hO
      cases hpe : pend E (qOf E (cxOf E fn)) arr (landAll x0.2.2 R') qs with
      | cons _ _ => rw [hpe] at hO; cases hO
      | nil =>
        rw [hpe] at hO
        have hie : ieList E (qOf E (cxOf E fn)) (x0 :: R') = some r := hO
        obtain ⟨hr, hex⟩ := ieList_mem hie
        cases r with
        | nil => trivial
        | cons e r0 =>
          show Good E P C (asMap (getO e.m L) .fail fun f => asMapO (hget f h) .fail fun es _ => List.rec (motive := fun _ => Sp) (cnd (insOk E L f (e :: r0)) (ops E (plan E (qOf E (cxOf E fn)) arr fuel (lorAll d (x0 :: R')) qs Q) (.mk rest (.mk fn ds .run dd rnd) cs) L (hset f (.mapu (insEs L (e :: r0))) h) nx) .fail) (fun _ _ _ => .fail) es) _
          cases hm0 : getO e.m L <;> first | trivial | skip
          rename_i f
          show Good E P C (asMapO (hget f h) .fail fun es _ => List.rec (motive := fun _ => Sp) (cnd (insOk E L f (e :: r0)) (ops E (plan E (qOf E (cxOf E fn)) arr fuel (lorAll d (x0 :: R')) qs Q) (.mk rest (.mk fn ds .run dd rnd) cs) L (hset f (.mapu (insEs L (e :: r0))) h) nx) .fail) (fun _ _ _ => .fail) es) _
          cases hf : hget f h <;> first | trivial | skip
          rename_i es clock
          cases es with
          | cons _ _ => trivial
          | nil =>
            show Good E P C (cnd (insOk E L f (e :: r0)) (ops E (plan E (qOf E (cxOf E fn)) arr fuel (lorAll d (x0 :: R')) qs Q) (.mk rest (.mk fn ds .run dd rnd) cs) L (hset f (.mapu (insEs L (e :: r0))) h) nx) .fail) _
            cases hok : insOk E L f (e :: r0) with
            | false => trivial
            | true =>
              obtain ⟨k1, k2⟩ := insOk_inv hok
              have hRem : Rem E (qOf E (cxOf E fn)) arr L f d [] (x0 :: R') := by
                refine ⟨hnd, fun x hx => ?_, fun i hi hdi => ?_, by rw [← hr]; exact k2⟩
                · obtain ⟨h1, h2, h3⟩ := mk x (memR x hx).1
                  obtain ⟨e', he'⟩ := hex x hx
                  have he2 : e' ∈ e :: r0 := by rw [hr]; exact List.mem_filterMap.2 ⟨x, hx, he'⟩
                  obtain ⟨h4, h5⟩ := k1 e' he2
                  exact ⟨h1, h3, (memR x hx).2, e', he', h4, h5, fun y hy => by cases hy⟩
                · obtain ⟨x, hx, rfl⟩ := here i hi hdi
                  rcases memQ x hx with hh | hh
                  · exact .inl ⟨x, hh, rfl⟩
                  · refine .inr fun z hz => ?_
                    have h5 := List.all_eq_true.1 (List.all_eq_true.1 hq x hh) z hz
                    rw [(mk x hx).2.1] at h5
                    exact h5
              obtain ⟨fr4, w4, μ4, d4, h4, es4, c4, is4, s4, le4, A4, f4, g4, p4, b4, pa4⟩ := many_run hE (h0 := h) nx (x0 :: R').length (x0 :: R') [] clock d idxs μ h fr w rfl A hRem hf (fun _ _ => rfl) (fun j o' hj hdj ho' h' => by
                refine free_pendH A hpe hj hdj ho' ?_ h'
                cases hh : inM (landAll x0.2.2 R') j with
                | false => rfl
                | true =>
                  exfalso
                  obtain ⟨h5, h6⟩ := landAll_inM hh
                  have h7 : ∀ x ∈ x0 :: R', inM (pre arr x.1) j = true := fun x hx => by
                    rw [← (mk x (memR x hx).1).2.1]
                    rcases List.mem_cons.1 hx with rfl | hx
                    · exact h5
                    · exact h6 x hx
                  rcases hend with rfl | ⟨j0, is, rfl, hdj0⟩
                  · cases hj
                  · rcases hRem.all j0 (A.dr.lin.lt j0 (List.mem_cons_self ..)) hdj0 with ⟨x, hx, rfl⟩ | h8
                    · exact (DrI.ahead A.sd A.dr (h7 x hx)).2 hj
                    · have h9 := (DrI.ahead A.sd A.dr (h8 x0 (List.mem_cons_self ..))).1
                      rw [(mk x0 (memR x0 (List.mem_cons_self ..)).1).2.2] at h9
                      cases h9)
              have hd4 : ∀ p, inM d4 p = inM (lorAll d (x0 :: R')) p := fun p => by rw [b4, lorAll_inM]
              have ed : d4 = lorAll d (x0 :: R') := Nat.eq_of_testBit_eq fun i => by
                have := hd4 i
                rw [inM_tb, inM_tb] at this
                exact this
              subst ed
              refine Good.of_steps s4 (IH _ _ _ _ _ _ _ _ _ _ _ _ _ _ ⟨by rw [hQ]; exact hl.1.filter _, fun y => ?_⟩ (A4.weak (HR.mapWeak A4.hr f4 (es0 := insEs L (e :: r0)) ?_ (hget_hset _ _ _) fun g hg => ?_) (fun g hg => ?_) pa4))
              · rw [hQ, List.mem_filter, hl.2 y, lorAll_inM]
                constructor
                · rintro ⟨⟨h5, h6⟩, h7⟩
                  refine ⟨h5, ?_⟩
                  rw [h6, Bool.false_or]
                  simp only [decide_eq_false_iff_not]
                  rintro ⟨x, hx, hxy⟩
                  have e2 := marked_inj ((hl.2 x).1 (memR x hx).1).1 h5 hxy
                  subst e2
                  rw [hR] at hx
                  rw [(List.mem_filter.1 hx).2] at h7
                  cases h7
                · rintro ⟨h5, h6⟩
                  rw [Bool.or_eq_false_iff] at h6
                  refine ⟨⟨h5, h6.1⟩, ?_⟩
                  cases hn : nowIn d y with
                  | false => rfl
                  | true =>
                    exfalso
                    have h8 : y ∈ x0 :: R' := by rw [hR]; exact List.mem_filter.2 ⟨(hl.2 y).2 ⟨h5, h6.1⟩, hn⟩
                    have := h6.2
                    simp only [decide_eq_false_iff_not] at this
                    exact this ⟨y, h8, rfl⟩
              · rw [insEs_kv, hr]
                exact (by simpa [kvs] using p4.symm)
              · rw [hget_hset_ne (fun e => hg e.symm), g4 g hg]
              · by_cases e2 : f = g
                · subst e2; rw [hget_hset]; rfl
                · rw [hget_hset_ne e2, ← g4 g (fun e => e2 e.symm)]; exact hg

include hE hS in
theorem plan_good : ∀ (fuel : Nat), PG E P C rest k fn dd rnd arr fuel
  | 0 => by
    intro d qs td idxs μ L h nx fr w ds cs frs Fs hl A
    trivial
  | fuel + 1 => by
    intro d qs td idxs μ L h nx fr w ds cs frs Fs hl A
    unfold plan
    generalize hg : takeQ E d td = g
    obtain ⟨a, r, d1⟩ := g
    simp only
    refine quiet_good hg hl.1 (fun e he => (hl.2 e).1 he) A fun L' h' nx' A' => ?_
    have hl' := hl.quiet hg
    cases hall : r.all (fun e => !(isQ E e.2.1 && subM e.2.2 d1)) with
    | false => trivial
    | true =>
      simp only [cond_true]
      obtain ⟨idxs', μ', fr', w', hst', hle, A2, hend⟩ := pend_run hE A'
      have head : ∀ j is, idxs' = j :: is → inM d1 j = false → ∃ oj, arr[j]? = some oj ∧ isQ E oj = false ∧ (j, oj, pre arr j) ∈ r := by
        intro j is e hdj
        subst e
        have hlt := A2.dr.lin.lt j (List.mem_cons_self ..)
        have hoj : arr[j]? = some arr[j] := Array.getElem?_eq_getElem hlt
        have hmem := (hl'.2 (j, arr[j], pre arr j)).2 ⟨mem_marked.2 ⟨hoj, rfl⟩, hdj⟩
        refine ⟨_, hoj, ?_, hmem⟩
        have := List.all_eq_true.1 hall _ hmem
        have hs : subM (pre arr j) d1 = true := subM_of fun p hp => (DrI.ahead A2.sd A2.dr hp).1
        simp only [hs, Bool.and_true, Bool.not_eq_true'] at this
        exact this
      cases r with
      | nil =>
        show Good E P C (.go (.mk L' rest (.mk fn ds .run dd rnd) cs h' nx')) _
        refine Good.of_steps hst' ?_
        rcases hend with rfl | ⟨j, is, rfl, hdj⟩
        · exact dat_end A2
        · obtain ⟨_, _, _, hmem⟩ := head j is rfl hdj
          cases hmem
      | cons e0 r0 =>
        simp only
        have many : Good E P C (ops E (match manyO E (qOf E (cxOf E fn)) arr (qs ++ a) ((e0 :: r0).filter (nowIn d1)) ((e0 :: r0).filter fun e => !nowIn d1 e) with
            | some r => .ins r :: plan E (qOf E (cxOf E fn)) arr fuel (lorAll d1 ((e0 :: r0).filter (nowIn d1))) (qs ++ a) ((e0 :: r0).filter fun e => !nowIn d1 e)
            | none => [.bad]) (.mk rest (.mk fn ds .run dd rnd) cs) L' h' nx') (lone fr (frs ++ C.cs0) w) := by
          cases hO : manyO E (qOf E (cxOf E fn)) arr (qs ++ a) ((e0 :: r0).filter (nowIn d1)) ((e0 :: r0).filter fun e => !nowIn d1 e) with
          | none => trivial
          | some r => exact Good.of_steps hst' (many_good hE (plan_good fuel) A2 hend hl' rfl rfl hO)
        cases hte : takeE E d1 (e0 :: r0) with
        | none => trivial
        | some p =>
          obtain ⟨⟨i, o, m⟩, r'⟩ := p
          simp only
          obtain ⟨t1, t2, t3, t4⟩ := takeE_spec hte
          have hx := (hl'.2 _).1 ((t3 _).2 (.inl rfl))
          obtain ⟨ho, rfl⟩ := mem_marked.1 hx.1
          have hdi : inM d1 i = false := hx.2
          have hlt : i < arr.size := (Array.getElem?_eq_some_iff.1 ho).1
          cases hal : r'.all (fun e => isQ E e.2.1 || inM e.2.2 i) with
          | true =>
            simp only [cond_true]
            refine Good.of_steps hst' ?_
            rcases hend with rfl | ⟨j, is, rfl, hdj⟩
            · rw [A2.dr.cd i hlt (by simp)] at hdi; cases hdi
            · obtain ⟨oj, hoj, hqj, hmem⟩ := head j is rfl hdj
              have hji : j = i := by
                rcases (t3 _).1 hmem with e | hmem
                · cases e; rfl
                · have := List.all_eq_true.1 hal _ hmem
                  simp only [hqj, Bool.false_or] at this
                  rw [(DrI.ahead A2.sd A2.dr this).1] at hdi; cases hdi
              subst hji
              exact effect_good hE hS (plan_good fuel) A2 hdj ho t1 (hl'.eff hte)
          | false =>
            simp only [cond_false]
            rcases r' with _ | ⟨⟨j, p, n⟩, _ | ⟨_, _⟩⟩
            · exact many
            · have hy := (hl'.2 _).1 ((t3 _).2 (.inr (List.mem_singleton.2 rfl)))
              obtain ⟨hp, rfl⟩ := mem_marked.1 hy.1
              have hdj : inM d1 j = false := hy.2
              have hij : i ≠ j := fun e => by
                have := marked_inj hx.1 hy.1 e
                exact (t4 hl'.1).2 (by rw [this]; exact List.mem_singleton.2 rfl)
              have hallD : ∀ e, e < arr.size → e ≠ i → e ≠ j → inM d1 e = true := by
                intro e he h1 h2
                cases hde : inM d1 e with
                | true => rfl
                | false =>
                  have hmem := (hl'.2 (e, arr[e], pre arr e)).2 ⟨mem_marked.2 ⟨Array.getElem?_eq_getElem he, rfl⟩, hde⟩
                  rcases (t3 _).1 hmem with e1 | e1
                  · cases e1; exact absurd rfl h1
                  · rw [List.mem_singleton] at e1; cases e1; exact absurd rfl h2
              simp only
              cases hst : isSt o && isSt p with
              | false => exact many
              | true =>
                simp only [Bool.and_eq_true] at hst
                simp only [cond_true]
                cases hpe : pend E (qOf E (cxOf E fn)) arr (Nat.land (pre arr i) (pre arr j)) (qs ++ a) with
                | cons _ _ => trivial
                | nil =>
                  simp only
                  unfold twoI
                  cases he1 : effI (qOf E (cxOf E fn)) E o.op <;> first | trivial | skip
                  rename_i n x y
                  cases he2 : effI (qOf E (cxOf E fn)) E p.op <;> first | trivial | skip
                  rename_i m x' y'
                  show Good E P C (asPtr (getO x L') .fail fun f _ _ => asPtr (getO x' L') .fail fun f' _ _ => cnd (Key.beq f f') .fail
                    (opt (xStore n x y h' nx' L') .fail fun r => Tn.rec (motive := fun _ => Sp) (fun _ h nx =>
                      opt (xStore m x' y' h nx L') .fail fun r => Tn.rec (motive := fun _ => Sp) (fun _ h nx => .go (.mk L' rest (.mk fn ds .run dd rnd) cs h nx)) r) r)) _
                  cases hx0 : getO x L' <;> first | trivial | skip
                  rename_i f g oo
                  cases hx1 : getO x' L' <;> first | trivial | skip
                  rename_i f' g' oo'
                  show Good E P C (cnd (Key.beq f f') .fail _) _
                  cases hb : Key.beq f f' with
                  | true => trivial
                  | false =>
                    have hne := Key.beq_ne hb
                    simp only [cnd_false]
                    cases hs1 : xStore n x y h' nx' L' with
                    | none => trivial
                    | some r1 =>
                      obtain ⟨F1, f1, g1⟩ := xStore_fn hx0 hs1
                      have hr1 := (g1 h' nx' rfl).symm.trans hs1
                      simp only [Option.some.injEq] at hr1
                      subst hr1
                      show Good E P C (opt (xStore m x' y' (F1 h') nx' L') .fail fun r => Tn.rec (motive := fun _ => Sp) (fun _ h nx => .go (.mk L' rest (.mk fn ds .run dd rnd) cs h nx)) r) _
                      cases hs2 : xStore m x' y' (F1 h') nx' L' with
                      | none => trivial
                      | some r2 =>
                        obtain ⟨F2, f2, g2⟩ := xStore_fn hx1 hs2
                        have hr2 := (g2 (F1 h') nx' rfl).symm.trans hs2
                        simp only [Option.some.injEq] at hr2
                        subst hr2
                        show Good E P C (.go (.mk L' rest (.mk fn ds .run dd rnd) cs (F2 (F1 h')) nx')) _
                        refine Good.of_steps hst' ?_
                        rcases hend with rfl | ⟨j0, is, rfl, hdj0⟩
                        · rw [A2.dr.cd i hlt (by simp)] at hdi; cases hdi
                        · have hj0 : j0 = i ∨ j0 = j := by
                            by_cases e1 : j0 = i
                            · exact .inl e1
                            · by_cases e2 : j0 = j
                              · exact .inr e2
                              · rw [hallD j0 (A2.dr.lin.lt j0 (List.mem_cons_self ..)) e1 e2] at hdj0; cases hdj0
                          have hno : ∀ e, e ∈ is → inM (pre arr j0) e = false := fun e he => by
                            cases hh : inM (pre arr j0) e with
                            | false => rfl
                            | true => exact absurd (List.mem_cons_of_mem _ he) (DrI.ahead A2.sd A2.dr hh).2
                          have pa : ∀ e o', e ∈ is → inM d1 e = true → arr[e]? = some o' → ∀ h', PendH E (cxOf E fn) arr h' o' L' := by
                            intro e o' he hde ho' h0
                            refine free_pendH A2 hpe (List.mem_cons_of_mem _ he) hde ho' ?_ h0
                            rw [inM_land]
                            rcases hj0 with e1 | e1 <;> subst e1 <;> rw [hno e he] <;> simp
                          rcases hj0 with e1 | e1
                          · subst e1
                            obtain ⟨fr2, w2, μ2, d2, k1, k2, k3⟩ := two_run hE A2 hdi hdj hij hallD ho hst.1 he1 hs1 hp hst.2 he2 hs2 pa
                            exact Good.of_steps k1 (dat_end k3)
                          · subst e1
                            have q1 : xStore m x' y' h' nx' L' = some (.mk undefA (F2 h') nx') := g2 h' nx' (f1.off _ _ (fun e => hne e.symm)).symm
                            have q2 : xStore n x y (F2 h') nx' L' = some (.mk undefA (F1 (F2 h')) nx') := g1 (F2 h') nx' (f2.off _ _ hne)
                            obtain ⟨fr2, w2, μ2, d2, k1, k2, k3⟩ := two_run hE A2 hdj hdi (Ne.symm hij) (fun e he h1 h2 => hallD e he h2 h1) hp hst.2 he2 q1 ho hst.1 he1 q2 pa
                            refine Good.of_steps k1 (dat_end (k3.same fun key => ?_))
                            by_cases e1 : key = f
                            · subst e1
                              rw [f2.off _ _ hne, f1.at' h' (F2 h') (f2.off _ _ hne)]
                            · by_cases e2 : key = f'
                              · subst e2
                                rw [f1.off _ _ e1, f2.at' h' (F1 h') (f1.off _ _ e1)]
                              · rw [f2.off _ _ e2, f1.off _ _ e1, f1.off _ _ e1, f2.off _ _ e2]
            · exact many

end
end
end Go.Ev


namespace Go.Ev
set_option linter.unusedVariables false
set_option linter.unusedSectionVars false
set_option linter.unusedSimpArgs false
noncomputable section
variable [Val]

/-- WHAT WAS CLAIMED OF REGIONS THAT DRAW -/
theorem drawn_ok {E : Env} {P : Program} (hE : EnvOk E P) {C : Call0} (hS : SumOk E P C) : DrawnOk E P C where
  start := by
    intro arr t rest fn ds dd rnd cs L h nx μ fr frs Fs w k hr hg he hf hs hk hkn htd ht
    unfold drawnIns
    simp only
    cases hb : (arr.toList.all fun o => okD (cxOf E fn).n o.dst && (resOk E (cxOf E fn).res o && dstOk E (opdW (cxOf E fn).nd (gl E) []) o)) && orderOk E arr (marked arr) with
    | false => trivial
    | true =>
      simp only [cond_true]
      simp only [Bool.and_eq_true] at hb
      have sd : DrSt E (cxOf E fn) arr := ⟨hb.1, hb.2⟩
      obtain ⟨l1, l2⟩ := lin_start (arr := arr) t (fun i o ho => (sd.ord1 ho).2.1)
      have hpk : (Region.schedule true arr t).filterMap (pk E (cxOf E fn) arr 0 L) = [] := by
        rw [List.filterMap_eq_nil_iff]
        intro i _
        exact pk_self sd (k := 0) (inM_zero i)
      refine plan_good hE hS (arr.size + 1) 0 [] (marked arr) _ μ L h nx fr w ds cs frs Fs ⟨marked_nodup arr, fun e => ⟨fun h => ⟨h, inM_zero _⟩, fun h => h.1⟩⟩
        ⟨sd, hr, hg, he, hf, hs, by rw [hpk]; simpa using hk, ht, htd, ⟨l1, fun i hi hn => absurd (l2 i hi) hn, fun i p _ h => ?_, fun i _ h => ?_, (fun e he => by cases he), fun t ht hX => hkn.need t ht (fun h => h), fun i o _ h => ?_⟩, fun i o _ h => ?_⟩
      all_goals (rw [inM_zero] at h; cases h)
  mid := by
    intro l rest fn ds dd rnd cs L h nx μ fr frs F Fs w hr hg he hf hs hk hb
    generalize ht : fr.todo = items at hb
    cases hb with
    | @mid arr i idxs fuel d qs td _ k sd htd hl hdr hp =>
      exact chk_good (plan_good hE hS fuel) sd hr hg he hf hs hk ht htd hdr hl hp

end
end Go.Ev


namespace Go.Ev
set_option linter.unusedVariables false
set_option linter.unusedSectionVars false
set_option linter.unusedSimpArgs false
noncomputable section
variable [Val]
section
variable {E : Env} {P : Program} (hE : EnvOk E P) {C : Call0} (hS : SumOk E P C) (hD : DrawnOk E P C)

include hE hS hD in
/-- every step -/
theorem step_good {c : Cfg} {m : Machine} (hs : Sim E P C c m) : Good E P C (step E c) m := by
  cases hs with
  | @mk L todo fi cs h nx μ fr frs F Fs w hr hg he hf hst hk =>
    obtain ⟨fn, ds, md, dd, rnd⟩ := fi
    have hf' := hf
    cases hf with
    | mk hfi hb =>
      cases hfi with
      | mk g1 g2 g3 g4 g5 g6 g7 =>
        cases md with
        | run =>
          have g3 : fr.mode = .run := g3
          cases todo with
          | nil =>
            show Good E P C (leave E none [] L (.mk fn ds .run dd rnd) cs h nx) _
            have hfi2 : FiR E μ (.mk fn ds .run dd rnd) fr := .mk g1 g2 (show fr.mode = .run from g3) g4 g5 g6 g7
            generalize hit : fr.todo = items at hb
            cases hb with
            | out h0 h1 h2 => cases h0
            | drawn h1 => cases h1
            | plain hkn htd =>
              obtain ⟨cl', k', hcl, hhd, hsteps⟩ := htd.head (P := P) (isize items) (Nat.le_refl _)
              have hkn' : KnR (cxOf E fn).nd μ cl' L fr.tmps := by rcases hcl with h | h <;> subst h; (exact hkn); exact hkn.forget
              refine Good.of_steps (hsteps fr _ w g3 hit) ?_
              cases hhd
              exact leave_good (todo := []) (fr := Frame.to fr []) (F := []) hr hg he (.mk (hfi2.to _) (.plain hkn' (.nil _))) g3 hst (by simpa using hk) (.inl ⟨rfl, rfl⟩)
          | cons x rest => exact run_good hE hS hD hr hg he hf' g3 hst hk
        | returning =>
          have g3 : fr.mode = .returning := g3
          exact unwind_good hE hr hg he hf' (by rw [g3]; intro hh; cases hh) hst hk
        | panicking ch =>
          obtain ⟨_, g3, _⟩ := g3
          exact unwind_good hE hr hg he hf' (by rw [g3]; intro hh; cases hh) hst hk

theorem allB_all {f : Cfg → Bool} : ∀ {l : List Cfg}, allB f l = true → ∀ c ∈ l, f c = true
  | [], _, c, hc => by cases hc
  | [a], h, c, hc => by
    rw [List.mem_singleton] at hc
    subst hc
    exact h
  | a :: b :: l, h, c, hc => by
    have h : cnd (f a) (allB f (b :: l)) false = true := h
    cases hfa : f a with
    | false => rw [hfa] at h; cases h
    | true =>
      rw [hfa] at h
      rcases List.mem_cons.1 hc with rfl | hc
      · exact hfa
      · exact allB_all (l := b :: l) h c hc

theorem Done.of_steps {a : AV} {m m' : Machine} (h : Steps P m m') (g : Done E P C a m') : Done E P C a m := by
  obtain ⟨fr, w, v, μ, h1, h2⟩ := g
  exact ⟨fr, w, v, μ, h.trans h1, h2⟩

include hE hS hD in
theorem run_sound : ∀ (n : Nat) {c : Cfg} {m : Machine}, run E n c = true → Sim E P C c m → Done E P C (.bool true) m
  | 0, _, _, h, _ => by cases h
  | n + 1, c, m, h, hs => by
    have hg := step_good hE hS hD hs
    have h : (Sp.rec (motive := fun _ => Bool) (fun c' => back (run E n) c') (fun v => asBool v false fun b => b) (fun l => allB (run E n) l) false (step E c) : Bool) = true := h
    cases hc : step E c with
    | go c' =>
      rw [hc] at h hg
      obtain ⟨m', h1, h2⟩ := hg
      exact (run_sound n (c := c') h h2).of_steps h1
    | done v =>
      rw [hc] at h hg
      cases v with
      | bool b =>
        have h : b = true := h
        subst h
        exact hg
      | _ => cases h
    | br l =>
      rw [hc] at h hg
      obtain ⟨c', hm, m', h1, h2⟩ := hg
      exact (run_sound n (allB_all h c' hm) h2).of_steps h1
    | fail => rw [hc] at h; cases h

/-- a call begun -/
def startB (E : Env) (n : Nat) (f : Nat) (vs : List AV) (h : Hp) (nx : Key) : Bool :=
  Sp.rec (motive := fun _ => Bool) (fun c' => back (run E n) c') (fun _ => false) (fun _ => false) false (enter E f vs false [] h nx)


include hE in
/-- the frame that a call begins with -/
theorem enter_good0 {f : Nat} {vs : List AV} {args : Array Value} {h : Hp} {nx : Key} {μ : Mu} {w : World}
    (hv : VRs μ vs args.toList) (hr : HR C.W.heap.size μ h w) (hg : GR E μ) (he : Ext C.W.heap.size C.W w) :
    Good E P C (enter E f vs false [] h nx) (lone (Frame.enter P f args .normal) C.cs0 w) := by
  unfold enter
  cases hc : compBody E f with
  | none => trivial
  | some b =>
    simp only [opt_some]
    cases hl : Nat.ble vs.length 24 with
    | false => trivial
    | true =>
      simp only [cnd_true]
      unfold compBody at hc
      split at hc
      · rename_i fn hfn
        split at hc
        · rename_i c hbody
          simp only [Option.some.injEq] at hc
          subst hc
          have hP := hE.fs _ _ hfn
          have hn : nOf E f = fn.ntmps := by simp only [nOf, hfn]
          have htm : (Frame.enter P f args .normal).tmps = args ++ Array.replicate (fn.ntmps - args.size) undef := by simp [Frame.enter, hP]
          have htd : (Frame.enter P f args .normal).todo = [.code c] := by simp [Frame.enter, hP, hbody]
          refine ⟨_, .refl _ _, ?_⟩
          refine Sim.mk (F := []) (Fs := []) (fr := Frame.enter P f args .normal) (frs := []) hr hg he ?_ .nil ⟨.nil, fun f hf => by cases hf⟩
          refine .mk (.mk rfl (by simp [Frame.enter, DfsR]) rfl rfl rfl ?_ ⟨fn, hfn⟩) ?_
          · rw [htm, hn]; simp; omega
          · rw [htm, htd]
            refine .plain (cl := []) ⟨fun t ht _ => ?_, (fun e he => by cases he), fun u d x hm => by cases hm⟩ ?_
            · rw [tm_mk]
              rcases fillT_get vs (inNd_lt ht) with h0 | h0
              · rw [h0]; simp only [VR]
              · rw [h0]
                cases hvt : vs[t]? with
                | none => simp only [Option.getD_none, VR]
                | some a =>
                  simp only [Option.getD_some]
                  obtain ⟨v, e1, e2⟩ := hv.get hvt
                  rw [Array.getElem?_toList] at e1
                  have hlt : t < args.size := (Array.getElem?_eq_some_iff.1 e1).1
                  rw [Array.getD_eq_getD_getElem?, Array.getElem?_append_left hlt, e1]
                  exact e2
            · have := TodoR.code (E := E) (x := cxOf E f) (μ := μ) (cl := []) (c := c) (.nil (aft (cxOf E f).nd [] c))
              rw [List.append_nil] at this
              exact this
        · cases hc
      · cases hc
end

theorem run_calls {E : Env} {P : Program} (hE : EnvOk E P) {W : World} (hS : ∀ cs, SumOk E P ⟨cs, W⟩) (hD : ∀ cs, DrawnOk E P ⟨cs, W⟩) {n : Nat} {vs : List AV} {args : Array Value} {h : Hp} {nx : Key} {μ : Mu}
    (hv : VRs μ vs args.toList) (hr : HR W.heap.size μ h W) (hg : GR E μ) (hrun : startB E n E.root vs h nx = true) :
    Calls P E.root args W (fun e w' => e = .returned (.bool true) ∧ Ext W.heap.size W w') := by
  intro cs
  have hgo := enter_good0 (E := E) (P := P) hE (C := ⟨cs, W⟩) (f := E.root) (nx := nx) hv hr hg (Ext.refl _ _)
  unfold startB at hrun
  cases hen : enter E E.root vs false [] h nx with
  | go c =>
    rw [hen] at hrun hgo
    obtain ⟨m', h1, h2⟩ := hgo
    have hrun : run E n c = true := hrun
    obtain ⟨fr, w, v, ν, k1, k2, k3, k4, k5⟩ := run_sound hE (hS cs) (hD cs) n hrun h2
    simp only [VR] at k3
    subst k3
    exact ⟨.returned (.bool true), w, fr, ⟨rfl, k4⟩, h1.trans k1, k5, k2⟩
  | _ => rw [hen] at hrun; cases hrun

end
end Go.Ev


namespace Go.Ev
noncomputable section
set_option linter.unusedSectionVars false
variable [Val]
/-- A RUN OF THE EVALUATOR THAT COMES TO true IS A CALL THAT RETURNS true -/
theorem ev_calls {E : Env} {P : Program} (hE : EnvOk E P) {W : World} (hS : ∀ cs, SumOk E P ⟨cs, W⟩) {n : Nat} {vs : List AV} {args : Array Value} {h : Hp} {nx : Key} {μ : Mu}
    (hv : VRs μ vs args.toList) (hr : HR W.heap.size μ h W) (hg : GR E μ) (hrun : startB E n E.root vs h nx = true) :
    Calls P E.root args W (fun e w' => e = .returned (.bool true) ∧ Ext W.heap.size W w') :=
  run_calls hE hS (fun cs => drawn_ok hE (hS cs)) hv hr hg hrun
end
end Go.Ev
