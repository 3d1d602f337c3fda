/- THE EVALUATOR, part 9 of 12: EvDr6 EvCtl8 EvCtl9 EvCtl10 EvDr7 EvDr8 EvDr9 EvDr12 -/
import Derived.Test.YtdhfgfdpncmopaaGreatDoorEv8
set_option linter.unusedVariables false
set_option linter.unusedSectionVars false
set_option linter.unusedSimpArgs false
namespace Go.Ev
set_option linter.unusedVariables false
set_option linter.unusedSectionVars false
set_option linter.unusedSimpArgs false
noncomputable section
variable [Val] [Fk]
theorem LinR.tail {arr : Array Oper} {i : Nat} {is : List Nat} (k : LinR arr (i :: is)) : LinR arr is :=
  ⟨fun j hj => k.lt j (List.mem_cons_of_mem _ hj), (List.nodup_cons.1 k.nodup).2, fun a j b hab p hp => k.ord (i :: a) j b (by rw [hab]; rfl) p hp⟩
def setD (od : Option Nat) (v : Value) (tmps : Array Value) : Array Value := match od with | some t => tmps.setIfInBounds t v | none => tmps
theorem setD_same {t : Nat} {v : Value} {tmps : Array Value} (h : t < tmps.size) : (setD (some t) v tmps).getD t undef = v := by
  show (tmps.setIfInBounds t v).getD t undef = v
  rw [Array.getD_eq_getD_getElem?, Array.getElem?_setIfInBounds]
  simp [h]
theorem setD_ne {od : Option Nat} {t : Nat} {v : Value} {tmps : Array Value} (h : od ≠ some t) : (setD od v tmps).getD t undef = tmps.getD t undef := by
  cases od with
  | none => rfl
  | some u =>
    show (tmps.setIfInBounds u v).getD t undef = _
    rw [Array.getD_eq_getD_getElem?, Array.getD_eq_getD_getElem?, Array.getElem?_setIfInBounds]
    rw [if_neg (fun e => h (by rw [e]))]
theorem okD_lt {n t : Nat} (h : okD n (some t) = true) : t < n ∧ t < 512 := by
  unfold okD at h
  simp only [Bool.and_eq_true] at h
  exact ⟨Nat.le_of_ble_eq_true h.1, Nat.le_of_ble_eq_true h.2⟩
theorem fm_congr {α β : Type} {f g : α → Option β} : ∀ {l : List α}, (∀ a ∈ l, f a = g a) → l.filterMap f = l.filterMap g
  | [], _ => rfl
  | a :: l, h => by rw [List.filterMap_cons, List.filterMap_cons, h a (List.mem_cons_self ..), fm_congr (l := l) fun b hb => h b (List.mem_cons_of_mem _ hb)]
theorem insU_pu {q : Operand → Opd} {E : Env} {d d' : Dst} {o : Oper} {p : PI} (h : insU q E d o = .pu d' p) : kindOf E o.op = 0 ∧ p = pureI q E o.op := by
  unfold insU at h
  split at h <;> first | (cases h; done) | skip
  rename_i hk
  cases h; exact ⟨hk, rfl⟩
theorem insU_al {q : Operand → Opd} {E : Env} {d d' : Dst} {o : Oper} {p : AI} (h : insU q E d o = .al d' p) : kindOf E o.op = 1 ∧ p = allocI q E o.op := by
  unfold insU at h
  split at h <;> first | (cases h; done) | skip
  rename_i hk
  cases h; exact ⟨hk, rfl⟩
section
variable {E : Env} {x : Cx} {arr : Array Oper} (s : DrSt E x arr) {d : Nat} {qs : List (Nat × Oper × Nat)} {i : Nat} {is : List Nat} {μ : Mu} {L : Lo} {tmps : Array Value} {o : Oper} {v : Value}
include s
theorem DrI.done (k : DrI E x arr d qs (i :: is) μ L tmps) (hd : inM d i = true) (ho : arr[i]? = some o) (hsz : x.n ≤ tmps.size) (hv : ∀ t, o.dst = some t → VR μ (getT t L.tm) v) :
    DrI E x arr d qs is μ L (setD o.dst v tmps) := by
  refine ⟨k.lin.tail, fun j hj hn => ?_, k.dcl, fun j hj hdj => k.hqs j (List.mem_cons_of_mem _ hj) hdj, k.qsm, fun t ht hX => ?_, fun j o' hj hdj ho' => k.pl j o' (List.mem_cons_of_mem _ hj) hdj ho'⟩
  · by_cases e : j = i
    · subst e; exact hd
    · exact k.cd j hj (fun hm => by rcases List.mem_cons.1 hm with h | h; exact e h; exact hn h)
  · by_cases e : o.dst = some t
    · have := okD_lt (e ▸ (s.ok ho).1)
      rw [e, setD_same (by omega)]
      exact hv t e
    · rw [setD_ne e]
      refine k.need t ht ?_
      rintro ⟨j, hj, hdj, o', ho', hdst⟩
      rcases List.mem_cons.1 hj with rfl | hj
      · rw [ho] at ho'; cases ho'; exact e hdst
      · exact hX ⟨j, hj, hdj, o', ho', hdst⟩
theorem DrI.ahead (k : DrI E x arr d qs (i :: is) μ L tmps) {p : Nat} (hp : inM (pre arr i) p = true) : inM d p = true ∧ p ∉ i :: is :=
  ⟨k.cd p (k.lin.ord [] i is rfl p hp).1 (k.lin.ord [] i is rfl p hp).2, (k.lin.ord [] i is rfl p hp).2⟩
theorem DrI.sameE (k : DrI E x arr d qs (i :: is) μ L tmps) (hd : inM d i = false) (ho : arr[i]? = some o) {j : Nat} {o' : Oper} (hj : j ∈ is) (hdj : inM d j = true) (ho' : arr[j]? = some o') (a : AV) :
    SameFor E x arr o' L (Go.Ev.put (dst o.dst) a L) := by
  have hij : i ≠ j := fun e => by subst e; exact (List.nodup_cons.1 k.lin.nodup).1 hj
  refine same_put s ho ho' hij ?_ fun _ => ?_
  · cases h : inM (pre arr j) i with
    | false => rfl
    | true => rw [k.dcl j i (k.lin.lt j (List.mem_cons_of_mem _ hj)) hdj h] at hd; cases hd
  · cases h : inM (pre arr i) j with
    | false => rfl
    | true => exact absurd (List.mem_cons_of_mem _ hj) (DrI.ahead s k h).2
theorem DrI.eff (k : DrI E x arr d qs (i :: is) μ L tmps) (hd : inM d i = false) (ho : arr[i]? = some o) (hsz : x.n ≤ tmps.size) {a : AV} (hv : VR μ a v) :
    DrI E x arr (Nat.lor d (Nat.pow 2 i)) qs is μ (Go.Ev.put (dst o.dst) a L) (setD o.dst v tmps) := by
  have hnot := (List.nodup_cons.1 k.lin.nodup).1
  have hd' : ∀ j, j ∈ is → inM (Nat.lor d (Nat.pow 2 i)) j = true → inM d j = true := by
    intro j hj h
    rw [inM_lor] at h
    simp only [Bool.or_eq_true, decide_eq_true_eq] at h
    rcases h with h | h
    · exact h
    · subst h; exact absurd hj hnot
  refine ⟨k.lin.tail, fun j hj hn => ?_, fun j p hj hdj hp => ?_, fun j hj hdj => k.hqs j (List.mem_cons_of_mem _ hj) (hd' j hj hdj), k.qsm, fun t ht hX => ?_, fun j o' hj hdj ho' => ?_⟩
  · rw [inM_lor]
    by_cases e : i = j
    · simp [e]
    · rw [k.cd j hj (fun hm => by rcases List.mem_cons.1 hm with h | h; exact e h.symm; exact hn h)]; rfl
  · rw [inM_lor] at hdj ⊢
    simp only [Bool.or_eq_true, decide_eq_true_eq] at hdj ⊢
    rcases hdj with h | h
    · exact .inl (k.dcl j p hj h hp)
    · subst h; exact .inl (DrI.ahead s k hp).1
  · by_cases e : o.dst = some t
    · have := okD_lt (e ▸ (s.ok ho).1)
      rw [e, setD_same (by omega), put_same]
      exact hv
    · rw [setD_ne e, put_ne (s.ok ho).1 (inNd_lt ht) e]
      refine k.need t ht ?_
      rintro ⟨j, hj, hdj, o', ho', hdst⟩
      rcases List.mem_cons.1 hj with rfl | hj
      · rw [hd] at hdj; cases hdj
      · exact hX ⟨j, hj, by rw [inM_lor, hdj]; rfl, o', ho', hdst⟩
  · exact (DrI.sameE s k hd ho hj (hd' j hj hdj) ho' a).pendL (k.pl j o' (List.mem_cons_of_mem _ hj) (hd' j hj hdj) ho')
theorem DrI.pkE (k : DrI E x arr d qs (i :: is) μ L tmps) (hd : inM d i = false) (ho : arr[i]? = some o) (a : AV) :
    is.filterMap (pk E x arr (Nat.lor d (Nat.pow 2 i)) (Go.Ev.put (dst o.dst) a L)) = is.filterMap (pk E x arr d L) := by
  have hnot := (List.nodup_cons.1 k.lin.nodup).1
  apply fm_congr
  intro j hj
  unfold pk
  have hij : i ≠ j := fun e => by subst e; exact hnot hj
  rw [inM_lor, show decide (i = j) = false from by simp [hij], Bool.or_false]
  cases ho' : arr[j]? with
  | none => rfl
  | some o' =>
    simp only
    cases hdj : inM d j with
    | false => rfl
    | true => rw [(DrI.sameE s k hd ho hj hdj ho' a).tgt]
theorem pk_self {k : Nat} (hd : inM d i = false) : pk E x arr d L i = none := by
  unfold pk; rw [hd]; cases arr[i]? <;> rfl
/-! ## looked at again -/
theorem pend_mem {m : Nat} {h : Hp} : ∀ {qs : List (Nat × Oper × Nat)}, ckAll E h L (pend E (qOf E x) arr m qs) = true → ∀ {i o n c}, (i, o, n) ∈ qs → inM m i = false → ckIns E (qOf E x) arr o = some c → ckRun E h L c = true
  | [], _, _, _, _, _, hm, _, _ => by cases hm
  | (i', o', n') :: l, hck, i, o, n, c, hm, hi, hc => by
    have hck : ckAll E h L (bif inM m i' then pend E (qOf E x) arr m l else match ckIns E (qOf E x) arr o' with
      | some c => c :: pend E (qOf E x) arr m l
      | none => pend E (qOf E x) arr m l) = true := hck
    rcases List.mem_cons.1 hm with e | hm
    · cases e
      rw [hi, hc] at hck
      have hck : cnd (ckRun E h L c) (ckAll E h L (pend E (qOf E x) arr m l)) false = true := hck
      cases hr : ckRun E h L c with
      | true => rfl
      | false => rw [hr] at hck; cases hck
    · refine pend_mem (qs := l) ?_ hm hi hc
      cases hi' : inM m i' with
      | true => rw [hi'] at hck; exact hck
      | false =>
        rw [hi'] at hck
        cases hc' : ckIns E (qOf E x) arr o' with
        | none => rw [hc'] at hck; exact hck
        | some c' =>
          rw [hc'] at hck
          have hck : cnd (ckRun E h L c') (ckAll E h L (pend E (qOf E x) arr m l)) false = true := hck
          cases hr : ckRun E h L c' with
          | true => rw [hr] at hck; exact hck
          | false => rw [hr] at hck; cases hck
theorem ckOf_run {h : Hp} {c : Ck} (hg : GOn E x arr o L) (hc : ckRun E h L (ckOf arr o c) = true) : ckRun E h L c = true := by
  rcases hg with hg | ⟨y, w, hg, hw⟩
  · unfold ckOf at hc; rw [hg] at hc; exact hc
  · obtain ⟨j, p, t, h1, h2, h3, rfl⟩ := guardOf_tmp hg
    unfold ckOf at hc
    rw [h1] at hc
    simp only at hc
    rw [h2] at hc
    simp only at hc
    rw [h3] at hc
    simp only at hc
    have hc : (match getT t L.tm with
      | .bool b => cnd (cnd b w (bnot w)) (ckRun E h L c) true
      | .tuple _ => true
      | _ => false) = true := hc
    have hw : getO (slotX x.nd t) L = .bool w := hw
    rw [slotX_getO] at hw
    split at hw
    · rw [hw] at hc
      cases w <;> exact hc
    · cases hw
theorem chk_pendH {m : Nat} {h : Hp} (k : DrI E x arr d qs is μ L tmps) (hck : ckAll E h L (pend E (qOf E x) arr m qs) = true) {j : Nat} {o' : Oper} (hj : j ∈ is) (hdj : inM d j = true) (ho' : arr[j]? = some o') (hm : inM m j = false) :
    PendH E x arr h o' L := by
  obtain ⟨o2, n, hmem⟩ := k.hqs j hj hdj
  obtain ⟨h1, h2⟩ := k.qsm _ hmem
  have h1 := (mem_marked.1 h1).1
  rw [ho'] at h1; cases h1
  rcases k.pl j o' hj hdj ho' with ⟨h3, h4⟩ | ⟨h3, h4⟩
  · exact .inl h3
  · refine .inr ?_
    have hdo := (s.ok ho').2.2
    split at h4
    · rename_i dd p hins
      intro hmp
      cases hdst : o'.dst with
      | none =>
        unfold dstOk at hdo
        rw [hdst, hins] at hdo
        simp only [hmp, Bool.not_true] at hdo
        cases hdo
      | some t =>
        have hci : ckIns E (qOf E x) arr o' = some (slot t fun a b c => ckOf arr o' (.p a b c p)) := by
          unfold ckIns; rw [hdst]; simp only; rw [hins]; simp only [hmp, cond_true]
        have hr := pend_mem s hck hmem hm hci
        have hr : ckRun E h L (ckOf arr o' (slot t fun a b c => .p a b c p)) = true := hr
        have hr := ckOf_run s h3 hr
        have hr : opt (p.ev E h L) false (fun v => aveq v (getT t L.tm)) = true := hr
        cases hev : p.ev E h L with
        | none => rw [hev] at hr; cases hr
        | some v =>
          rw [hev] at hr
          exact ⟨L, fun _ _ => rfl, v, hev, fun t' ht' => by cases ht'; exact aveq_eq _ _ hr⟩
    · rename_i dd p hins
      cases hdst : o'.dst with
      | none =>
        unfold dstOk at hdo
        rw [hdst, hins] at hdo
        cases hdo
      | some t =>
        have hci : ckIns E (qOf E x) arr o' = some (slot t fun a b c => ckOf arr o' (.a a b c p)) := by
          unfold ckIns; rw [hdst]; simp only; rw [hins]
        have hr := pend_mem s hck hmem hm hci
        have hr : ckRun E h L (ckOf arr o' (slot t fun a b c => .a a b c p)) = true := hr
        have hr := ckOf_run s h3 hr
        have hr : (match getT t L.tm with
          | .ptr f 0 0 => opt (p.ev h f L) false fun r => cnd (aveq r.2 (.ptr f 0 0)) (obeq r.1 (hget f h)) false
          | .slice f 0 0 l cp sz ex => opt (p.ev h f L) false fun r => cnd (aveq r.2 (.slice f 0 0 l cp sz ex)) (obeq r.1 (hget f h)) false
          | .map f => opt (p.ev h f L) false fun r => cnd (aveq r.2 (.map f)) (obeq r.1 (hget f h)) false
          | _ => false) = true := hr
        have htg : tgtV L o' = getT t L.tm := by unfold tgtV; rw [hdst]
        have fin : ∀ (f : Key) (u : AV), keyOfA u = some f → getT t L.tm = u → opt (p.ev h f L) false (fun r => cnd (aveq r.2 u) (obeq r.1 (hget f h)) false) = true →
            ∃ L0 f, Agr E x o' L0 L ∧ keyOfA (tgtV L o') = some f ∧ (hget f h).isNone = false ∧ p.ev h f L0 = some (hget f h, tgtV L o') := by
          intro f u hu hgt hop
          cases hev : p.ev h f L with
          | none => rw [hev] at hop; cases hop
          | some r =>
            obtain ⟨ob, a⟩ := r
            rw [hev] at hop
            have hop : cnd (aveq a u) (obeq ob (hget f h)) false = true := hop
            cases ha : aveq a u with
            | false => rw [ha] at hop; cases hop
            | true =>
              rw [ha] at hop
              have e1 := aveq_eq _ _ ha
              have e2 := obeq_eq hop
              subst e1
              obtain ⟨_, rfl⟩ := insU_al hins
              have hst := alloc_stat hev
              refine ⟨L, f, fun _ _ => rfl, by rw [htg, hgt]; exact hu, by rw [← e2]; exact hst.2.1, by rw [hev, htg, hgt, e2]⟩
        split at hr
        · rename_i f hgt; exact fin f _ rfl hgt hr
        · rename_i f l cp sz ex hgt; exact fin f _ rfl hgt hr
        · rename_i f hgt; exact fin f _ rfl hgt hr
        · cases hr
    · exact h4
end
end
end Go.Ev

namespace Go.Ev
set_option linter.unusedVariables false
set_option linter.unusedSectionVars false
set_option linter.unusedSimpArgs false
noncomputable section
variable [Val] [Fk]
section
variable {E : Env} {P : Program} (hE : EnvOk E P) {C : Call0} (hS : SumOk E P C)
theorem noWait {x : Cx} {μ : Mu} {cl : Cl} {l : List Ci} {k : List Item} (t : TodoR E x μ cl l k) : (∀ d l' r, l ≠ .wait d l' :: r) ∧ ∀ r' r, l ≠ .inRF r' :: r := by
  have comp : ∀ (c : Code) (cl : Cl) (l : List Ci), ((∀ d l' r, l ≠ .wait d l' :: r) ∧ ∀ r' r, l ≠ .inRF r' :: r) → (∀ d l' r, compC E x cl c ++ l ≠ .wait d l' :: r) ∧ ∀ r' r, compC E x cl c ++ l ≠ .inRF r' :: r := by
    intro c
    induction c with
    | skip => intro cl l h; exact h
    | label _ => intro cl l h; exact h
    | seq a b iha ihb => intro cl l h; simp only [compC, List.append_assoc]; exact iha _ _ (ihb _ _ h)
    | _ => intros; exact ⟨fun d l' r hh => (by cases hh), fun r' r hh => (by cases hh)⟩
  induction t with
  | nil cl => exact ⟨fun d l' r hh => (by cases hh), fun r' r hh => (by cases hh)⟩
  | forget _ ih => exact ih
  | code _ ih => exact comp _ _ _ ih
  | _ => exact ⟨fun d l' r hh => (by cases hh), fun r' r hh => (by cases hh)⟩
theorem BodyR.res {fn : Nat} {μ : Mu} {L : Lo} {tmps : Array Value} {md : Md} {l : List Ci} {k : List Item} {F : List Key} (b : BodyR E fn μ L tmps md l k F) :
    ∃ X, NeedR (cxOf E fn).nd X μ L.tm tmps ∧ ∀ t, inM (cxOf E fn).res t = true → ¬ X t := by
  have dr : ∀ {arr : Array Oper} {d : Nat} {qs : List (Nat × Oper × Nat)} {idxs : List Nat}, DrSt E (cxOf E fn) arr → DrI E (cxOf E fn) arr d qs idxs μ L tmps →
      ∃ X, NeedR (cxOf E fn).nd X μ L.tm tmps ∧ ∀ t, inM (cxOf E fn).res t = true → ¬ X t := by
    intro arr d qs idxs h1 h2
    refine ⟨_, h2.need, ?_⟩
    rintro t ht ⟨i, hi, hd, o, ho, hdst⟩
    have hmem : o ∈ arr.toList := by rw [Array.mem_toList_iff]; exact Array.mem_of_getElem? ho
    have h3 := List.all_eq_true.1 h1.ops o hmem
    simp only [Bool.and_eq_true] at h3
    obtain ⟨_, h4, _⟩ := h3
    obtain ⟨o', m', hq⟩ := h2.hqs i hi hd
    obtain ⟨hq1, hq2⟩ := h2.qsm _ hq
    have ho' := (mem_marked.1 hq1).1
    rw [ho] at ho'
    cases ho'
    unfold resOk at h4
    rw [hq2, hdst] at h4
    simp only [Bool.not_true, Bool.false_or] at h4
    rw [ht] at h4; cases h4
  cases b with
  | plain h1 h2 => exact ⟨NoX, h1.need, fun _ _ h => h⟩
  | waitP h1 h2 h3 h4 h5 => exact ⟨NoX, h1.need, fun _ _ h => h⟩
  | inRFP h1 h2 h3 => exact ⟨NoX, h1.need, fun _ _ h => h⟩
  | drawn h1 =>
    cases h1 with
    | wait h1 h2 h3 h4 h5 h6 h7 => exact dr h1 h7
    | mid h1 h2 h3 h4 h5 => exact dr h1 h4
  | out h0 h1 h2 => exact ⟨_, h1, h2⟩
theorem Kept1.tail {μ : Mu} {h : Hp} {F Fs : List Key} (k : Kept1 μ h (F ++ Fs)) : Kept1 μ h Fs := ⟨(List.nodup_append.1 k.1).2.1, fun f hf => k.2 f (List.mem_append_right _ hf)⟩
theorem finish_good {a : AV} {v : Value} {c : Fr} {fc : Frame} {F : List Key} {rest : List Fr} {frs : List Frame} {h : Hp} {nx : Key} {μ : Mu} {w : World}
    (hv : VR μ a v) (hr : HR C.W.heap.size μ h w) (hg : GR E μ) (he : Ext C.W.heap.size C.W w) (hs : StR E μ (c :: rest) (fc :: frs) F) (hk : Kept1 μ h F) {m : Machine}
    (hm : Steps P m (lone (fc.finish v) (frs ++ C.cs0) w)) : Good E P C (finish a c rest h nx) m := by
  cases hs with
  | @cons L todo fi fr cs frs F1 Fs1 hf hs =>
    obtain ⟨fn, ds, md, dd, rnd⟩ := fi
    cases hf with
    | mk hfi hb =>
      unfold finish
      split
      · rename_i L' d l rest' fn' ds' dd' rnd' heq
        cases heq
        refine Good.of_steps hm ?_
        generalize hit : fc.todo = items at hb
        cases hb with
        | plain h1 h2 => exact absurd rfl ((noWait h2).1 _ _ _)
        | @waitP cl arr i n l' k o h1 h2 h3 h4 h5 =>
          have ht : fc.todo = .inRegion arr (i :: List.range' (i + 1) n) :: k := by rw [hit, List.range'_succ]
          refine ⟨_, .refl _ _, Sim.mk hr hg he (.mk (hfi.finish v ht h3) ?_) hs hk⟩
          rw [finish_todo fc v ht]
          refine .plain (cl := pushCl o.dst cl) ?_ (.mid (by omega) h5)
          rw [finish_tmps fc v ht h3]
          have hsz : (cxOf E fn).n ≤ fc.tmps.size := by cases hfi with | mk h1 h2 h3 h4 h5 h6 h7 => exact h6
          cases hdst : o.dst with
          | none => exact h1.putNone a
          | some t => rw [hdst] at h4; exact h1.put h4 hsz hv
        | drawn h1 =>
          cases h1 with
          | @wait arr i o idxs fuel d' qs td rest k s htd ho hq hd hleft hdri =>
            have ht : fc.todo = .inRegion arr (i :: idxs) :: k := hit
            have hsz : (cxOf E fn).n ≤ fc.tmps.size := by cases hfi with | mk h1 h2 h3 h4 h5 h6 h7 => exact h6
            refine ⟨_, .refl _ _, Sim.mk hr hg he (.mk (hfi.finish v ht ho) ?_) hs hk⟩
            have hmid := DrawnB.mid (i := i) (fuel := fuel) s htd hleft (DrI.eff s hdri hd ho hsz hv) (fun p hp hm => (DrI.ahead s hdri hp).2 (List.mem_cons_of_mem _ hm))
            rw [DrI.pkE s hdri hd ho a] at hmid
            rw [finish_todo fc v ht, finish_tmps fc v ht ho]
            exact .drawn hmid
        | out h0 h1 h2 => cases h0
      · rename_i L' l rest' fn' ds' dd' rnd' heq
        cases heq
        refine Good.of_steps hm ?_
        generalize hit : fc.todo = items at hb
        cases hb with
        | plain h1 h2 => exact absurd rfl ((noWait h2).2 _ _)
        | @inRFP l b rest k h1 h2 h3 =>
          have hfin : fc.finish v = { fc with todo := .endRangeFunc b :: k } := by
            obtain ⟨fn, tmps, todo, ds, md, kd, rnd⟩ := fc
            simp only at hit; subst hit; rfl
          rw [hfin]
          refine ⟨_, .refl _ _, Sim.mk hr hg he (.mk ?_ ?_) hs hk⟩
          · cases hfi with | mk h1 h2 h3 h4 h5 h6 h7 => exact .mk h1 h2 h3 h4 h5 h6 h7
          · exact .plain h1 (.endRF h2 h3)
        | drawn h1 => cases h1
        | out h0 h1 h2 => cases h0
      · trivial
theorem retV_good {fi : FI} {a : AV} {v : Value} {fr : Frame} {cs : List Fr} {frs : List Frame} {F : List Key} {h : Hp} {nx : Key} {μ : Mu} {w : World} {m : Machine}
    (hfi : FiR E μ fi fr) (hv : VR μ a v) (hr : HR C.W.heap.size μ h w) (hg : GR E μ) (he : Ext C.W.heap.size C.W w) (hs : StR E μ cs frs F) (hk : Kept1 μ h F)
    (hm : ∀ g cs' w', (doReturn P true fr (frs ++ C.cs0) none v w).bare = .go (gor g cs') w' → Steps P m (lone g cs' w')) : Good E P C (retV fi a cs h nx) m := by
  unfold retV
  cases cs with
  | nil => trivial
  | cons c rest =>
    cases hs with
    | @cons L todo fic fc cs frs F1 Fs1 hf hs =>
      simp only
      cases hfi with
      | @mk fn ds md dd rnd fr e1 e2 e3 e4 e5 e6 e7 =>
        cases dd with
        | false =>
          simp only
          have e4 : fr.kind = .normal := e4
          refine finish_good hv hr hg he (.cons hf hs) hk (hm _ _ _ ?_)
          rw [List.cons_append, doReturn_normal e4]; rfl
        | true =>
          have e4 : fr.kind = .deferred := e4
          obtain ⟨fn1, ds1, md1, dd1, rnd1⟩ := fic
          simp only
          cases hf with
          | mk hfi1 hb1 =>
            cases hfi1 with
            | mk g1 g2 g3 g4 g5 g6 g7 =>
              -- the caller goes on as it was
              have stays : (∀ x g older, fc.mode ≠ .panicking ({ v := x, recovered := true, goexit := g } :: older)) →
                  Good E P C (.go (.mk L todo (.mk fn1 ds1 md1 dd1 rnd1) rest h nx)) m := fun hn => by
                refine ⟨_, hm fc _ w ?_, Sim.mk hr hg he (.mk (.mk g1 g2 g3 g4 g5 g6 g7) hb1) hs hk⟩
                rw [List.cons_append, doReturn_uncaught e4 hn]; rfl
              cases md1 with
              | run => exact stays (fun x g o hh => by have g3 : fc.mode = .run := g3; rw [g3] at hh; cases hh)
              | returning => exact stays (fun x g o hh => by have g3 : fc.mode = .returning := g3; rw [g3] at hh; cases hh)
              | panicking ch =>
                obtain ⟨ch', k1, k2⟩ := g3
                cases ch with
                | nil => have k2 : ch' = [] := k2; subst k2; exact stays (fun x g o hh => by rw [k1] at hh; cases hh)
                | cons e ch =>
                  obtain ⟨pv, rec⟩ := e
                  obtain ⟨u, l', k3, k4, k5⟩ := k2
                  subst k3
                  cases rec with
                  | false => exact stays (fun x g o hh => by rw [k1] at hh; cases hh)
                  | true =>
                    simp only
                    have hgo : ∀ (a : List PE) (b : List PanicEntry), PEsR μ a b → ∀ e ∈ b, e.goexit = false := by
                      intro a
                      induction a with
                      | nil => intro b hb; have hb : b = [] := hb; subst hb; simp
                      | cons e a ih =>
                        intro b hb
                        obtain ⟨pv, rec⟩ := e
                        obtain ⟨u, l', q1, q2, q3⟩ := hb
                        subst q1
                        intro e he
                        rcases List.mem_cons.1 he with rfl | he
                        · rfl
                        · exact ih l' q3 e he
                    obtain ⟨X, x1, x2⟩ := hb1.res
                    have hF1 : F1 = [] := by cases hb1 with | out z1 z2 z3 => rfl
                    subst hF1
                    refine ⟨_, hm { fc with mode := .returning } _ w ?_, Sim.mk (F := []) hr hg he (.mk (.mk g1 g2 rfl g4 g5 g6 g7) (.out trivial x1 x2)) hs hk⟩
                    rw [List.cons_append, doReturn_caught e4 k1 (hgo _ _ k5)]; rfl
end
end
end Go.Ev

namespace Go.Ev
set_option linter.unusedVariables false
set_option linter.unusedSectionVars false
set_option linter.unusedSimpArgs false
noncomputable section
variable [Val] [Fk]
section
variable {E : Env} {P : Program} (hE : EnvOk E P) {C : Call0} (hS : SumOk E P C)
variable {B : Nat} {μ : Mu} {h : Hp} {w : World}
theorem HR.loopOb (hH : HR B μ h w) {l : Key} {st : LoopState} {pend : Option Code} {fn : Nat} {t : Tm} {ps : List Nat} {a b : Code} {df : Key} {x : Cx} (ho : hget l h = .loop st pend fn t ps a b df x) {bk : Nat} (hl : AtR μ l bk) :
    ∃ r : Loop, w.heap[bk]? = some (.loop r) ∧ r.state = st ∧ r.pending = pend ∧ (∃ s' n', μ df 0 = some (r.defers, s', n')) ∧ (Instr.getLoop bk).run P w = .ok r w ∧
      (∀ o, (setObj bk o).run P w = .ok () (World.put w bk o)) ∧ B ≤ bk ∧
      ∀ st' pend', HR B μ (hset l (.loop st' pend' fn t ps a b df x) h) (World.put w bk (.loop { r with state := st', pending := pend' })) := by
  obtain ⟨s, n, hm⟩ := hl
  have hO := hH.obj l
  rw [ho] at hO
  obtain ⟨h1, h2⟩ := hO
  obtain ⟨hB, tmps, dfb, s', n', hheap, h3, h4⟩ := h2 bk s n hm
  refine ⟨_, hheap, rfl, rfl, ⟨s', n', h4⟩, ?_, fun o => ?_, hB, fun st' pend' => ?_⟩
  · simp only [Instr.getLoop, getObj, Sem.run_bind, Sem.run, hheap, Result.andThen_ok, Sem.run_pure]
  · simp only [setObj, Sem.run, hheap]; rfl
  · refine hH.turn hm hB rfl ⟨h1, fun b1 s1 n1 hm1 => ?_⟩
    rw [hm] at hm1
    simp only [Option.some.injEq, Prod.mk.injEq] at hm1
    obtain ⟨rfl, rfl, rfl⟩ := hm1
    exact ⟨hB, tmps, dfb, s', n', put_get (hH.lt _ _ _ _ _ hm), h3, h4⟩
theorem leave_good {jump : Option Code} {todo rest : List Ci} {L : Lo} {fi : FI} {cs : List Fr} {nx : Key} {fr : Frame} {frs : List Frame} {F Fs : List Key}
    (hr : HR C.W.heap.size μ h w) (hg : GR E μ) (he : Ext C.W.heap.size C.W w) (hf : FrR E μ L todo fi fr F) (hm : fr.mode = .run) (hs : StR E μ cs frs Fs) (hk : Kept1 μ h (F ++ Fs))
    (hj : (jump = none ∧ fr.todo = []) ∨ (jump = some .ret ∧ ∃ k, fr.todo = .code .ret :: k) ∨ (∃ id k, jump = some (.exit id) ∧ fr.todo = .code (.exit id) :: k ∧ exitTo id k = none) ∨
      (∃ l k, jump = some (.goto l) ∧ fr.todo = .code (.goto l) :: k ∧ gotoIn l k = none)) :
    Good E P C (leave E jump rest L fi cs h nx) (lone fr (frs ++ C.cs0) w) := by
  obtain ⟨fn, ds, md, dd, rnd⟩ := fi
  cases hf with
  | mk hfi hb =>
    obtain ⟨X, x1, x2⟩ := hb.res
    unfold leave
    cases rnd with
    | none =>
      simp only
      cases hret : isRet jump with
      | false => trivial
      | true =>
        simp only [cond_true]
        have htd : (∃ k, fr.todo = [] ∨ fr.todo = .code .ret :: k) := by
          rcases hj with ⟨_, h1⟩ | ⟨_, k, h1⟩ | ⟨id, k, h0, _⟩ | ⟨l, k, h0, _⟩
          · exact ⟨[], .inl h1⟩
          · exact ⟨k, .inr h1⟩
          · subst h0; cases hret
          · subst h0; cases hret
        obtain ⟨k, htd⟩ := htd
        cases hfi with
        | mk g1 g2 g3 g4 g5 g6 g7 =>
          refine ⟨_, .one (s_ret hm g5 htd), Sim.mk (F := []) (Fs := Fs) hr hg he (.mk (.mk g1 g2 rfl g4 g5 g6 g7) (.out trivial x1 x2)) hs hk.tail⟩
    | some l =>
      simp only
      have hfi' := hfi
      cases hfi with
      | mk g1 g2 g3 g4 g5 g6 g7 =>
        obtain ⟨bk, hl, hrd⟩ := g5
        unfold endRound
        split
        · rename_i st pend f t ps a b df x ho
          simp only [opt_some]
          obtain ⟨r, e1, e2, e3, e4, e5, e6, e7, e8⟩ := hr.loopOb (P := P) ho hl
          have hst : (if jump.isNone = true then LoopState.ready else .done) = jst jump := by cases jump <;> rfl
          have hrun : (Instr.endRound bk jump).run P w = .ok (.bool jump.isNone) (World.put w bk (.loop { r with state := jst jump, pending := jump })) := by
            unfold Instr.endRound
            simp only [Sem.run_bind, e5, Result.andThen_ok, e6, Sem.run_pure]
            rw [← hst]
          refine retV_good (fr := fr) hfi' (v := .bool jump.isNone) (by simp only [VR]) (e8 _ _) hg (he.trans (Ext.put e7)) hs (hk.tail.kp (Kp.set rfl)) (fun g cs' w' hd => ?_)
          exact .one (next_of (by rw [s_leaveRound hm hrd hj hrun]; exact hd))
        · trivial
theorem resV_sound {fn : Nat} {X : Nat → Prop} {L : Lo} {tmps : Array Value} {rf : ResultVar → Sem Value} (hrf1 : ∀ t, rf (.tmp t) = pure (tmps.getD t undef)) (hrf2 : ∀ a t, rf (.cell a t) = do loadVar t (← asAddr (tmps.getD a undef))) (hE : EnvOk E P) (hr : HR B μ h w) (hn : NeedR (cxOf E fn).nd X μ L.tm tmps) (hX : ∀ t, inM (cxOf E fn).res t = true → ¬ X t) : ∀ (rs : List ResultVar) (l : List AV),
    resV h L (rs.map (rvOf E (cxOf E fn))) = some l → ∃ vs : List Value, (rs.mapM rf).run P w = .ok vs w ∧ VRs μ l vs
  | [], l, hl => by cases hl; exact ⟨[], rfl, .nil⟩
  | r :: rs, l, hl => by
    simp only [List.map_cons] at hl
    unfold resV at hl
    split at hl
    · rename_i a m h1 h2
      cases hl
      obtain ⟨vs, k1, k2⟩ := resV_sound hrf1 hrf2 hE hr hn hX rs m h2
      have slotv : ∀ t, (inNd (cxOf E fn).nd t && inM (cxOf E fn).res t) = true → VR μ (getT t L.tm) (tmps.getD t undef) := fun t ht => by
        simp only [Bool.and_eq_true] at ht
        exact hn t ht.1 (hX t ht.2)
      cases r with
      | tmp t =>
        simp only [rvOf] at h1
        cases hc : inNd (cxOf E fn).nd t && inM (cxOf E fn).res t with
        | false => rw [hc] at h1; cases h1
        | true =>
          rw [hc] at h1
          cases h1
          refine ⟨tmps.getD t undef :: vs, ?_, .cons (slotv t hc) k2⟩
          simp only [List.mapM_cons, hrf1, hrf2, Sem.run_bind, Sem.run_pure, Result.andThen_ok, k1]
      | cell t ty =>
        simp only [rvOf] at h1
        cases hc : inNd (cxOf E fn).nd t && inM (cxOf E fn).res t with
        | false => rw [hc] at h1; cases h1
        | true =>
          rw [hc] at h1
          simp only [cond_true] at h1
          cases hsa : E.szA ty with
          | none => rw [hsa] at h1; cases h1
          | some p =>
            obtain ⟨n, ag⟩ := p
            rw [hsa] at h1
            obtain ⟨f, g, o, hp, h1⟩ := asPtr_some (show asPtr (getT t L.tm) none (fun f gn o => cnd ag (opt (getCells h f gn o n) none fun l => some (.agg l)) (getCell h f gn o)) = some a from h1)
            have hs := slotv t hc
            rw [hp] at hs
            simp only [VR] at hs
            obtain ⟨b, s, mm, hm, hso, hv⟩ := hs
            obtain ⟨ds, hu, hsz, hag⟩ := szA_some hsa
            have ha : (asAddr (tmps.getD t undef)).run P w = .ok ⟨b, o - s, none⟩ w := by rw [hv]; rfl
            cases ag with
            | true =>
              obtain ⟨lc, hlc, h1⟩ := opt_inv h1
              cases h1
              obtain ⟨hlen, us, hus, hcell⟩ := getCells_sound hr hm hso hlc
              refine ⟨.agg us.toArray :: vs, ?_, .cons (by simp only [VR]; exact ⟨_, rfl, by simpa using hus⟩) k2⟩
              have hrun := run_loadCells_list (P := P) w ⟨b, o - s, none⟩ us (fun j v hj => by rw [add_zero_spot]; exact hcell j v hj)
              have hl2 : us.length = n := by rw [← hus.length, hlen]
              rw [hl2] at hrun
              simp only [List.mapM_cons, hrf1, hrf2, Sem.run_bind, ha, Result.andThen_ok, loadVar, hE.runAgg hu, hag, if_true, hE.runSize hsz, hrun, Sem.run_pure, k1]
            | false =>
              obtain ⟨v, hcv, hvr⟩ := getCell_sound hr hm hso h1
              refine ⟨v :: vs, ?_, .cons hvr k2⟩
              simp only [List.mapM_cons, hrf1, hrf2, Sem.run_bind, ha, Result.andThen_ok, loadVar, hE.runAgg hu, hag, Bool.false_eq_true, if_false, run_load, hcv, k1, Sem.run_pure]
    · cases hl
def resF (tmps : Array Value) : ResultVar → Sem Value
  | .tmp t => pure (tmps.getD t undef)
  | .cell a t => do loadVar t (← asAddr (tmps.getD a undef))
theorem results_eq (fu : Func) (tmps : Array Value) : Go.results fu tmps = (do
    let vs ← fu.results.mapM (resF tmps)
    pure (if h : vs.size = 1 then vs[0] else .tuple vs)) := by
  have : (fun r : ResultVar => (match r with
    | .tmp t => pure (tmps.getD t undef)
    | .cell a t => do loadVar t (← asAddr (tmps.getD a undef)) : Sem Value)) = resF tmps := by
    funext r; cases r <;> rfl
  rw [← this]
  rfl
include hE in
theorem results_run {fn : Nat} {X : Nat → Prop} {L : Lo} {tmps : Array Value} {l : List AV} (hr : HR B μ h w) (hn : NeedR (cxOf E fn).nd X μ L.tm tmps) (hX : ∀ t, inM (cxOf E fn).res t = true → ¬ X t) (hl : resV h L (compRes E fn) = some l) :
    ∃ fu v, P.funcs[fn]? = some fu ∧ (Go.results fu tmps).run P w = .ok v w ∧ VR μ (one l) v := by
  unfold compRes at hl
  split at hl
  · rename_i fu hfu
    obtain ⟨vs, h1, h2⟩ := resV_sound (rf := resF tmps) (fun _ => rfl) (fun _ _ => rfl) hE hr hn hX fu.results.toList l hl
    refine ⟨fu, (if h : vs.toArray.size = 1 then vs.toArray[0] else .tuple vs.toArray), hE.fs _ _ hfu, ?_, ?_⟩
    · rw [results_eq]
      have hmm : ∀ (f : ResultVar → Sem Value), (fu.results.mapM f).run P w = ((fu.results.toList.mapM f).run P w).andThen fun a w' => .ok a.toArray w' := by
        intro f
        conv => lhs; rw [← Array.toArray_toList (xs := fu.results)]
        simp only [List.mapM_toArray, Sem.run_map]
      simp only [Sem.run_bind]
      rw [hmm, h1]
      simp only [Result.andThen_ok, Sem.run_pure]
    · have hlv := h2.length
      cases l with
      | nil => rw [h2.nil_inv]; simp only [one]; simp; simp only [VR]; exact ⟨#[], rfl, .nil⟩
      | cons a l =>
        obtain ⟨v, r, rfl, h3, h4⟩ := h2.cons_inv
        cases l with
        | nil => rw [h4.nil_inv]; simpa [one] using h3
        | cons b l =>
          obtain ⟨u, r2, rfl, h5, h6⟩ := h4.cons_inv
          simp only [one]
          rw [dif_neg (by simp)]
          simp only [VR]
          exact ⟨_, rfl, .cons h3 (.cons h5 h6)⟩
  · cases hl
include hE in
theorem results_good {L : Lo} {fn : Nat} {ds : List Df} {md : Md} {dd : Bool} {rnd : Option Key} {cs : List Fr} {nx : Key} {fr : Frame} {frs : List Frame} {todo : List Ci} {F Fs : List Key}
    (hr : HR C.W.heap.size μ h w) (hg : GR E μ) (he : Ext C.W.heap.size C.W w) (hfi : FiR E μ (.mk fn ds md dd rnd) fr) (hb : BodyR E fn μ L fr.tmps md todo fr.todo F) (hm : fr.mode = .returning) (hd : fr.defers = []) (hs : StR E μ cs frs Fs) (hk : Kept1 μ h Fs) :
    Good E P C (results E (.mk fn ds md dd rnd) L cs h nx) (lone fr (frs ++ C.cs0) w) := by
  obtain ⟨X, x1, x2⟩ := hb.res
  cases cs with
  | nil =>
    show Good E P C (opt (resV h L (compRes E fn)) .fail fun l => cnd dd .fail (cnd (Nat.beq fn E.root) (.done (one l)) .fail)) _
    cases hl : resV h L (compRes E fn) with
    | none => trivial
    | some l =>
      obtain ⟨fu, v, hfu, hrun, hv⟩ := results_run hE hr x1 x2 hl
      cases hfi with
      | mk g1 g2 g3 g4 g5 g6 g7 =>
        have hfu' : P.funcs[fr.fn]? = some fu := by rw [g1]; exact hfu
        cases dd with
        | true => trivial
        | false =>
          cases hs
          cases hroot : Nat.beq fn E.root with
          | false => trivial
          | true => exact ⟨fr, w, v, μ, .refl _ _, ⟨hm, hd, g4, fu, hfu', hrun⟩, hv, he, g1.trans (Nat.eq_of_beq_eq_true hroot)⟩
  | cons c rest =>
    show Good E P C (opt (resV h L (compRes E fn)) .fail fun l => retV (.mk fn ds md dd rnd) (one l) (c :: rest) h nx) _
    cases hl : resV h L (compRes E fn) with
    | none => trivial
    | some l =>
      obtain ⟨fu, v, hfu, hrun, hv⟩ := results_run hE hr x1 x2 hl
      have hfi' := hfi
      cases hfi with
      | mk g1 g2 g3 g4 g5 g6 g7 =>
        have hfu' : P.funcs[fr.fn]? = some fu := by rw [g1]; exact hfu
        exact retV_good hfi' hv hr hg he hs hk (fun g cs' w' hh => .one (next_of (by rw [u_results hm hd hfu' hrun]; exact hh)))
theorem PEsR.append {a b : List PE} {c d : List PanicEntry} (h : PEsR μ a c) (k : PEsR μ b d) : PEsR μ (a ++ b) (c ++ d) := by
  induction a generalizing c with
  | nil => have h : c = [] := h; subst h; exact k
  | cons e a ih =>
    obtain ⟨v, r⟩ := e
    obtain ⟨u, l', rfl, h1, h2⟩ := h
    exact ⟨u, l' ++ d, rfl, h1, ih h2⟩
theorem DfsR.append {a b : List Df} {c d : List Deferred} (h : DfsR μ a c) (k : DfsR μ b d) : DfsR μ (a ++ b) (c ++ d) := by
  induction a generalizing c with
  | nil => simp only [DfsR] at h; subst h; exact k
  | cons e a ih =>
    simp only [DfsR] at h
    obtain ⟨x, r, rfl, h1, h2⟩ := h
    show DfsR μ (e :: (a ++ b)) (x :: (r ++ d))
    simp only [DfsR]
    exact ⟨x, r ++ d, rfl, h1, ih h2⟩
include hE in
theorem unwind_good {L : Lo} {todo : List Ci} {fi : FI} {cs : List Fr} {nx : Key} {fr : Frame} {frs : List Frame} {F Fs : List Key}
    (hr : HR C.W.heap.size μ h w) (hg : GR E μ) (he : Ext C.W.heap.size C.W w) (hf : FrR E μ L todo fi fr F) (hm : fr.mode ≠ .run) (hs : StR E μ cs frs Fs) (hk : Kept1 μ h (F ++ Fs)) :
    Good E P C (unwind E L todo fi cs h nx) (lone fr (frs ++ C.cs0) w) := by
  obtain ⟨fn, ds, md, dd, rnd⟩ := fi
  cases hf with
  | mk hfi hb =>
    have hfi' := hfi
    cases hfi with
    | mk g1 g2 g3 g4 g5 g6 g7 =>
      have hmd : fr.mode = .returning ∨ ∃ c, fr.mode = .panicking c := by
        cases hh : fr.mode with
        | run => exact absurd hh hm
        | returning => exact .inl rfl
        | panicking c => exact .inr ⟨c, rfl⟩
      have hF : F = [] := by
        cases md with
        | run => exact absurd g3 hm
        | returning => cases hb with | out z1 z2 z3 => rfl
        | panicking ch => cases hb with | out z1 z2 z3 => rfl
      subst hF
      unfold unwind
      cases ds with
      | nil =>
        have hd : fr.defers = [] := by simpa only [DfsR] using g2
        cases md with
        | run => exact absurd g3 hm
        | returning => exact results_good hE hr hg he hfi' hb g3 hd hs hk.tail
        | panicking ch =>
          simp only
          cases cs with
          | nil => trivial
          | cons c rest =>
            obtain ⟨t, td, f⟩ := c
            simp only
            cases hs with
            | @cons _ _ _ fc _ frs F1 Fs1 hfc hs =>
              obtain ⟨fn1, ds1, md1, dd1, rnd1⟩ := f
              cases hfc with
              | mk hfi1 hb1 =>
                cases hfi1 with
                | mk k1 k2 k3 k4 k5 k6 k7 =>
                  obtain ⟨ch', e1, e2⟩ := g3
                  obtain ⟨fu, hfu⟩ := g7
                  have hPf : P.funcs[fr.fn]? = some fu := by rw [g1]; exact hE.fs _ _ hfu
                  obtain ⟨X, x1, x2⟩ := hb1.res
                  have hk' : Kept1 μ h ([] ++ Fs1) := ⟨(by have := hk.1; simp only [List.nil_append] at this ⊢; exact (List.nodup_append.1 this).2.1), fun f hf => hk.2 f (by simp only [List.nil_append] at hf ⊢; exact List.mem_append_right _ hf)⟩
                  refine ⟨_, .one (u_raise e1 hd hPf), ?_⟩
                  have ht : (fc.raise ch').tmps = fc.tmps := by unfold Frame.raise; split <;> rfl
                  have main : ∀ md2, MdR μ md2 (fc.raise ch').mode → (match md2 with | .run => False | _ => True) → Sim E P C (.mk t td (.mk fn1 ds1 md2 dd1 rnd1) rest h nx) (lone (fc.raise ch') (frs ++ C.cs0) w) := by
                    intro md2 h1 h2
                    refine Sim.mk hr hg he (.mk (.mk ?_ ?_ h1 ?_ ?_ (by rw [ht]; exact k6) k7) (.out h2 (by rw [ht]; exact x1) x2)) hs hk'
                    · unfold Frame.raise; split <;> exact k1
                    · unfold Frame.raise; split <;> exact k2
                    · unfold Frame.raise; split <;> exact k4
                    · unfold Frame.raise; split <;> exact k5
                  cases md1 with
                  | run =>
                    have k3 : fc.mode = .run := k3
                    exact main (.panicking ch) ⟨ch', by unfold Frame.raise; rw [k3], e2⟩ trivial
                  | returning =>
                    have k3 : fc.mode = .returning := k3
                    exact main (.panicking ch) ⟨ch', by unfold Frame.raise; rw [k3], e2⟩ trivial
                  | panicking ch0 =>
                    obtain ⟨ch0', e3, e4⟩ := k3
                    exact main (.panicking (ch ++ ch0)) ⟨ch' ++ ch0', by unfold Frame.raise; rw [e3], e2.append e4⟩ trivial
      | cons d ds =>
        simp only [DfsR] at g2
        obtain ⟨dv, dvs, hdv, g2a, g2b⟩ := g2
        cases d with
        | collected r =>
          simp only
          split
          · rename_i xs ho
            simp only [DfR] at g2a
            obtain ⟨bk, s, n, hmr, rfl⟩ := g2a
            have hO := hr.obj r
            rw [ho] at hO
            obtain ⟨h1, h2⟩ := hO
            obtain ⟨hB, ds', hheap, l', hds, hR⟩ := h2 bk s n hmr
            subst hds
            have hrun : (Instr.takeDeferred bk).run P w = .ok l' (World.put w bk (.deferred none)) := by
              simp only [Instr.takeDeferred, getObj, setObj, Sem.run_bind, Sem.run, hheap, Result.andThen_ok, Sem.run_pure]; rfl
            have hh : HR C.W.heap.size μ (hset r (.deferred none) h) (World.put w bk (.deferred none)) := by
              refine hr.turn hmr hB rfl ⟨h1, fun b1 s1 n1 hm1 => ?_⟩
              rw [hmr] at hm1
              simp only [Option.some.injEq, Prod.mk.injEq] at hm1
              obtain ⟨rfl, rfl, rfl⟩ := hm1
              exact ⟨hB, none, put_get (hr.lt _ _ _ _ _ hmr), rfl⟩
            exact ⟨_, .one (u_collected hmd hdv hrun), Sim.mk (F := []) hh hg (he.trans (Ext.put hB)) (.mk (.mk g1 (hR.append g2b) g3 g4 g5 g6 g7) hb) hs (hk.kp (Kp.set rfl))⟩
          · trivial
        | fn f cap args =>
          simp only
          simp only [DfR] at g2a
          obtain ⟨G, cps, vs, rfl, hG, hc, ha⟩ := g2a
          have hst := u_defer (P := P) (cs := frs ++ C.cs0) (w := w) hmd hdv (fun r hh => by cases hh)
          refine invokeFn_good hE hr hG hc ha (s := invoke (.fn G cps) vs) rfl (fun g avs args' hva hrun => ?_) (fun _ _ _ _ _ _ _ _ _ _ _ _ => trivial)
          cases hcb : compBody E g with
          | none => rw [enter_none hcb]; trivial
          | some b =>
            have h1 := callFunc_run hE hcb args' w
            have hgo := callDeferred_enter (P := P) (fr := { fr with defers := dvs }) (cs := frs ++ C.cs0) (w := w) (d := { target := .fn G cps, args := vs }) (by intro hh; cases hh) (hrun.trans h1)
            rw [← hst] at hgo
            refine Good.next (next_of hgo) ?_
            exact enter_good hE (dfd := true) hva hr hg he (F := []) (.mk (.mk g1 g2b g3 g4 g5 g6 g7) hb) hs hk
        | del t m k =>
          simp only
          simp only [DfR] at g2a
          obtain ⟨ats, ty, cn, xs, v, w0, rfl, a0, a1, t0, hvm, hvk⟩ := g2a
          have hst := u_defer (P := P) (cs := frs ++ C.cs0) (w := w) hmd hdv (fun r hh => by cases hh)
          split
          · rename_i a h' nx' hev
            have hq0 : ∀ x, VR μ (getO ((fun _ : Operand => Opd.c .top) x) L) ((fun _ : Operand => undef) x) := fun x => by
              show VR μ (getO (.c .top) L) undef
              rw [getO_c]; simp only [VR]
            obtain ⟨_, w', r1, r2, r3, r4⟩ := e_del (P := P) (ty := ty) hE hr hq0 hvm hvk a0 a1 t0 hev
            have hrun : (invoke (.builtin .delete ats ty cn) xs).run P w = .ok (.value (.tuple #[])) w' := by
              show (builtin .delete ats ty cn xs).run P w = _
              have e1 : builtin .delete ats ty cn xs = (do pure (Next.value (← Builtin.delete_ ats ty xs)) : Sem Next) := rfl
              rw [e1]
              simp only [Sem.run_bind, r1, Result.andThen_ok, Sem.run_pure]
            have hgo := callDeferred_value (P := P) (fr := { fr with defers := dvs }) (cs := frs ++ C.cs0) (w := w) (d := { target := .builtin .delete ats ty cn, args := xs }) (by intro hh; cases hh) hrun
            rw [← hst] at hgo
            exact ⟨_, .one (next_of hgo), Sim.mk (F := []) r2 hg (he.trans r3) (.mk (.mk g1 g2b g3 g4 g5 g6 g7) hb) hs (hk.kp r4)⟩
          · trivial
        | bi b args => trivial
end
end
end Go.Ev

namespace Go.Ev
set_option linter.unusedVariables false
set_option linter.unusedSectionVars false
set_option linter.unusedSimpArgs false
noncomputable section
variable [Val] [Fk]
structure DrawnOk (E : Env) (P : Program) (C : Call0) : Prop where
  start : ∀ {arr : Array Oper} {t : Nat} {rest : List Ci} {fn : Nat} {ds : List Df} {dd : Bool} {rnd : Option Key} {cs : List Fr} {L : Lo} {h : Hp} {nx : Key} {μ : Mu} {fr : Frame} {frs : List Frame} {Fs : List Key} {w : World} {k : List Item},
    HR C.W.heap.size μ h w → GR E μ → Ext C.W.heap.size C.W w → FiR E μ (.mk fn ds .run dd rnd) fr → StR E μ cs frs Fs → Kept1 μ h Fs → KnR (cxOf E fn).nd μ [] L fr.tmps → TodoR E (cxOf E fn) μ [] rest k →
    fr.todo = .inRegion arr (Region.schedule true arr t) :: k →
    Good E P C (ops E (drawnIns E (cxOf E fn) arr) (.mk rest (.mk fn ds .run dd rnd) cs) L h nx) (lone fr (frs ++ C.cs0) w)
  mid : ∀ {l : List Ins} {rest : List Ci} {fn : Nat} {ds : List Df} {dd : Bool} {rnd : Option Key} {cs : List Fr} {L : Lo} {h : Hp} {nx : Key} {μ : Mu} {fr : Frame} {frs : List Frame} {F Fs : List Key} {w : World},
    HR C.W.heap.size μ h w → GR E μ → Ext C.W.heap.size C.W w → FiR E μ (.mk fn ds .run dd rnd) fr → StR E μ cs frs Fs → Kept1 μ h (F ++ Fs) → DrawnB E (cxOf E fn) μ L fr.tmps (.mid l :: rest) fr.todo F →
    Good E P C (ops E l (.mk rest (.mk fn ds .run dd rnd) cs) L h nx) (lone fr (frs ++ C.cs0) w)
section
variable {E : Env} {P : Program} (hE : EnvOk E P) {C : Call0} (hS : SumOk E P C) (hD : DrawnOk E P C)
variable {μ : Mu} {h : Hp} {w : World}
theorem FiR.to {fi : FI} {fr : Frame} (hf : FiR E μ fi fr) (k : List Item) : FiR E μ fi (Frame.to fr k) := by
  cases hf with
  | mk h1 h2 h3 h4 h5 h6 h7 => exact .mk h1 h2 h3 h4 h5 h6 h7
theorem newOb {B : Nat} (hr : HR B μ h w) {nx : Key} (hnx : (hget nx h).isNone = true) {ob : Ob} {o : Obj} (hob : ∀ ν, μ.le ν → ν nx 0 = some (w.heap.size, 0, 0) → (∀ g, 0 < g → ν nx g = none) → OR B ν (w.alloc o) nx ob) (hB : B ≤ w.heap.size) :
    HR B (μ.ins nx 0 (w.heap.size, 0, 0)) (hset nx ob h) (w.alloc o) ∧ μ.le (μ.ins nx 0 (w.heap.size, 0, 0)) ∧ Ext B w (w.alloc o) ∧ Kp h μ (hset nx ob h) (μ.ins nx 0 (w.heap.size, 0, 0)) := by
  have hno := hr.noneAt hnx
  obtain ⟨h1, h2⟩ := hr.alloc (gen := 0) (n := 0) hnx (w' := w.alloc o) rfl (hob _ (Mu.ins_le (hno 0) _) (Mu.ins_same _ _ _ _) (fun g hg => by rw [Mu.ins_other _ (.inr (by omega))]; exact hno g))
  exact ⟨h1, h2, ⟨rfl, rfl, rfl, by show w.heap.size ≤ (w.heap.push _).size; simp, fun kk hkk => by show (w.heap.push _)[kk]? = _; rw [Array.getElem?_push, if_neg (by omega)]⟩, .new hnx⟩
include hE in
theorem range_call {L : Lo} {rest : List Ci} {fn : Nat} {ds : List Df} {dd : Bool} {rnd : Option Key} {cs : List Fr} {nx : Key} {fr fr' : Frame} {frs : List Frame} {Fs : List Key} {w0 : World} {f : Opd} {fo : Operand} {l : Key} {b : Nat} {ps : Array Tmp} {a c : Code} {k : List Item}
    {mark : List Deferred} (hm : fr.mode = .run) (ht : fr.todo = .code (.rangeFunc fo ps a c) :: k) (hen : (Instr.enterLoop fr.fn fr.tmps ps a c fr.roundOf).run P w0 = .ok (b, mark) w) (hfr' : fr' = { fr with todo := .inRangeFunc b :: k, defers := mark ++ fr.defers })
    (hr : HR C.W.heap.size μ h w) (hg : GR E μ) (he : Ext C.W.heap.size C.W w) (hf : FiR E μ (.mk fn ds .run dd rnd) fr') (hkn : KnR (cxOf E fn).nd μ [] L fr.tmps) (hl : AtR μ l b) (htd : TodoR E (cxOf E fn) μ [] rest k)
    (hs : StR E μ cs frs Fs) (hk : Kept1 μ h Fs) (hqf : VR μ (getO f L) (fr.eval fo)) :
    Good E P C (asFunc (getO f L) .fail fun g first cap => invokeFn E h g cap (first ++ [.func (.yield l) [] []])
        (fun f vs => enter E f vs false (.mk L (.inRF l :: rest) (.mk fn ds .run dd rnd) :: cs) h nx)
        (fun k fn' t x y => roundCfg E k fn' t x y (.mk L (.inRF l :: rest) (.mk fn ds .run dd rnd) :: cs) h nx)) (lone fr (frs ++ C.cs0) w0) := by
  have hst := s_rangeFunc (P := P) (cs := frs ++ C.cs0) hm ht hen
  have hwait : FrR E μ L (.inRF l :: rest) (.mk fn ds .run dd rnd) fr' [] := by
    subst hfr'
    exact .mk hf (.inRFP hkn hl htd)
  cases hv : getO f L with
  | func g first cap =>
    rw [hv] at hqf
    simp only [VR] at hqf
    obtain ⟨G, fs, cps, hfe, hG, h1, h2⟩ := hqf
    have hfe' : fr'.eval fo = .func G fs cps := by subst hfr'; exact hfe
    have hy : VR μ (.func (.yield l) [] []) (.func (.yield b) #[] #[]) := by
      obtain ⟨s, n, hm⟩ := hl
      simp only [VR]; exact ⟨_, _, _, rfl, ⟨b, s, n, hm, rfl⟩, .nil, .nil⟩
    have hp : plainTop fr'.todo := by subst hfr'; intro d b r s k' hh; cases hh
    show Good E P C (invokeFn E h g cap (first ++ [.func (.yield l) [] []])
        (fun f vs => enter E f vs false (.mk L (.inRF l :: rest) (.mk fn ds .run dd rnd) :: cs) h nx)
        (fun k fn' t x y => roundCfg E k fn' t x y (.mk L (.inRF l :: rest) (.mk fn ds .run dd rnd) :: cs) h nx)) _
    refine invokeFn_good hE hr hG h2 (argv := fs ++ #[.func (.yield b) #[] #[]]) (by rw [Array.toList_append]; exact h1.append (.cons hy .nil))
      (s := (do let d ← resolve fr'.eval { callee := .value fo, args := #[.const (.func (.yield b) #[] #[])], argTypes := #[] } 0; invoke d.target d.args)) ?_ (fun f' avs args' hva hrun => ?_) (fun l' b' f' tm tmps asg body hl' hrun hn hsz hfu => ?_)
    · rw [resolve_value hfe']
      have he1 : (#[.const (.func (.yield b) #[] #[])].map fr'.eval) = #[.func (.yield b) #[] #[]] := by simp [Frame.eval]
      simp only [Sem.run_bind, Sem.run_pure, Result.andThen_ok, he1]
    · cases hcb : compBody E f' with
      | none => rw [enter_none hcb]; trivial
      | some bb =>
        have hcf := callFunc_run hE hcb args' w
        refine Good.next (next_of (by rw [hst, ← hfr']; exact apply_enter hp (hrun.trans hcf))) ?_
        exact enter_good hE (dfd := false) (F := []) hva hr hg he hwait hs (by simpa using hk)
    · refine Good.next (next_of (by rw [hst, ← hfr']; exact apply_round hrun)) ?_
      exact round_good (F := []) hl' hn hsz hfu hr hg he hwait hs (by simpa using hk)
  | _ => trivial
def rangeFK (E : Env) (fn : Nat) (ds : List Df) (dd : Bool) (rnd : Option Key) (L : Lo) (rest : List Ci) (cs : List Fr) (fv : AV) (ps : List Tmp) (a b : Code) (h : Hp) (nx : Key) : Sp :=
          match rnd with
          | some l0 => match hget l0 h with
            | .loop _ _ _ _ _ _ _ df _ => cnd (hget nx h).isNone (asFunc fv .fail fun g first cap => invokeFn E (hset nx (.loop .ready none fn L.tm ps a b df (cxOf E fn)) h) g cap (first ++ [.func (.yield nx) [] []])
        (fun f vs => enter E f vs false (.mk L (.inRF nx :: rest) (.mk fn ds .run dd rnd) :: cs) (hset nx (.loop .ready none fn L.tm ps a b df (cxOf E fn)) h) nx.next)
        (fun k fn' t x y => roundCfg E k fn' t x y (.mk L (.inRF nx :: rest) (.mk fn ds .run dd rnd) :: cs) (hset nx (.loop .ready none fn L.tm ps a b df (cxOf E fn)) h) nx.next)) .fail
            | _ => .fail
          | none => cnd (hget nx h).isNone (cnd (hget nx.next h).isNone (cnd (Key.beq nx nx.next) .fail
              (asFunc fv .fail fun g first cap => invokeFn E (hset nx.next (.loop .ready none fn L.tm ps a b nx (cxOf E fn)) (hset nx (.deferred (some [])) h)) g cap (first ++ [.func (.yield nx.next) [] []])
        (fun f vs => enter E f vs false (.mk L (.inRF nx.next :: rest) (.mk fn (.collected nx :: ds) .run dd none) :: cs) (hset nx.next (.loop .ready none fn L.tm ps a b nx (cxOf E fn)) (hset nx (.deferred (some [])) h)) nx.next.next)
        (fun k fn' t x y => roundCfg E k fn' t x y (.mk L (.inRF nx.next :: rest) (.mk fn (.collected nx :: ds) .run dd none) :: cs) (hset nx.next (.loop .ready none fn L.tm ps a b nx (cxOf E fn)) (hset nx (.deferred (some [])) h)) nx.next.next)))
                .fail) .fail
include hE hS hD in
theorem run_good {x : Ci} {rest : List Ci} {L : Lo} {fi : FI} {cs : List Fr} {nx : Key} {fr : Frame} {frs : List Frame} {F Fs : List Key}
    (hr : HR C.W.heap.size μ h w) (hg : GR E μ) (he : Ext C.W.heap.size C.W w) (hf : FrR E μ L (x :: rest) fi fr F) (hm : fr.mode = .run) (hs : StR E μ cs frs Fs) (hk : Kept1 μ h (F ++ Fs)) :
    Good E P C (x.run E rest L fi cs h nx) (lone fr (frs ++ C.cs0) w) := by
  obtain ⟨fn, ds, md, dd, rnd⟩ := fi
  cases hf with
  | mk hfi hb =>
    have hmd : md = .run := by
      cases hfi with
      | mk g1 g2 g3 g4 g5 g6 g7 =>
        cases md with
        | run => rfl
        | returning => have g3 : fr.mode = .returning := g3; rw [g3] at hm; cases hm
        | panicking ch => obtain ⟨_, g3, _⟩ := g3; rw [g3] at hm; cases hm
    subst hmd
    generalize hit : fr.todo = items at hb
    cases hb with
    | waitP h1 h2 h3 h4 h5 => trivial
    | inRFP h1 h2 h3 => trivial
    | out h0 h1 h2 => cases h0
    | drawn h1 =>
      subst hit
      cases x with
      | mid l => exact hD.mid hr hg he hfi hs hk h1
      | wait d l => trivial
      | _ => cases h1
    | @plain cl0 l0 k0 hkn htd =>
      have hk : Kept1 μ h Fs := by simpa using hk
      obtain ⟨cl', k', hcl, hhd, hsteps⟩ := htd.head (P := P) (isize items) (Nat.le_refl _)
      have hkn' : KnR (cxOf E fn).nd μ cl' L fr.tmps := by rcases hcl with h | h <;> subst h; (exact hkn); exact hkn.forget
      refine Good.of_steps (hsteps fr _ w hm hit) ?_
      have hm' : (Frame.to fr k').mode = .run := hm
      have hfi' := hfi.to k'
      have sim : ∀ {l2 : List Ci} {k2 : List Item} {L2 : Lo} {cl2 : Cl}, KnR (cxOf E fn).nd μ cl2 L2 fr.tmps → TodoR E (cxOf E fn) μ cl2 l2 k2 → Sim E P C (.mk L2 l2 (.mk fn ds .run dd rnd) cs h nx) (lone (Frame.to (Frame.to fr k') k2) (frs ++ C.cs0) w) :=
        fun h1 h2 => Sim.mk (F := []) hr hg he (.mk (hfi'.to _) (.plain h1 h2)) hs (by simpa using hk)
      have hq : ∀ o, VR μ (getO (opdW (cxOf E fn).nd (gl E) cl' o) L) ((Frame.to fr k').eval o) := by rw [eval_evT]; exact hkn'.q hg
      cases hhd with
      | @reg id ops dr l k htd' =>
        cases dr with
        | false =>
          refine Good.next (s_region hm' rfl) ?_
          have hd0 : (ops.toList.drop 0) = ops.toList := List.drop_zero
          have := ops_good hE hS (rest := rest) (fn := fn) (dd := dd) (rnd := rnd) (arr := ops) (k := k) (Fs := Fs) ops.size 0 cl' L h nx μ (Frame.to (Frame.to fr (.code (.region id ops false) :: k)) (.inRegion ops (List.range ops.size) :: k)) w ds cs frs (by omega)
            (by rw [List.range_eq_range']; rfl) (hfi'.to _) hkn' (by rw [hd0]; exact htd') hr hg he hs hk
          rw [hd0] at this
          exact this
        | true =>
          obtain ⟨t, hst⟩ := s_regionDraw (P := P) (cs := frs ++ C.cs0) (w := w) (fr := Frame.to fr (.code (.region id ops true) :: k)) hm' rfl
          refine Good.next hst ?_
          rw [hE.mixed]
          have hw : ({ w with drawn := w.drawn + 1 } : World).heap = w.heap := rfl
          exact hD.start (hr.world hw) hg (he.trans ⟨rfl, rfl, rfl, Nat.le_refl _, fun _ _ => rfl⟩) (hfi'.to _) hs hk hkn'.forget htd' rfl
      | @cond y a b l k htd' =>
        show Good E P C (asBool (getO (opdW (cxOf E fn).nd (gl E) cl' y) L) (match getO (opdW (cxOf E fn).nd (gl E) cl' y) L with
          | .ub => .br [.mk L (ciAppend (compC E (cxOf E fn) cl' b) rest) (.mk fn ds .run dd rnd) cs h nx, .mk L (ciAppend (compC E (cxOf E fn) cl' a) rest) (.mk fn ds .run dd rnd) cs h nx]
          | _ => .fail) fun t => cnd t (.go (.mk L (ciAppend (compC E (cxOf E fn) cl' a) rest) (.mk fn ds .run dd rnd) cs h nx)) (.go (.mk L (ciAppend (compC E (cxOf E fn) cl' b) rest) (.mk fn ds .run dd rnd) cs h nx))) _
        have hy := hq y
        have sa : ∀ (t : Bool), Sim E P C (.mk L (ciAppend (compC E (cxOf E fn) cl' (if t then a else b)) rest) (.mk fn ds .run dd rnd) cs h nx) (lone (Frame.to (Frame.to fr (.code (.cond y a b) :: k)) (.code (if t then a else b) :: k)) (frs ++ C.cs0) w) := fun t => by
          rw [ciAppend_eq]
          exact sim hkn' (.code (.forget htd'))
        cases hv : getO (opdW (cxOf E fn).nd (gl E) cl' y) L with
        | bool t =>
          rw [hv] at hy
          simp only [VR] at hy
          have hst := s_cond (P := P) (cs := frs ++ C.cs0) (w := w) (fr := Frame.to fr (.code (.cond y a b) :: k)) hm' rfl hy
          show Good E P C (cnd t _ _) _
          cases t with
          | true => exact ⟨_, .one hst, sa true⟩
          | false => exact ⟨_, .one hst, sa false⟩
        | ub =>
          rw [hv] at hy
          simp only [VR] at hy
          obtain ⟨t, hy⟩ := hy
          have hst := s_cond (P := P) (cs := frs ++ C.cs0) (w := w) (fr := Frame.to fr (.code (.cond y a b) :: k)) hm' rfl hy
          cases t with
          | true => exact ⟨_, List.mem_cons_of_mem _ (List.mem_singleton.2 rfl), _, .one hst, sa true⟩
          | false => exact ⟨_, List.mem_cons_self .., _, .one hst, sa false⟩
        | _ => trivial
      | @block id b l k htd' =>
        refine ⟨_, .one (s_block hm' rfl), ?_⟩
        rw [ciAppend_eq]
        exact sim hkn' (.code (.forget (.inBlock htd')))
      | @inBlock id l k htd' => exact ⟨_, .one (s_inBlock hm' rfl), sim hkn'.forget htd'⟩
      | @loop b l k htd' =>
        refine ⟨_, .one (s_loop hm' rfl), ?_⟩
        rw [ciAppend_eq]
        exact sim hkn'.forget (.code (.forget (.inLoop htd')))
      | @inLoop b l k htd' =>
        refine ⟨_, .one (s_inLoop hm' rfl), ?_⟩
        rw [ciAppend_eq]
        exact sim hkn'.forget (.code (.forget (.inLoop htd')))
      | @scope c l k htd' =>
        refine ⟨_, .one (s_scope hm' rfl), ?_⟩
        rw [ciAppend_eq]
        exact sim hkn'.forget (.code (.forget (.inScope htd')))
      | @inScope c l k htd' => exact ⟨_, .one (s_inScope hm' rfl), sim hkn'.forget htd'⟩
      | @exit id l k htd' =>
        show Good E P C (opt (exitA id rest) (leave E (some (.exit id)) rest L (.mk fn ds .run dd rnd) cs h nx) fun k => .go (.mk L k (.mk fn ds .run dd rnd) cs h nx)) _
        have hex := htd'.exit (id := id)
        cases hea : exitA id rest with
        | some l' =>
          rw [hea] at hex
          obtain ⟨k2, h1, h2⟩ := hex
          exact ⟨_, .one (s_exit hm' rfl h1), sim hkn'.forget h2⟩
        | none =>
          rw [hea] at hex
          exact leave_good (todo := .exit id :: rest) (rest := rest) (F := []) hr hg he (.mk hfi' (.plain hkn' (.code (c := .exit id) htd'))) hm' hs (by simpa using hk) (.inr (.inr (.inl ⟨id, k, rfl, rfl, hex⟩)))
      | @goto t l k htd' =>
        show Good E P C (opt (gotoA E (cxOf E fn) t rest) (leave E (some (.goto t)) rest L (.mk fn ds .run dd rnd) cs h nx) fun k => .go (.mk L k (.mk fn ds .run dd rnd) cs h nx)) _
        have hex := htd'.goto (t := t)
        cases hea : gotoA E (cxOf E fn) t rest with
        | some l' =>
          rw [hea] at hex
          obtain ⟨k2, h1, h2⟩ := hex
          exact ⟨_, .one (s_goto hm' rfl h1), sim hkn'.forget h2⟩
        | none =>
          rw [hea] at hex
          exact leave_good (todo := .goto t :: rest) (rest := rest) (F := []) hr hg he (.mk hfi' (.plain hkn' (.code (c := .goto t) htd'))) hm' hs (by simpa using hk) (.inr (.inr (.inr ⟨t, k, rfl, rfl, hex⟩)))
      | @ret l k htd' =>
        have hout : FrR E μ L (.ret :: rest) (.mk fn ds .run dd rnd) (Frame.to fr (.code .ret :: k)) [] := .mk hfi' (.plain hkn' (.code (c := .ret) htd'))
        exact leave_good (todo := .ret :: rest) (rest := rest) (F := []) hr hg he hout hm' hs (by simpa using hk) (.inr (.inl ⟨rfl, k, rfl⟩))
      | @rangeF f ps a b l k htd' =>
        have hq' := hq f
        have hun : (Ci.rangeF (opdW (cxOf E fn).nd (gl E) cl' f) ps.toList a b).run E rest L (.mk fn ds .run dd rnd) cs h nx = bif !(ps.toList.all fun t => Nat.blt t (nOf E fn) && Nat.blt t 512) then .fail else rangeFK E fn ds dd rnd L rest cs (getO (opdW (cxOf E fn).nd (gl E) cl' f) L) ps.toList a b h nx := rfl
        rw [hun]
        cases hps : ps.toList.all fun t => Nat.blt t (nOf E fn) && Nat.blt t 512 with
        | false => trivial
        | true =>
          simp only [Bool.not_true, cond_false]
          have hpst : ∀ t ∈ ps.toList, t < nOf E fn ∧ t < 512 := fun t ht => by
            have := List.all_eq_true.1 hps t ht
            simp only [Bool.and_eq_true] at this
            exact ⟨Nat.le_of_ble_eq_true this.1, Nat.le_of_ble_eq_true this.2⟩
          have hB : C.W.heap.size ≤ w.heap.size := he.size
          have hfi2 := hfi'
          cases hfi' with
          | mk g1 g2 g3 g4 g5 g6 g7 =>
            -- the new loop
            have loopOR : ∀ {ν : Mu} {w1 : World} {key dfk : Key} {dfb s' n' : Nat}, μ.le ν → ν key 0 = some (w1.heap.size, 0, 0) → (∀ g, 0 < g → ν key g = none) → ν dfk 0 = some (dfb, s', n') → C.W.heap.size ≤ w1.heap.size →
                OR C.W.heap.size ν (w1.alloc (.loop { state := .ready, pending := none, fn := fn, tmps := fr.tmps, params := ps, assign := a, body := b, defers := dfb })) key (.loop .ready none fn L.tm ps.toList a b dfk (cxOf E fn)) := by
              intro ν w1 key dfk dfb s' n' hle h1 h2 h3 h4
              refine ⟨h2, fun c s n hm => ?_⟩
              rw [h1] at hm
              simp only [Option.some.injEq, Prod.mk.injEq] at hm
              obtain ⟨rfl, rfl, rfl⟩ := hm
              exact ⟨h4, fr.tmps, dfb, s', n', heap_new, ⟨hkn'.need.mono hle, g6, hpst⟩, h3⟩
            cases rnd with
            | some l0 =>
              unfold rangeFK
              simp only
              split
              · rename_i st pend f0 t0 ps0 a0 b0 df x0 ho
                cases hnx : (hget nx h).isNone with
                | false => trivial
                | true =>
                  simp only [cnd_true]
                  obtain ⟨b0', hl0, hrd⟩ := g5
                  obtain ⟨r, e1, e2, e3, ⟨s', n', e4⟩, e5, e6, e7, e8⟩ := hr.loopOb (P := P) ho hl0
                  obtain ⟨q1, q2, q3, q4⟩ := newOb (B := C.W.heap.size) hr hnx (ob := .loop .ready none fn L.tm ps.toList a b df (cxOf E fn)) (o := .loop { state := .ready, pending := none, fn := fn, tmps := fr.tmps, params := ps, assign := a, body := b, defers := r.defers })
                    (fun ν hle h1 h2 => loopOR hle h1 h2 (hle _ _ _ e4) hB) hB
                  have hen : (Instr.enterLoop (Frame.to fr (.code (.rangeFunc f ps a b) :: k)).fn fr.tmps ps a b (Frame.to fr (.code (.rangeFunc f ps a b) :: k)).roundOf).run P w = .ok (w.heap.size, []) (w.alloc (.loop { state := .ready, pending := none, fn := fn, tmps := fr.tmps, params := ps, assign := a, body := b, defers := r.defers })) := by
                    rw [hrd, g1]
                    unfold Instr.enterLoop
                    simp only [Sem.run_bind, e5, Result.andThen_ok, Sem.run_pure, run_newObj_alloc]
                  refine range_call hE (fr' := { Frame.to fr (.code (.rangeFunc f ps a b) :: k) with todo := .inRangeFunc w.heap.size :: k, defers := [] ++ fr.defers }) hm' rfl hen rfl q1 (hg.mono q2) (he.trans q3) ?_ (hkn'.forget.mono q2) ⟨0, 0, Mu.ins_same _ _ _ _⟩ (htd'.mono q2) (hs.mono q2) (hk.kp q4) (VR.mono q2 _ _ hq')
                  exact .mk g1 (g2.mono q2) g3 g4 ⟨b0', hl0.mono q2, hrd⟩ g6 g7
              · trivial
            | none =>
              unfold rangeFK
              simp only
              cases hnx : (hget nx h).isNone with
              | false => trivial
              | true =>
                cases hnx2 : (hget nx.next h).isNone with
                | false => trivial
                | true =>
                  cases hne : Key.beq nx nx.next with
                  | true => trivial
                  | false =>
                    simp only [cnd_true, cnd_false]
                    have hne := Key.beq_ne hne
                    have g5 : fr.roundOf = none := g5
                    obtain ⟨q1, q2, q3, q4⟩ := newOb (B := C.W.heap.size) hr hnx (ob := .deferred (some [])) (o := .deferred (some [])) (fun ν hle h1 h2 => ⟨h2, fun b1 s1 n1 hm1 => by
                      rw [h1] at hm1
                      simp only [Option.some.injEq, Prod.mk.injEq] at hm1
                      obtain ⟨rfl, rfl, rfl⟩ := hm1
                      exact ⟨hB, some [], heap_new, [], rfl, by simp [DfsR]⟩⟩) hB
                    have hB2 : C.W.heap.size ≤ (w.alloc (.deferred (some []))).heap.size := by show _ ≤ (w.heap.push _).size; simp; omega
                    have hnx3 : (hget nx.next (hset nx (.deferred (some [])) h)).isNone = true := by rw [hget_hset_ne hne]; exact hnx2
                    obtain ⟨r1, r2, r3, r4⟩ := newOb (B := C.W.heap.size) q1 hnx3 (ob := .loop .ready none fn L.tm ps.toList a b nx (cxOf E fn)) (o := .loop { state := .ready, pending := none, fn := fn, tmps := fr.tmps, params := ps, assign := a, body := b, defers := w.heap.size })
                      (fun ν hle h1 h2 => loopOR (fun f g x hx => hle _ _ _ (q2 _ _ _ hx)) h1 h2 (hle _ _ _ (Mu.ins_same _ _ _ _)) hB2) hB2
                    have hle : μ.le _ := fun f g x hx => r2 _ _ _ (q2 _ _ _ hx)
                    have hen : (Instr.enterLoop (Frame.to fr (.code (.rangeFunc f ps a b) :: k)).fn fr.tmps ps a b (Frame.to fr (.code (.rangeFunc f ps a b) :: k)).roundOf).run P w = .ok ((w.alloc (.deferred (some []))).heap.size, [{ target := .collected w.heap.size, args := #[] }]) ((w.alloc (.deferred (some []))).alloc (.loop { state := .ready, pending := none, fn := fn, tmps := fr.tmps, params := ps, assign := a, body := b, defers := w.heap.size })) := by
                      have hrd : (Frame.to fr (.code (.rangeFunc f ps a b) :: k)).roundOf = none := g5
                      rw [hrd, g1]
                      unfold Instr.enterLoop
                      simp only [Sem.run_bind, Result.andThen_ok, Sem.run_pure, run_newObj_alloc]
                    refine range_call hE (fr' := { Frame.to fr (.code (.rangeFunc f ps a b) :: k) with todo := .inRangeFunc (w.alloc (.deferred (some []))).heap.size :: k, defers := [{ target := .collected w.heap.size, args := #[] }] ++ fr.defers }) hm' rfl hen rfl r1 (hg.mono hle) ((he.trans q3).trans r3) ?_ (hkn'.forget.mono hle) ⟨0, 0, Mu.ins_same _ _ _ _⟩ (htd'.mono hle) (hs.mono hle) ((hk.kp q4).kp r4) (VR.mono hle _ _ hq')
                    refine .mk g1 ?_ g3 g4 g5 g6 g7
                    show DfsR _ (.collected nx :: ds) ({ target := .collected w.heap.size, args := #[] } :: fr.defers)
                    simp only [DfsR]
                    exact ⟨_, _, rfl, ⟨w.heap.size, 0, 0, r2 _ _ _ (Mu.ins_same _ _ _ _), rfl⟩, g2.mono hle⟩
      | refuse => trivial
      | @mid arr i n l k hi htd' =>
        exact ops_good hE hS n i cl' L h nx μ (Frame.to fr (.inRegion arr (List.range' i n) :: k)) w ds cs frs hi rfl hfi' hkn' htd' hr hg he hs hk
      | @endRF l b r k hl htd' =>
        show Good E P C (match hget l h with
          | .loop .busy _ _ _ _ _ _ _ _ => .fail
          | .loop _ pend fn1 t ps a b df x => .go (.mk L (match pend with | some c => ciAppend (compC E (cxFI E (.mk fn ds .run dd rnd)) [] c) rest | none => rest) (.mk fn ds .run dd rnd) cs (hset l (.loop .exhausted pend fn1 t ps a b df x) h) nx)
          | _ => .fail) _
        split
        · trivial
        · rename_i st pend fn1 t ps a b' df x hnb ho
          obtain ⟨r, e1, e2, e3, e4, e5, e6, e7, e8⟩ := hr.loopOb (P := P) ho hl
          have hst : (r.state == LoopState.busy) = false := by
            rw [e2]
            cases st with
            | busy => exact (hnb rfl).elim
            | _ => rfl
          have hrun : (Instr.endLoop b).run P w = .ok r.pending (World.put w b (.loop { r with state := .exhausted })) := by
            unfold Instr.endLoop
            simp only [Sem.run_bind, e5, Result.andThen_ok, hst, Bool.false_eq_true, if_false, e6, Sem.run_pure]
          refine ⟨_, .one (s_endRange hm' rfl hrun), ?_⟩
          have hh := e8 .exhausted pend
          have hr' : { r with state := .exhausted, pending := pend } = { r with state := LoopState.exhausted } := by rw [← e3]
          rw [hr'] at hh
          refine Sim.mk (F := []) hh hg (he.trans (Ext.put e7)) (.mk (hfi'.to _) ?_) hs (by simpa using hk.kp (Kp.set rfl))
          rw [e3]
          cases pend with
          | none => exact .plain hkn'.forget htd'
          | some c =>
            simp only
            rw [ciAppend_eq]
            exact .plain hkn'.forget (.code (.forget htd'))
        · trivial
      | @beginRound l k htd' =>
        cases rnd with
        | none => trivial
        | some l =>
          show Good E P C (match hget l h with
            | .loop .ready pend fn1 t ps a b df x => .go (.mk L rest (.mk fn ds .run dd (some l)) cs (hset l (.loop .busy pend fn1 t ps a b df x) h) nx)
            | _ => .fail) _
          split
          · rename_i pend fn1 t ps a b' df x ho
            have hfi2 := hfi'
            cases hfi' with
            | mk g1 g2 g3 g4 g5 g6 g7 =>
              obtain ⟨b, hl, hrd⟩ := g5
              obtain ⟨r, e1, e2, e3, e4, e5, e6, e7, e8⟩ := hr.loopOb (P := P) ho hl
              have hrun : (Instr.beginRound b).run P w = .ok () (World.put w b (.loop { r with state := .busy })) := by
                unfold Instr.beginRound
                simp only [Sem.run_bind, e5, Result.andThen_ok, e6, e2, Sem.run_pure]
              refine ⟨_, .one (s_beginRound hm' hrd rfl hrun), ?_⟩
              have hh := e8 .busy pend
              have hr' : { r with state := .busy, pending := pend } = { r with state := LoopState.busy } := by rw [← e3]
              rw [hr'] at hh
              exact Sim.mk (F := []) hh hg (he.trans (Ext.put e7)) (.mk (hfi2.to _) (.plain hkn'.forget htd')) hs (by simpa using hk.kp (Kp.set rfl))
          · trivial
end
end
end Go.Ev

namespace Go.Ev
set_option linter.unusedVariables false
set_option linter.unusedSectionVars false
set_option linter.unusedSimpArgs false
noncomputable section
variable [Val] [Fk]
theorem HR.same {B : Nat} {μ : Mu} {h h' : Hp} {w : World} (k : HR B μ h w) (e : ∀ f, hget f h' = hget f h) : HR B μ h' w :=
  ⟨k.inj, k.lt, fun f => by rw [e]; exact k.obj f, k.side, k.fk, k.start⟩
theorem HR.drop {B : Nat} {μ : Mu} {h : Hp} {w : World} (k : HR B μ h w) {f : Key} (hf : ∀ g, μ f g = none) : HR B μ (hset f .none h) w :=
  ⟨k.inj, k.lt, fun f' => by
    by_cases e : f = f'
    · subst e; rw [hget_hset]; exact hf
    · rw [hget_hset_ne e]; exact k.obj f', k.side, k.fk, k.start⟩
theorem HR.add {B : Nat} {μ : Mu} {h : Hp} {w : World} (k : HR B μ h w) {f : Key} {ob : Ob} (hs : Stat ob) (hf : ∀ g, μ f g = none) : HR B μ (hset f ob h) w :=
  ⟨k.inj, k.lt, fun f' => by
    by_cases e : f = f'
    · subst e; rw [hget_hset]; exact hs.or hf
    · rw [hget_hset_ne e]; exact k.obj f', k.side, k.fk, k.start⟩
def q1 (E : Env) (x : Cx) (o : Oper) : Operand → Opd := fun y =>
  open Classical in if y ∈ o.op.operands.toList then qOf E x y else .c .top
theorem q1_op {E : Env} {x : Cx} {o : Oper} {y : Operand} (hy : y ∈ o.op.operands.toList) : q1 E x o y = qOf E x y := by
  unfold q1; rw [if_pos hy]
theorem q1_ok {E : Env} {x : Cx} {o : Oper} {μ : Mu} {L L0 : Lo} {tmps : Array Value} (ha : Agr E x o L0 L)
    (h : ∀ y ∈ o.op.operands.toList, VR μ (getO (qOf E x y) L) (evT tmps y)) : ∀ y, VR μ (getO (q1 E x o y) L0) (evT tmps y) := by
  intro y
  unfold q1
  split
  · rename_i hc; rw [ha y hc]; exact h y hc
  · rw [getO_c]; simp only [VR]
section
variable {E : Env} {P : Program} (hE : EnvOk E P) {C : Call0}
structure DAt (E : Env) (P : Program) (C : Call0) (rest : List Ci) (k : List Item) (fn : Nat) (ds : List Df) (dd : Bool) (rnd : Option Key) (cs : List Fr) (frs : List Frame) (Fs : List Key) (arr : Array Oper)
    (d : Nat) (qs : List (Nat × Oper × Nat)) (idxs : List Nat) (μ : Mu) (L : Lo) (h : Hp) (fr : Frame) (w : World) : Prop where
  sd : DrSt E (cxOf E fn) arr
  hr : HR C.W.heap.size μ h w
  gr : GR E μ
  ext : Ext C.W.heap.size C.W w
  fi : FiR E μ (.mk fn ds .run dd rnd) fr
  st : StR E μ cs frs Fs
  kept : Kept1 μ h (idxs.filterMap (pk E (cxOf E fn) arr d L) ++ Fs)
  todo : fr.todo = .inRegion arr idxs :: k
  td : TodoR E (cxOf E fn) μ [] rest k
  dr : DrI E (cxOf E fn) arr d qs idxs μ L fr.tmps
  ph : ∀ i o, i ∈ idxs → inM d i = true → arr[i]? = some o → PendH E (cxOf E fn) arr h o L
variable {rest : List Ci} {k : List Item} {fn : Nat} {ds : List Df} {dd : Bool} {rnd : Option Key} {cs : List Fr} {frs : List Frame} {Fs : List Key} {arr : Array Oper}
    {d : Nat} {qs : List (Nat × Oper × Nat)} {idxs : List Nat} {μ : Mu} {L : Lo} {h : Hp} {fr : Frame} {w : World}
theorem FiR.run {fi : FI} {fr : Frame} (hf : FiR E μ fi fr) : (∀ fn ds dd rnd, fi = .mk fn ds .run dd rnd → fr.mode = .run ∧ nOf E fn ≤ fr.tmps.size) := by
  intro fn ds dd rnd e
  subst e
  cases hf with | mk h1 h2 h3 h4 h5 h6 h7 => exact ⟨h3, h6⟩
theorem wanted_of {o : Oper} {x : Cx} {tmps : Array Value} (hg : ∀ y w, guardOf arr o = some (y, w) → VR μ (getO (qOf E x y) L) (evT tmps y)) :
    (GOn E x arr o L → Region.wanted o (yielded arr tmps) = true) ∧ (GOff E x arr o L → Region.wanted o (yielded arr tmps) = false) := by
  have hy : ∀ y w b, guardOf arr o = some (y, w) → getO (qOf E x y) L = .bool b → ∃ j, o.guard = some (j, w) ∧ yielded arr tmps j = some b := by
    intro y w b h1 h2
    have hv := hg y w h1
    obtain ⟨j, p, t, g1, g2, g3, rfl⟩ := guardOf_tmp h1
    rw [h2] at hv
    have hv : VR μ (.bool b) (tmps.getD t undef) := hv
    simp only [VR] at hv
    refine ⟨j, g1, ?_⟩
    have hin : tmps[t]? = some (.bool b) := by
      rw [Array.getD_eq_getD_getElem?] at hv
      cases hh : tmps[t]? with
      | none => rw [hh] at hv; cases hv
      | some u => rw [hh] at hv; simp only [Option.getD_some] at hv; rw [hv]
    simp [yielded, g2, g3, hin]
  constructor
  · rintro (h1 | ⟨y, w, h1, h2⟩)
    · simp [Region.wanted, h1]
    · obtain ⟨j, g1, g2⟩ := hy y w _ h1 h2
      simp [Region.wanted, g1, g2]
  · rintro ⟨y, w, h1, h2 | ⟨vs, h2⟩⟩
    · obtain ⟨j, g1, g2⟩ := hy y w _ h1 h2
      simp only [Region.wanted, g1, g2]
      cases w <;> rfl
    · have hv := hg y w h1
      obtain ⟨j, p, t, g1, g2, g3, rfl⟩ := guardOf_tmp h1
      rw [h2] at hv
      have hv : VR μ (.tuple vs) (tmps.getD t undef) := hv
      simp only [VR] at hv
      obtain ⟨us, hus, _⟩ := hv
      have hyy : yielded arr tmps j = none := by
        simp only [yielded, g2, Option.bind_some, g3]
        rw [Array.getD_eq_getD_getElem?] at hus
        cases hh : tmps[t]? with
        | none => rfl
        | some u => rw [hh] at hus; simp only [Option.getD_some] at hus; rw [hus]
      simp [Region.wanted, g1, hyy]
include hE in
theorem pend_step {i : Nat} {is : List Nat} (a : DAt E P C rest k fn ds dd rnd cs frs Fs arr d qs (i :: is) μ L h fr w) (hd : inM d i = true) :
    ∃ v w' μ', Steps P (lone fr (frs ++ C.cs0) w) (lone (fr.finish v) (frs ++ C.cs0) w') ∧ μ.le μ' ∧ DAt E P C rest k fn ds dd rnd cs frs Fs arr d qs is μ' L h (fr.finish v) w' := by
  have hlt := a.dr.lin.lt i (List.mem_cons_self ..)
  obtain ⟨o, ho⟩ : ∃ o, arr[i]? = some o := ⟨_, Array.getElem?_eq_getElem hlt⟩
  obtain ⟨hm, hsz⟩ := a.fi.run _ _ _ _ rfl
  have hq := DrI.quiet a.sd a.dr (List.mem_cons_self ..) hd ho
  obtain ⟨r1, r2⟩ := DrI.reads a.sd a.dr a.gr rfl ho
  obtain ⟨wOn, wOff⟩ := wanted_of r2
  have hkc : (i :: is).filterMap (pk E (cxOf E fn) arr d L) = (pk E (cxOf E fn) arr d L i).toList ++ is.filterMap (pk E (cxOf E fn) arr d L) := by
    rw [List.filterMap_cons]; cases pk E (cxOf E fn) arr d L i <;> rfl
  have hpk : pk E (cxOf E fn) arr d L i = match insU (qOf E (cxOf E fn)) E .no o with | .al _ _ => keyOfA (tgtV L o) | _ => none := by
    unfold pk; rw [ho]; simp only; rw [hd]; rfl
  -- a value without a turn of memory
  have plain : ∀ v, Steps P (lone fr (frs ++ C.cs0) w) (lone (fr.finish v) (frs ++ C.cs0) w) → (∀ t, o.dst = some t → VR μ (getT t L.tm) v) → pk E (cxOf E fn) arr d L i = none →
      ∃ v w' μ', Steps P (lone fr (frs ++ C.cs0) w) (lone (fr.finish v) (frs ++ C.cs0) w') ∧ μ.le μ' ∧ DAt E P C rest k fn ds dd rnd cs frs Fs arr d qs is μ' L h (fr.finish v) w' := by
    intro v hst hv hp
    refine ⟨v, w, μ, hst, Mu.le_refl _, ⟨a.sd, a.hr, a.gr, a.ext, a.fi.finish v a.todo ho, a.st, ?_, finish_todo fr v a.todo, a.td, ?_, fun j o' hj hdj ho' => a.ph j o' (List.mem_cons_of_mem _ hj) hdj ho'⟩⟩
    · have := a.kept
      rw [hkc, hp] at this
      exact this
    · rw [finish_tmps fr v a.todo ho]
      exact DrI.done a.sd a.dr hd ho hsz hv
  rcases a.dr.pl i o (List.mem_cons_self ..) hd ho with ⟨g1, g2⟩ | ⟨g1, g2⟩
  · refine plain undef (.one (s_opSkip hm a.todo ho (wOff g1))) (fun t ht => by rw [g2 t ht]; exact vr_undef) ?_
    rw [hpk]
    have : tgtV L o = undefA := by
      unfold tgtV
      cases hdst : o.dst with
      | none => rfl
      | some t => exact g2 t hdst
    rw [this]
    split <;> rfl
  · have hw := wOn g1
    have hnoff : ¬ GOff E (cxOf E fn) arr o L := fun hoff => by rw [wOff hoff] at hw; cases hw
    have hph := a.ph i o (List.mem_cons_self ..) hd ho
    have hph := hph.resolve_left hnoff
    have hnd : kindOf E o.op ≤ 1 := Nat.le_of_ble_eq_true hq
    have notD : ∀ c, o.op ≠ .defer c := fun c hh => by rw [hh] at hnd; exact absurd hnd (by show ¬ (3 ≤ 1); omega)
    split at g2
    · rename_i dd0 p hins
      rw [hins] at hph hpk
      simp only at hph
      obtain ⟨_, hpp⟩ := insU_pu hins
      have hev : ∃ L0, Agr E (cxOf E fn) o L0 L ∧ ∃ v0, p.ev E h L0 = some v0 ∧ ∀ t, o.dst = some t → v0 = getT t L.tm := by
        cases hmp : memP p with
        | true => exact hph hmp
        | false =>
          rcases g2 with g2 | ⟨L0, g2, g3⟩
          · rw [hmp] at g2; cases g2
          · exact ⟨L0, g2, g3 h⟩
      obtain ⟨L0, hag, v0, hev, hsl⟩ := hev
      have hqq : ∀ y, VR μ (getO (q1 E (cxOf E fn) o y) L0) (fr.eval y) := by rw [eval_evT]; exact q1_ok hag r1
      rw [hpp, pureI_congr (q' := q1 E (cxOf E fn) o) (fun y hy => (q1_op hy).symm)] at hev
      obtain ⟨dst0, op, ty, pos, af, gd⟩ := o
      obtain ⟨v, hrun, hv⟩ := pure_sound (d := dst0) (ty := ty) (pos := pos) (af := af) (gd := gd) hE a.hr a.gr hqq hev
      exact plain v (exec_step hm a.todo ho hw notD hrun rfl _) (fun t ht => by rw [← hsl t ht]; exact hv) hpk
    · rename_i dd0 p hins
      rw [hins] at hph hpk
      simp only at hph hpk
      obtain ⟨_, hpp⟩ := insU_al hins
      obtain ⟨L0, f, hag, hkey, hnn, hev⟩ := hph
      rw [hkey] at hpk
      have hkept := a.kept
      rw [hkc, hpk] at hkept
      have hkept : Kept1 μ h (f :: (is.filterMap (pk E (cxOf E fn) arr d L) ++ Fs)) := hkept
      obtain ⟨hnod, hall⟩ := hkept
      have hf := (hall f (List.mem_cons_self ..)).2
      have hqq : ∀ y, VR μ (getO (q1 E (cxOf E fn) o y) L0) (fr.eval y) := by rw [eval_evT]; exact q1_ok hag r1
      rw [hpp, allocI_congr (q' := q1 E (cxOf E fn) o) (fun y hy => (q1_op hy).symm)] at hev
      have hr0 := a.hr.drop hf
      have hn0 : (hget f (hset f .none h)).isNone = true := by rw [hget_hset]; rfl
      have hev0 : (allocI (q1 E (cxOf E fn) o) E o.op).ev (hset f .none h) f L0 = some (hget f h, tgtV L o) := by
        rw [ai_heap (h := h), hev]
        intro x f' hx hm'
        obtain ⟨y, hy, rfl⟩ := allocI_rangeM hx
        refine hget_hset_ne (fun e => ?_) _ _
        subst e
        have := hqq y
        rw [hm'] at this
        simp only [VR] at this
        obtain ⟨b, s, n, h1, _⟩ := this
        rw [hf] at h1; cases h1
      obtain ⟨dst0, op, ty, pos, af, gd⟩ := o
      obtain ⟨v, w', ν, hrun, hv, hle, hh, he, hkp⟩ := alloc_sound (d := dst0) (ty := ty) (pos := pos) (af := af) (gd := gd) hE hr0 hn0 a.ext.size hqq hev0
      have hh' : HR C.W.heap.size ν h w' := hh.same fun f' => by
        by_cases e : f = f'
        · subst e; rw [hget_hset]
        · rw [hget_hset_ne e, hget_hset_ne e]
      refine ⟨v, w', ν, exec_step hm a.todo ho hw notD hrun rfl _, hle, ⟨a.sd, hh', a.gr.mono hle, a.ext.trans he, (a.fi.mono hle).finish v a.todo ho, a.st.mono hle, ?_, finish_todo fr v a.todo, a.td.mono hle, ?_,
        fun j o' hj hdj ho' => a.ph j o' (List.mem_cons_of_mem _ hj) hdj ho'⟩⟩
      · refine ⟨(List.nodup_cons.1 hnod).2, fun f' hf' => ?_⟩
        obtain ⟨k1, k2⟩ := hall f' (List.mem_cons_of_mem _ hf')
        refine ⟨k1, (hkp f' ?_).2 k2⟩
        have e : f ≠ f' := fun e => by subst e; exact (List.nodup_cons.1 hnod).1 hf'
        rw [hget_hset_ne e]; exact k1
      · rw [finish_tmps fr v a.todo ho]
        refine DrI.done a.sd (a.dr.mono hle) hd ho hsz (fun t ht => ?_)
        have : tgtV L ⟨dst0, op, ty, pos, af, gd⟩ = getT t L.tm := by unfold tgtV; rw [ht]
        rw [← this]; exact hv
    · exact g2.elim
include hE in
theorem pend_run : ∀ {idxs : List Nat} {μ : Mu} {fr : Frame} {w : World}, DAt E P C rest k fn ds dd rnd cs frs Fs arr d qs idxs μ L h fr w →
    ∃ idxs' μ' fr' w', Steps P (lone fr (frs ++ C.cs0) w) (lone fr' (frs ++ C.cs0) w') ∧ μ.le μ' ∧ DAt E P C rest k fn ds dd rnd cs frs Fs arr d qs idxs' μ' L h fr' w' ∧ (idxs' = [] ∨ ∃ j is, idxs' = j :: is ∧ inM d j = false)
  | [], μ, fr, w, a => ⟨[], μ, fr, w, .refl _ _, Mu.le_refl _, a, .inl rfl⟩
  | i :: is, μ, fr, w, a => by
    cases hd : inM d i with
    | false => exact ⟨i :: is, μ, fr, w, .refl _ _, Mu.le_refl _, a, .inr ⟨i, is, rfl, hd⟩⟩
    | true =>
      obtain ⟨v, w', μ', h1, h2, h3⟩ := pend_step hE a hd
      obtain ⟨idxs', μ2, fr2, w2, k1, k2, k3, k4⟩ := pend_run h3
      exact ⟨idxs', μ2, fr2, w2, h1.trans k1, fun f g x hx => k2 _ _ _ (h2 _ _ _ hx), k3, k4⟩
end
end
end Go.Ev

namespace Go.Ev
set_option linter.unusedVariables false
set_option linter.unusedSectionVars false
set_option linter.unusedSimpArgs false
noncomputable section
variable [Val] [Fk]
theorem fm_insert {f g : Nat → Option Key} {i : Nat} {n : Key} {Fs : List Key} : ∀ {l : List Nat}, l.Nodup → i ∈ l → f i = none → g i = some n → (∀ j ∈ l, j ≠ i → g j = f j) →
    (l.filterMap f ++ Fs).Nodup → n ∉ l.filterMap f ++ Fs → (l.filterMap g ++ Fs).Nodup ∧ ∀ y, y ∈ l.filterMap g ++ Fs → y = n ∨ y ∈ l.filterMap f ++ Fs
  | [], _, hi, _, _, _, _, _ => by cases hi
  | j :: l, hnd, hi, hf, hg, hs, hN, hn => by
    have hnd' := List.nodup_cons.1 hnd
    by_cases e : j = i
    · subst e
      have he : l.filterMap g = l.filterMap f := fm_congr fun a ha => hs a (List.mem_cons_of_mem _ ha) (fun e => by subst e; exact hnd'.1 ha)
      rw [List.filterMap_cons_none hf] at hN hn ⊢
      rw [List.filterMap_cons_some hg, he]
      refine ⟨List.nodup_cons.2 ⟨hn, hN⟩, fun y hy => ?_⟩
      rw [List.cons_append] at hy
      rcases List.mem_cons.1 hy with h | h
      · exact .inl h
      · exact .inr h
    · have hi' : i ∈ l := by rcases List.mem_cons.1 hi with h | h; exact absurd h.symm e; exact h
      have hgj := hs j (List.mem_cons_self ..) e
      cases hfj : f j with
      | none =>
        rw [hfj] at hgj
        rw [List.filterMap_cons_none hfj] at hN hn ⊢
        rw [List.filterMap_cons_none hgj]
        exact fm_insert hnd'.2 hi' hf hg (fun a ha hne => hs a (List.mem_cons_of_mem _ ha) hne) hN hn
      | some y0 =>
        rw [hfj] at hgj
        rw [List.filterMap_cons_some hfj] at hN hn ⊢
        rw [List.filterMap_cons_some hgj]
        simp only [List.cons_append] at hN hn ⊢
        have hN' := List.nodup_cons.1 hN
        obtain ⟨k1, k2⟩ := fm_insert hnd'.2 hi' hf hg (fun a ha hne => hs a (List.mem_cons_of_mem _ ha) hne) hN'.2 (fun h => hn (List.mem_cons_of_mem _ h))
        refine ⟨List.nodup_cons.2 ⟨fun h => ?_, k1⟩, fun y hy => ?_⟩
        · rcases k2 _ h with e2 | e2
          · subst e2; exact hn (List.mem_cons_self ..)
          · exact hN'.1 e2
        · rcases List.mem_cons.1 hy with e2 | e2
          · exact .inr (by subst e2; exact List.mem_cons_self ..)
          · rcases k2 y e2 with e3 | e3
            · exact .inl e3
            · exact .inr (List.mem_cons_of_mem _ e3)
section
variable {E : Env} {P : Program} {C : Call0}
variable {rest : List Ci} {k : List Item} {fn : Nat} {ds : List Df} {dd : Bool} {rnd : Option Key} {cs : List Fr} {frs : List Frame} {Fs : List Key} {arr : Array Oper}
    {d : Nat} {qs : List (Nat × Oper × Nat)} {idxs : List Nat} {μ : Mu} {L : Lo} {h : Hp} {fr : Frame} {w : World}
theorem quiet_step {i m : Nat} {o : Oper} {l : List Ins} {nx : Key} {M : Machine} {K : Kx} (a : DAt E P C rest k fn ds dd rnd cs frs Fs arr d qs idxs μ L h fr w) (he : (i, o, m) ∈ marked arr) (hd : inM d i = false) (hq : isQ E o = true) (hm : subM m d = true)
    (go : ∀ L' h' nx', DAt E P C rest k fn ds dd rnd cs frs Fs arr (Nat.lor d (Nat.pow 2 i)) (qs ++ [(i, o, m)]) idxs μ L' h' fr w → Good E P C (ops E l K L' h' nx') M) :
    Good E P C (ops E (insOf (qOf E (cxOf E fn)) E arr (dst o.dst) o :: l) K L h nx) M := by
  obtain ⟨ho, rfl⟩ := mem_marked.1 he
  have hlt : i < arr.size := (Array.getElem?_eq_some_iff.1 ho).1
  have hi : i ∈ idxs := by
    by_cases hh : i ∈ idxs
    · exact hh
    · rw [a.dr.cd i hlt hh] at hd; cases hd
  have hok := (a.sd.ok ho).1
  have so := fun v => (same_self (v := v) (L := L) a.sd ho hq).1
  have sg := fun v => (same_self (v := v) (L := L) a.sd ho hq).2
  have hsame : ∀ v j o', j ∈ idxs → j ≠ i → inM d j = true → arr[j]? = some o' → SameFor E (cxOf E fn) arr o' L (Go.Ev.put (dst o.dst) v L) := by
    intro v j o' hj hne hdj ho'
    refine same_put a.sd ho ho' (fun e => hne e.symm) ?_ (fun h => by rw [hq] at h; cases h)
    cases hh : inM (pre arr j) i with
    | false => rfl
    | true => rw [a.dr.dcl j i (a.dr.lin.lt j hj) hdj hh] at hd; cases hd
  have hdj : ∀ j, inM (Nat.lor d (Nat.pow 2 i)) j = true → j ≠ i → inM d j = true := by
    intro j hj hne
    rw [inM_lor] at hj
    simp only [Bool.or_eq_true, decide_eq_true_eq] at hj
    rcases hj with h | h
    · exact h
    · exact absurd h.symm hne
  have hii : inM (Nat.lor d (Nat.pow 2 i)) i = true := by rw [inM_lor]; simp
  -- all that is to be shown
  have fin : ∀ (v : AV) (h' : Hp) (nx' : Key), (∀ t, t < 512 → t ∉ o.dst.toList → True) → HR C.W.heap.size μ h' w → Kept1 μ h' (idxs.filterMap (pk E (cxOf E fn) arr (Nat.lor d (Nat.pow 2 i)) (Go.Ev.put (dst o.dst) v L)) ++ Fs) → Grow h h' →
      PendL E (cxOf E fn) arr o (Go.Ev.put (dst o.dst) v L) → PendH E (cxOf E fn) arr h' o (Go.Ev.put (dst o.dst) v L) → Good E P C (ops E l K (Go.Ev.put (dst o.dst) v L) h' nx') M := by
    intro v h' nx' _ hr hk hg hpl hph
    refine go _ _ _ ⟨a.sd, hr, a.gr, a.ext, a.fi, a.st, hk, a.todo, a.td, ⟨a.dr.lin, fun j hj hn => ?_, fun j p hj hdj' hp => ?_, fun j hj hdj' => ?_, fun e he' => ?_, fun t ht hX => ?_, fun j o' hj hdj' ho' => ?_⟩, fun j o' hj hdj' ho' => ?_⟩
    · rw [inM_lor, a.dr.cd j hj hn]; rfl
    · rw [inM_lor]
      by_cases e : j = i
      · subst e; rw [subM_inM hm hp]; rfl
      · rw [a.dr.dcl j p hj (hdj j hdj' e) hp]; rfl
    · by_cases e : j = i
      · subst e; exact ⟨o, _, List.mem_append_right _ (List.mem_singleton.2 rfl)⟩
      · obtain ⟨o', m', hm'⟩ := a.dr.hqs j hj (hdj j hdj' e)
        exact ⟨o', m', List.mem_append_left _ hm'⟩
    · rcases List.mem_append.1 he' with h1 | h1
      · exact a.dr.qsm e h1
      · rw [List.mem_singleton] at h1; subst h1; exact ⟨he, hq⟩
    · have hne : o.dst ≠ some t := fun e => hX ⟨i, hi, hii, o, ho, e⟩
      rw [put_ne hok (inNd_lt ht) hne]
      refine a.dr.need t ht ?_
      rintro ⟨j, hj, hdj', o', ho', hdst⟩
      exact hX ⟨j, hj, by rw [inM_lor, hdj']; rfl, o', ho', hdst⟩
    · by_cases e : j = i
      · subst e; rw [ho] at ho'; cases ho'; exact hpl
      · exact (hsame v j o' hj e (hdj j hdj' e) ho').pendL (a.dr.pl j o' hj (hdj j hdj' e) ho')
    · by_cases e : j = i
      · subst e; rw [ho] at ho'; cases ho'; exact hph
      · exact (hsame v j o' hj e (hdj j hdj' e) ho').pendH ((a.ph j o' hj (hdj j hdj' e) ho').grow hg)
  have htg : ∀ v, tgtV (Go.Ev.put (dst o.dst) v L) o = match o.dst with | some _ => v | none => undefA := by
    intro v
    unfold tgtV
    cases hdst : o.dst with
    | none => rfl
    | some t => exact put_same
  have hpkj : ∀ v j, j ∈ idxs → j ≠ i → pk E (cxOf E fn) arr (Nat.lor d (Nat.pow 2 i)) (Go.Ev.put (dst o.dst) v L) j = pk E (cxOf E fn) arr d L j := by
    intro v j hj hne
    unfold pk
    rw [inM_lor, show decide (i = j) = false from by simp [Ne.symm hne], Bool.or_false]
    cases ho' : arr[j]? with
    | none => rfl
    | some o' =>
      simp only
      cases hdj' : inM d j with
      | false => rfl
      | true => rw [(hsame v j o' hj hne hdj' ho').tgt]
  have hpki : ∀ v, pk E (cxOf E fn) arr (Nat.lor d (Nat.pow 2 i)) (Go.Ev.put (dst o.dst) v L) i = match insU (qOf E (cxOf E fn)) E .no o with | .al _ _ => keyOfA (match o.dst with | some _ => v | none => undefA) | _ => none := by
    intro v
    unfold pk
    rw [ho]
    simp only
    rw [hii, htg]; rfl
  have hpk0 : pk E (cxOf E fn) arr d L i = none := pk_self a.sd (k := 0) hd
  have keptSame : ∀ v h', (match insU (qOf E (cxOf E fn)) E .no o with | .al _ _ => keyOfA (match o.dst with | some _ => v | none => undefA) | _ => none) = none → Kept1 μ h' (idxs.filterMap (pk E (cxOf E fn) arr d L) ++ Fs) →
      Kept1 μ h' (idxs.filterMap (pk E (cxOf E fn) arr (Nat.lor d (Nat.pow 2 i)) (Go.Ev.put (dst o.dst) v L)) ++ Fs) := by
    intro v h' hnone hk
    rw [fm_congr (g := pk E (cxOf E fn) arr d L) fun j hj => ?_]
    · exact hk
    · by_cases e : j = i
      · subst e; rw [hpki, hnone, hpk0]
      · exact hpkj v j hj e
  -- skipped
  have skip : ∀ nx', GOff E (cxOf E fn) arr o L → Good E P C (ops E l K (Go.Ev.put (dst o.dst) undefA L) h nx') M := by
    intro nx' hoff
    have hoff' : GOff E (cxOf E fn) arr o (Go.Ev.put (dst o.dst) undefA L) := by
      obtain ⟨y, w0, h1, h2⟩ := hoff
      exact ⟨y, w0, h1, by rw [sg undefA y w0 h1]; exact h2⟩
    refine fin undefA h nx' (fun _ _ _ => trivial) a.hr (keptSame _ _ ?_ a.kept) (fun f _ => rfl) (.inl ⟨hoff', fun t ht => ?_⟩) (.inl hoff')
    · split
      · cases o.dst <;> rfl
      · rfl
    · rw [ht]; exact put_same
  have main : GOn E (cxOf E fn) arr o L → Good E P C ((insU (qOf E (cxOf E fn)) E (dst o.dst) o).run E l (ops E l) K L h nx) M := by
    intro hon
    have hon' : ∀ v, GOn E (cxOf E fn) arr o (Go.Ev.put (dst o.dst) v L) := by
      intro v
      rcases hon with hon | ⟨y, w0, h1, h2⟩
      · exact .inl hon
      · exact .inr ⟨y, w0, h1, (sg v y w0 h1).trans h2⟩
    have hag : ∀ v, Agr E (cxOf E fn) o L (Go.Ev.put (dst o.dst) v L) := fun v y hy => (so v y hy).symm
    have hsl : ∀ v t, o.dst = some t → v = getT t (Go.Ev.put (dst o.dst) v L).tm := fun v t ht => by rw [ht]; exact put_same.symm
    have hkq : kindOf E o.op ≤ 1 := Nat.le_of_ble_eq_true hq
    have hk01 : kindOf E o.op = 0 ∨ kindOf E o.op = 1 := by omega
    rcases hk01 with hk | hk
    · have e1 : ∀ dd, insU (qOf E (cxOf E fn)) E dd o = .pu dd (pureI (qOf E (cxOf E fn)) E o.op) := fun dd => by unfold insU; simp only [hk]
      rw [e1]
      show Good E P C (opt ((pureI (qOf E (cxOf E fn)) E o.op).ev E h L) .fail fun v => ops E l K (Go.Ev.put (dst o.dst) v L) h nx) M
      cases hev : (pureI (qOf E (cxOf E fn)) E o.op).ev E h L with
      | none => trivial
      | some v =>
        simp only [opt_some]
        refine fin v h nx (fun _ _ _ => trivial) a.hr (keptSame _ _ (by rw [e1]) a.kept) (fun f _ => rfl) (.inr ⟨hon' v, ?_⟩) (.inr ?_)
        · rw [e1]
          simp only
          cases hmp : memP (pureI (qOf E (cxOf E fn)) E o.op) with
          | true => exact .inl rfl
          | false => exact .inr ⟨L, hag v, fun h0 => ⟨v, by rw [mem_free hmp h0 h]; exact hev, hsl v⟩⟩
        · rw [e1]
          exact fun _ => ⟨L, hag v, v, hev, hsl v⟩
    · have e1 : ∀ dd, insU (qOf E (cxOf E fn)) E dd o = .al dd (allocI (qOf E (cxOf E fn)) E o.op) := fun dd => by unfold insU; simp only [hk]
      rw [e1]
      show Good E P C (opt ((allocI (qOf E (cxOf E fn)) E o.op).ev h nx L) .fail fun r => Prod.rec (motive := fun _ => Sp) (fun o' v => cnd (hget nx h).isNone (ops E l K (Go.Ev.put (dst o.dst) v L) (hset nx o' h) nx.next) .fail) r) M
      cases hev : (allocI (qOf E (cxOf E fn)) E o.op).ev h nx L with
      | none => trivial
      | some r =>
        obtain ⟨ob, v⟩ := r
        simp only [opt_some]
        cases hnx : (hget nx h).isNone with
        | false => trivial
        | true =>
          simp only [cnd_true]
          obtain ⟨hst, hnn, hkey⟩ := alloc_stat hev
          have hno := a.hr.noneAt hnx
          have hdst : ∃ t, o.dst = some t := by
            have := (a.sd.ok ho).2.2
            unfold dstOk at this
            rw [e1] at this
            cases hdst : o.dst with
            | none => rw [hdst] at this; cases this
            | some t => exact ⟨t, rfl⟩
          obtain ⟨t, hdst⟩ := hdst
          refine fin v (hset nx ob h) nx.next (fun _ _ _ => trivial) (a.hr.add hst hno) ?_ (Grow.new hnx) (.inr ⟨hon' v, by rw [e1]; trivial⟩) (.inr ?_)
          · have hgi : pk E (cxOf E fn) arr (Nat.lor d (Nat.pow 2 i)) (Go.Ev.put (dst o.dst) v L) i = some nx := by
              rw [hpki, e1]
              simp only
              rw [hdst]; exact hkey
            obtain ⟨k1, k2⟩ := fm_insert (n := nx) a.dr.lin.nodup hi hpk0 hgi (hpkj v) a.kept.1 (fun hmem => by have := (a.kept.2 nx hmem).1; rw [hnx] at this; cases this)
            refine ⟨k1, fun f hf => ?_⟩
            rcases k2 f hf with rfl | hf
            · exact ⟨by rw [hget_hset]; exact hnn, hno⟩
            · obtain ⟨k3, k4⟩ := a.kept.2 f hf
              exact ⟨by rw [hget_hset_ne (fun e => by subst e; rw [hnx] at k3; cases k3)]; exact k3, k4⟩
          · rw [e1]
            refine ⟨L, nx, hag v, ?_, by rw [hget_hset]; exact hnn, ?_⟩
            · rw [htg, hdst]; exact hkey
            · rw [hget_hset, htg, hdst]
              exact ai_grow (Grow.new hnx) hev
  -- the guard
  show Good E P C ((insOf (qOf E (cxOf E fn)) E arr (dst o.dst) o).run E l (ops E l) K L h nx) M
  unfold insOf insG
  cases hg : o.guard with
  | none => exact main (.inl hg)
  | some p =>
    obtain ⟨j, want⟩ := p
    simp only
    cases hj : arr[j]? with
    | none => trivial
    | some p =>
      simp only
      cases hdp : p.dst with
      | none => trivial
      | some t =>
        simp only
        have hgo : guardOf arr o = some (.tmp t, want) := by unfold guardOf; rw [hg]; simp only; rw [hj]; simp only; rw [hdp]
        show Good E P C (asBool (getO (qOf E (cxOf E fn) (.tmp t)) L) (asTuple (getO (qOf E (cxOf E fn) (.tmp t)) L) .fail fun _ => ops E l K (Go.Ev.put (dst o.dst) undefA L) h nx)
          fun b => cnd (cnd b want (bnot want)) ((insU (qOf E (cxOf E fn)) E (dst o.dst) o).run E l (ops E l) K L h nx) (ops E l K (Go.Ev.put (dst o.dst) undefA L) h nx)) M
        cases hv : getO (qOf E (cxOf E fn) (.tmp t)) L with
        | bool b =>
          show Good E P C (cnd (cnd b want (bnot want)) _ _) M
          have e1 : cnd b want (bnot want) = (b == want) := by cases b <;> cases want <;> rfl
          rw [e1]
          cases hbw : b == want with
          | true =>
            have : b = want := by cases b <;> cases want <;> first | rfl | cases hbw
            subst this
            exact main (.inr ⟨_, _, hgo, hv⟩)
          | false =>
            have : b = !want := by cases b <;> cases want <;> first | rfl | cases hbw
            subst this
            exact skip nx ⟨_, _, hgo, .inl hv⟩
        | tuple vs => exact skip nx ⟨_, _, hgo, .inr ⟨vs, hv⟩⟩
        | _ => trivial
end
end
end Go.Ev

namespace Go.Ev
set_option linter.unusedVariables false
set_option linter.unusedSectionVars false
set_option linter.unusedSimpArgs false
noncomputable section
variable [Val] [Fk]
theorem marked_inj {arr : Array Oper} {e e' : Nat × Oper × Nat} (h : e ∈ marked arr) (h' : e' ∈ marked arr) (he : e.1 = e'.1) : e = e' := by
  obtain ⟨i, o, m⟩ := e
  obtain ⟨i', o', m'⟩ := e'
  obtain ⟨h1, rfl⟩ := mem_marked.1 h
  obtain ⟨h2, rfl⟩ := mem_marked.1 h'
  simp only at he
  subst he
  rw [h1] at h2; cases h2; rfl
theorem marked_nodup (arr : Array Oper) : (marked arr).Nodup := by
  have h : ((marked arr).map (·.1)).Nodup := by
    unfold marked
    rw [List.map_fst_zip]
    · exact List.nodup_range
    · simp [before_size]
  exact (List.pairwise_map.1 h).imp fun hne e => hne (by rw [e])
theorem takeQ_spec {E : Env} {arr : Array Oper} : ∀ {td : List (Nat × Oper × Nat)} {d : Nat} {a r : List (Nat × Oper × Nat)} {d1 : Nat}, takeQ E d td = (a, r, d1) → td.Nodup → (∀ e ∈ td, e ∈ marked arr ∧ inM d e.1 = false) →
    r.Nodup ∧ (∀ e ∈ r, e ∈ td) ∧ (∀ e ∈ td, e ∈ r ∨ inM d1 e.1 = true) ∧ (∀ e ∈ r, inM d1 e.1 = false) ∧ (∀ p, inM d p = true → inM d1 p = true) ∧ (∀ p, inM d1 p = true → inM d p = true ∨ ∃ e ∈ td, e.1 = p)
  | [], d, a, r, d1, h, _, _ => by
    cases h
    exact ⟨List.nodup_nil, (fun e he => by cases he), (fun e he => by cases he), (fun e he => by cases he), fun p hp => hp, fun p hp => .inl hp⟩
  | (i, o, m) :: l, d, a, r, d1, h, hnd, hm => by
    have hnd' := List.nodup_cons.1 hnd
    have hi := hm _ (List.mem_cons_self ..)
    unfold takeQ at h
    cases hb : isQ E o && subM m d with
    | true =>
      rw [hb] at h
      simp only [cond_true] at h
      generalize hg : takeQ E (Nat.lor d (Nat.pow 2 i)) l = g at h
      obtain ⟨a', b, d'⟩ := g
      simp only [Prod.mk.injEq] at h
      obtain ⟨rfl, rfl, rfl⟩ := h
      obtain ⟨k1, k2, k3, k4, k5, k6⟩ := takeQ_spec hg hnd'.2 (fun e he => by
        have he' := hm e (List.mem_cons_of_mem _ he)
        refine ⟨he'.1, ?_⟩
        rw [inM_lor, he'.2]
        have hne : i ≠ e.1 := fun hh => hnd'.1 (by rw [marked_inj hi.1 he'.1 hh]; exact he)
        simp [hne])
      have hdi : ∀ p, inM (Nat.lor d (Nat.pow 2 i)) p = true ↔ inM d p = true ∨ i = p := fun p => by rw [inM_lor]; simp
      refine ⟨k1, fun e he => List.mem_cons_of_mem _ (k2 e he), fun e he => ?_, k4, fun p hp => k5 p ((hdi p).2 (.inl hp)), fun p hp => ?_⟩
      · rcases List.mem_cons.1 he with rfl | he
        · exact .inr (k5 _ ((hdi _).2 (.inr rfl)))
        · exact k3 e he
      · rcases k6 p hp with hp | ⟨e, he, hp⟩
        · rcases (hdi p).1 hp with hp | hp
          · exact .inl hp
          · exact .inr ⟨_, List.mem_cons_self .., hp⟩
        · exact .inr ⟨e, List.mem_cons_of_mem _ he, hp⟩
    | false =>
      rw [hb] at h
      simp only [cond_false] at h
      generalize hg : takeQ E d l = g at h
      obtain ⟨a', b, d'⟩ := g
      simp only [Prod.mk.injEq] at h
      obtain ⟨rfl, rfl, rfl⟩ := h
      obtain ⟨k1, k2, k3, k4, k5, k6⟩ := takeQ_spec hg hnd'.2 (fun e he => hm e (List.mem_cons_of_mem _ he))
      refine ⟨List.nodup_cons.2 ⟨fun hh => hnd'.1 (k2 _ hh), k1⟩, fun e he => ?_, fun e he => ?_, fun e he => ?_, k5, fun p hp => ?_⟩
      · rcases List.mem_cons.1 he with rfl | he
        · exact List.mem_cons_self ..
        · exact List.mem_cons_of_mem _ (k2 e he)
      · rcases List.mem_cons.1 he with rfl | he
        · exact .inl (List.mem_cons_self ..)
        · exact (k3 e he).imp (List.mem_cons_of_mem _) id
      · rcases List.mem_cons.1 he with rfl | he
        · cases hd : inM d' i with
          | false => rfl
          | true =>
            rcases k6 i hd with hp | ⟨e, he, hp⟩
            · rw [hi.2] at hp; cases hp
            · have := marked_inj (hm e (List.mem_cons_of_mem _ he)).1 hi.1 hp
              subst this
              exact absurd he hnd'.1
        · exact k4 e he
      · rcases k6 p hp with hp | ⟨e, he, hp⟩
        · exact .inl hp
        · exact .inr ⟨e, List.mem_cons_of_mem _ he, hp⟩
theorem Left.quiet {E : Env} {arr : Array Oper} {td a r : List (Nat × Oper × Nat)} {d d1 : Nat} (k : Left arr d td) (h : takeQ E d td = (a, r, d1)) : Left arr d1 r := by
  obtain ⟨k1, k2, k3, k4, k5, k6⟩ := takeQ_spec h k.1 (fun e he => (k.2 e).1 he)
  refine ⟨k1, fun e => ⟨fun he => ⟨((k.2 e).1 (k2 e he)).1, k4 e he⟩, fun he => ?_⟩⟩
  have hd : inM d e.1 = false := by
    cases hd : inM d e.1 with
    | false => rfl
    | true => rw [k5 _ hd] at he; cases he.2
  rcases k3 e ((k.2 e).2 ⟨he.1, hd⟩) with h1 | h1
  · exact h1
  · rw [h1] at he; cases he.2
theorem takeE_spec {E : Env} : ∀ {td : List (Nat × Oper × Nat)} {d : Nat} {x : Nat × Oper × Nat} {r : List (Nat × Oper × Nat)}, takeE E d td = some (x, r) →
    isQ E x.2.1 = false ∧ subM x.2.2 d = true ∧ (∀ e, e ∈ td ↔ e = x ∨ e ∈ r) ∧ (td.Nodup → r.Nodup ∧ x ∉ r)
  | [], d, x, r, h => by cases h
  | (i, o, m) :: l, d, x, r, h => by
    unfold takeE at h
    cases hb : !isQ E o && subM m d with
    | true =>
      rw [hb] at h
      simp only [cond_true, Option.some.injEq, Prod.mk.injEq] at h
      obtain ⟨rfl, rfl⟩ := h
      simp only [Bool.and_eq_true, Bool.not_eq_true'] at hb
      exact ⟨hb.1, hb.2, fun e => List.mem_cons, fun hnd => ⟨(List.nodup_cons.1 hnd).2, (List.nodup_cons.1 hnd).1⟩⟩
    | false =>
      rw [hb] at h
      simp only [cond_false] at h
      cases ht : takeE E d l with
      | none => rw [ht] at h; cases h
      | some p =>
        obtain ⟨x', r'⟩ := p
        rw [ht] at h
        simp only [Option.some.injEq, Prod.mk.injEq] at h
        obtain ⟨rfl, rfl⟩ := h
        obtain ⟨k1, k2, k3, k4⟩ := takeE_spec ht
        refine ⟨k1, k2, fun e => ?_, fun hnd => ?_⟩
        · rw [List.mem_cons, List.mem_cons, k3 e]
          constructor
          · rintro (h | h | h)
            · exact .inr (.inl h)
            · exact .inl h
            · exact .inr (.inr h)
          · rintro (h | h | h)
            · exact .inr (.inl h)
            · exact .inl h
            · exact .inr (.inr h)
        · have hnd' := List.nodup_cons.1 hnd
          obtain ⟨j1, j2⟩ := k4 hnd'.2
          refine ⟨List.nodup_cons.2 ⟨fun hh => hnd'.1 ((k3 _).2 (.inr hh)), j1⟩, fun hh => ?_⟩
          rcases List.mem_cons.1 hh with e | hh
          · subst e; exact hnd'.1 ((k3 _).2 (.inl rfl))
          · exact j2 hh
theorem Left.eff {E : Env} {arr : Array Oper} {td r : List (Nat × Oper × Nat)} {d i m : Nat} {o : Oper} (k : Left arr d td) (h : takeE E d td = some ((i, o, m), r)) : Left arr (Nat.lor d (Nat.pow 2 i)) r := by
  obtain ⟨k1, k2, k3, k4⟩ := takeE_spec h
  obtain ⟨j1, j2⟩ := k4 k.1
  have hx := (k.2 _).1 ((k3 _).2 (.inl rfl))
  refine ⟨j1, fun e => ⟨fun he => ?_, fun he => ?_⟩⟩
  · have hm := (k.2 e).1 ((k3 e).2 (.inr he))
    refine ⟨hm.1, ?_⟩
    have hne : i ≠ e.1 := fun hh => by have := marked_inj hx.1 hm.1 hh; subst this; exact j2 he
    rw [inM_lor, hm.2]; simp [hne]
  · rw [inM_lor] at he
    simp only [Bool.or_eq_false_iff, decide_eq_false_iff_not] at he
    rcases (k3 e).1 ((k.2 e).2 ⟨he.1, he.2.1⟩) with h1 | h1
    · subst h1; exact absurd rfl he.2.2
    · exact h1
section
variable {E : Env} {P : Program} {C : Call0}
variable {rest : List Ci} {k : List Item} {fn : Nat} {ds : List Df} {dd : Bool} {rnd : Option Key} {cs : List Fr} {frs : List Frame} {Fs : List Key} {arr : Array Oper}
    {idxs : List Nat} {μ : Mu} {fr : Frame} {w : World}
theorem quiet_good {M : Machine} {K : Kx} {l : List Ins} : ∀ {td a r : List (Nat × Oper × Nat)} {d d1 : Nat} {qs : List (Nat × Oper × Nat)} {L : Lo} {h : Hp} {nx : Key}, takeQ E d td = (a, r, d1) → td.Nodup → (∀ e ∈ td, e ∈ marked arr ∧ inM d e.1 = false) →
    DAt E P C rest k fn ds dd rnd cs frs Fs arr d qs idxs μ L h fr w →
    (∀ L' h' nx', DAt E P C rest k fn ds dd rnd cs frs Fs arr d1 (qs ++ a) idxs μ L' h' fr w → Good E P C (ops E l K L' h' nx') M) →
    Good E P C (ops E ((a.map fun x => insOf (qOf E (cxOf E fn)) E arr (dst x.2.1.dst) x.2.1) ++ l) K L h nx) M
  | [], a, r, d, d1, qs, L, h, nx, ht, _, _, A, go => by
    cases ht
    exact go L h nx (by rw [List.append_nil]; exact A)
  | (i, o, m) :: td, a, r, d, d1, qs, L, h, nx, ht, hnd, hm, A, go => by
    have hnd' := List.nodup_cons.1 hnd
    have hi := hm _ (List.mem_cons_self ..)
    unfold takeQ at ht
    cases hb : isQ E o && subM m d with
    | true =>
      rw [hb] at ht
      simp only [cond_true] at ht
      generalize hg : takeQ E (Nat.lor d (Nat.pow 2 i)) td = g at ht
      obtain ⟨a', b, d'⟩ := g
      simp only [Prod.mk.injEq] at ht
      obtain ⟨rfl, rfl, rfl⟩ := ht
      simp only [Bool.and_eq_true] at hb
      rw [List.map_cons, List.cons_append]
      refine quiet_step A hi.1 hi.2 hb.1 hb.2 fun L' h' nx' A' => ?_
      refine quiet_good hg hnd'.2 (fun e he => ?_) A' fun L2 h2 nx2 A2 => go L2 h2 nx2 (by rw [List.append_assoc] at A2; exact A2)
      have he' := hm e (List.mem_cons_of_mem _ he)
      refine ⟨he'.1, ?_⟩
      rw [inM_lor, he'.2]
      have hne : i ≠ e.1 := fun hh => hnd'.1 (by rw [marked_inj hi.1 he'.1 hh]; exact he)
      simp [hne]
    | false =>
      rw [hb] at ht
      simp only [cond_false] at ht
      generalize hg : takeQ E d td = g at ht
      obtain ⟨a', b, d'⟩ := g
      simp only [Prod.mk.injEq] at ht
      obtain ⟨rfl, rfl, rfl⟩ := ht
      exact quiet_good hg hnd'.2 (fun e he => hm e (List.mem_cons_of_mem _ he)) A go
end
end
end Go.Ev

namespace Go.Ev
set_option linter.unusedVariables false
set_option linter.unusedSectionVars false
set_option linter.unusedSimpArgs false
noncomputable section
variable [Val] [Fk]
/-! ## a store, seen by itself -/
theorem store1_fn {h : Hp} {f : Key} {g o : Nat} {v : AV} {h1 : Hp} (hs : store1 h f g o v = some h1) : ∃ ob, ∀ h', hget f h' = hget f h → store1 h' f g o v = some (hset f ob h') := by
  unfold store1 at hs
  generalize hO : hget f h = O at hs
  cases O with
  | cells ro gen sz dp ext c =>
    have hs : cnd ro none (cnd (Nat.beq sz 0) none (cnd (Nat.beq g gen) (opt (c.get (Nat.div o sz)) none fun r => Row.rec (motive := fun _ => Option Hp) (fun old gw => cnd (Nat.ble gw g)
      (some (hset f (.cells ro gen sz dp ext (c.set dp (Nat.div o sz) (.mk (setNth v old (Nat.mod o sz)) g))) h)) none) r) none)) = some h1 := hs
    obtain ⟨b1, hs⟩ := cnd_inv' hs
    obtain ⟨b2, hs⟩ := cnd_inv' hs
    obtain ⟨b3, hs⟩ := cnd_inv hs
    cases hr : c.get (Nat.div o sz) with
    | none => rw [hr] at hs; cases hs
    | some r =>
      obtain ⟨old, gw⟩ := r
      rw [hr] at hs
      obtain ⟨b4, hs⟩ := cnd_inv (show cnd (Nat.ble gw g) (some (hset f (.cells ro gen sz dp ext (c.set dp (Nat.div o sz) (.mk (setNth v old (Nat.mod o sz)) g))) h)) none = some h1 from hs)
      refine ⟨.cells ro gen sz dp ext (c.set dp (Nat.div o sz) (.mk (setNth v old (Nat.mod o sz)) g)), fun h' hh' => ?_⟩
      unfold store1
      rw [hh']
      show cnd ro none (cnd (Nat.beq sz 0) none (cnd (Nat.beq g gen) (opt (c.get (Nat.div o sz)) none fun r => Row.rec (motive := fun _ => Option Hp) (fun old gw => cnd (Nat.ble gw g)
        (some (hset f (.cells ro gen sz dp ext (c.set dp (Nat.div o sz) (.mk (setNth v old (Nat.mod o sz)) g))) h')) none) r) none)) = _
      rw [b2, b3, hr]
      subst b1
      show cnd (Nat.ble gw g) _ none = _
      rw [b4]; rfl
  | _ => cases hs
theorem storeC_fn {h : Hp} {f : Key} {g o n : Nat} {l : List AV} {h1 : Hp} (hs : storeC h f g o n l = some h1) : ∃ ob, ∀ h', hget f h' = hget f h → storeC h' f g o n l = some (hset f ob h') := by
  unfold storeC at hs
  generalize hO : hget f h = O at hs
  cases O with
  | cells ro gen sz dp ext c =>
    have hs : cnd ro none (cnd (Nat.beq g gen)
      (cnd (Nat.ble (Nat.add (Nat.mod o sz) n) sz)
        (opt (c.get (Nat.div o sz)) none fun r => Row.rec (motive := fun _ => Option Hp) (fun old gw => cnd (Nat.ble gw g)
          (some (hset f (.cells ro gen sz dp ext (c.set dp (Nat.div o sz) (.mk (cnd (Nat.beq n sz) l (putAt old (Nat.mod o sz) l)) g))) h)) none) r)
        (cnd (Nat.beq (Nat.mod o sz) 0) (cnd (Nat.beq (Nat.mod n sz) 0) (opt (overRows dp g c (Nat.div o sz) (cutR sz (Nat.div n sz) l)) none fun c' =>
          some (hset f (.cells ro gen sz dp ext c') h)) none) none)) none) = some h1 := hs
    obtain ⟨b1, hs⟩ := cnd_inv' hs
    obtain ⟨b2, hs⟩ := cnd_inv hs
    subst b1
    have goal : ∀ h', hget f h' = hget f h → storeC h' f g o n l = (cnd (Nat.beq g gen)
      (cnd (Nat.ble (Nat.add (Nat.mod o sz) n) sz)
        (opt (c.get (Nat.div o sz)) none fun r => Row.rec (motive := fun _ => Option Hp) (fun old gw => cnd (Nat.ble gw g)
          (some (hset f (.cells false gen sz dp ext (c.set dp (Nat.div o sz) (.mk (cnd (Nat.beq n sz) l (putAt old (Nat.mod o sz) l)) g))) h')) none) r)
        (cnd (Nat.beq (Nat.mod o sz) 0) (cnd (Nat.beq (Nat.mod n sz) 0) (opt (overRows dp g c (Nat.div o sz) (cutR sz (Nat.div n sz) l)) none fun c' =>
          some (hset f (.cells false gen sz dp ext c') h')) none) none)) none) := by
      intro h' hh'
      unfold storeC
      rw [hh', hO]
      rfl
    cases b3 : Nat.ble (Nat.add (Nat.mod o sz) n) sz with
    | true =>
      rw [b3] at hs
      simp only [cnd_true] at hs
      cases hr : c.get (Nat.div o sz) with
      | none => rw [hr] at hs; cases hs
      | some r =>
        obtain ⟨old, gw⟩ := r
        rw [hr] at hs
        obtain ⟨b4, hs⟩ := cnd_inv (show cnd (Nat.ble gw g) (some (hset f (.cells false gen sz dp ext (c.set dp (Nat.div o sz) (.mk (cnd (Nat.beq n sz) l (putAt old (Nat.mod o sz) l)) g))) h)) none = some h1 from hs)
        refine ⟨.cells false gen sz dp ext (c.set dp (Nat.div o sz) (.mk (cnd (Nat.beq n sz) l (putAt old (Nat.mod o sz) l)) g)), fun h' hh' => ?_⟩
        rw [goal h' (hh'.trans hO.symm), b2, b3, hr]
        show cnd (Nat.ble gw g) _ none = _
        rw [b4]; rfl
    | false =>
      rw [b3] at hs
      simp only [cnd_false] at hs
      obtain ⟨b4, hs⟩ := cnd_inv hs
      obtain ⟨b5, hs⟩ := cnd_inv hs
      cases hr : overRows dp g c (Nat.div o sz) (cutR sz (Nat.div n sz) l) with
      | none => rw [hr] at hs; cases hs
      | some c' =>
        refine ⟨.cells false gen sz dp ext c', fun h' hh' => ?_⟩
        rw [goal h' (hh'.trans hO.symm), b2, b3, b4, b5, hr]
        rfl
  | _ => cases hs
structure StFn (f : Key) (F : Hp → Hp) : Prop where
  off : ∀ k h, k ≠ f → hget k (F h) = hget k h
  at' : ∀ h h', hget f h' = hget f h → hget f (F h') = hget f (F h)
theorem StFn.id (f : Key) : StFn f (fun h => h) := ⟨fun _ _ _ => rfl, fun _ _ e => e⟩
theorem StFn.set (f : Key) (ob : Ob) : StFn f (hset f ob) := ⟨fun k h e => hget_hset_ne (fun e' => e e'.symm) _ _, fun h h' _ => by rw [hget_hset, hget_hset]⟩
theorem xStore_fn {n : Nat} {x y : Opd} {h : Hp} {nx : Key} {L : Lo} {f : Key} {g o : Nat} {r : Tn} (hx : getO x L = .ptr f g o) (hs : xStore n x y h nx L = some r) :
    ∃ F : Hp → Hp, StFn f F ∧ ∀ h' nx', hget f h' = hget f h → xStore n x y h' nx' L = some (.mk undefA (F h') nx') := by
  have unf : ∀ h' nx', xStore n x y h' nx' L = asAgg (getO y L)
      (cnd (Nat.beq n 1) (cnd (getO y L).scalar (opt (store1 h' f g o (getO y L)) none fun h2 => some (Tn.mk undefA h2 nx')) none) none)
      fun l => cnd (Nat.beq l.length n) (opt (storeTo h' f g o l) none fun h2 => some (Tn.mk undefA h2 nx')) none := by
    intro h' nx'
    unfold xStore
    rw [hx]; rfl
  have scal : (∀ h' nx', xStore n x y h' nx' L = (cnd (Nat.beq n 1) (cnd (getO y L).scalar (opt (store1 h' f g o (getO y L)) none fun h2 => some (Tn.mk undefA h2 nx')) none) none)) →
      ∃ F : Hp → Hp, StFn f F ∧ ∀ h' nx', hget f h' = hget f h → xStore n x y h' nx' L = some (.mk undefA (F h') nx') := by
    intro hu
    rw [hu] at hs
    obtain ⟨b1, hs⟩ := cnd_inv hs
    obtain ⟨b2, hs⟩ := cnd_inv hs
    cases h1 : store1 h f g o (getO y L) with
    | none => rw [h1] at hs; cases hs
    | some h2 =>
      obtain ⟨ob, hob⟩ := store1_fn h1
      exact ⟨hset f ob, .set f ob, fun h' nx' hh' => by rw [hu, b1, b2, hob h' hh']; rfl⟩
  cases hy : getO y L with
  | agg l =>
    have hu : ∀ h' nx', xStore n x y h' nx' L = cnd (Nat.beq l.length n) (opt (storeTo h' f g o l) none fun h2 => some (Tn.mk undefA h2 nx')) none := fun h' nx' => by rw [unf, hy]; rfl
    rw [hu] at hs
    obtain ⟨b1, hs⟩ := cnd_inv hs
    cases b2 : Nat.beq l.length 0 with
    | true =>
      refine ⟨fun h => h, .id f, fun h' nx' hh' => ?_⟩
      rw [hu, b1]
      show opt (storeTo h' f g o l) none _ = _
      unfold storeTo; rw [b2]; rfl
    | false =>
      have hst : ∀ h', storeTo h' f g o l = cnd (allScalar l) (storeC h' f g o l.length l) none := fun h' => by unfold storeTo; rw [b2]; rfl
      rw [hst] at hs
      cases b3 : allScalar l with
      | false => rw [b3] at hs; cases hs
      | true =>
        rw [b3] at hs
        simp only [cnd_true] at hs
        cases h1 : storeC h f g o l.length l with
        | none => rw [h1] at hs; cases hs
        | some h2 =>
          obtain ⟨ob, hob⟩ := storeC_fn h1
          exact ⟨hset f ob, .set f ob, fun h' nx' hh' => by rw [hu, b1, hst, b3]; simp only [cnd_true]; rw [hob h' hh']; rfl⟩
  | _ => exact scal fun h' nx' => by rw [unf, hy]; rfl
end
end Go.Ev
