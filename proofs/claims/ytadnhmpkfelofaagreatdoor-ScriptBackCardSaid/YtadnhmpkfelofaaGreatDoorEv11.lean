/- THE EVALUATOR, part 11 of 13: EvDr10 EvDr11 EvCtl11 EvCtl12 EvInit EvPiece EvCard EvArg EvGc -/
import Derived.Test.YtadnhmpkfelofaaGreatDoorEv10
import GoSem.ClaimJoined
import Derived.ChangeArms
import Derived.ChangeSame
import Derived.Carry
set_option linter.unusedVariables false
set_option linter.unusedSectionVars false
set_option linter.unusedSimpArgs false
namespace Go.Ev
set_option linter.unusedVariables false
set_option linter.unusedSectionVars false
set_option linter.unusedSimpArgs false
noncomputable section
variable [Val] [Fk]
section
variable {E : Env} {P : Program} (hE : EnvOk E P) {C : Call0} (hS : SumOk E P C)
variable {rest : List Ci} {k : List Item} {fn : Nat} {ds : List Df} {dd : Bool} {rnd : Option Key} {cs : List Fr} {frs : List Frame} {Fs : List Key} {arr : Array Oper}
    {d : Nat} {qs : List (Nat × Oper × Nat)} {idxs : List Nat} {μ : Mu} {L : Lo} {h : Hp} {nx : Key} {fr : Frame} {w : World}
theorem dat_end (A : DAt E P C rest k fn ds dd rnd cs frs Fs arr d qs [] μ L h fr w) : Good E P C (.go (.mk L rest (.mk fn ds .run dd rnd) cs h nx)) (lone fr (frs ++ C.cs0) w) := by
  obtain ⟨hm, hsz⟩ := A.fi.run _ _ _ _ rfl
  refine ⟨_, .one (s_regionEnd hm A.todo), ?_⟩
  refine Sim.mk (F := []) (Fs := Fs) A.hr A.gr A.ext ?_ A.st (by simpa using A.kept)
  have hk : KnR (cxOf E fn).nd μ [] L fr.tmps := ⟨fun t ht _ => A.dr.need t ht (by rintro ⟨i, hi, _⟩; cases hi), (fun e he => by cases he), fun u d x hm => by cases hm⟩
  have htd := A.td
  have hf := A.fi
  cases hf with
  | mk h1 h2 h3 h4 h5 h6 h7 => exact .mk (.mk h1 h2 h3 h4 h5 h6 h7) (.plain hk htd)
def PG (E : Env) (P : Program) (C : Call0) (rest : List Ci) (k : List Item) (fn : Nat) (dd : Bool) (rnd : Option Key) (arr : Array Oper) (fuel : Nat) : Prop :=
  ∀ (d : Nat) (qs td : List (Nat × Oper × Nat)) (idxs : List Nat) (μ : Mu) (L : Lo) (h : Hp) (nx : Key) (fr : Frame) (w : World) (ds : List Df) (cs : List Fr) (frs : List Frame) (Fs : List Key), Left arr d td →
    DAt E P C rest k fn ds dd rnd cs frs Fs arr d qs idxs μ L h fr w →
    Good E P C (ops E (plan E (qOf E (cxOf E fn)) arr fuel d qs td) (.mk rest (.mk fn ds .run dd rnd) cs) L h nx) (lone fr (frs ++ C.cs0) w)
theorem chk_good {fuel i : Nat} {tdl : List (Nat × Oper × Nat)} (IH : PG E P C rest k fn dd rnd arr fuel) (sd : DrSt E (cxOf E fn) arr) (hr : HR C.W.heap.size μ h w) (gr : GR E μ) (ext : Ext C.W.heap.size C.W w) (fi : FiR E μ (.mk fn ds .run dd rnd) fr)
    (st : StR E μ cs frs Fs) (kept : Kept1 μ h (idxs.filterMap (pk E (cxOf E fn) arr d L) ++ Fs)) (todo : fr.todo = .inRegion arr idxs :: k) (td : TodoR E (cxOf E fn) μ [] rest k) (dr : DrI E (cxOf E fn) arr d qs idxs μ L fr.tmps)
    (hl : Left arr d tdl) (hp : ∀ p, inM (pre arr i) p = true → p ∉ idxs) :
    Good E P C (ops E (.chk (pend E (qOf E (cxOf E fn)) arr (pre arr i) qs) :: plan E (qOf E (cxOf E fn)) arr fuel d (qs.filter fun e => !inM (pre arr i) e.1) tdl) (.mk rest (.mk fn ds .run dd rnd) cs) L h nx) (lone fr (frs ++ C.cs0) w) := by
  show Good E P C (cnd (ckAll E h L (pend E (qOf E (cxOf E fn)) arr (pre arr i) qs)) (ops E (plan E (qOf E (cxOf E fn)) arr fuel d (qs.filter fun e => !inM (pre arr i) e.1) tdl) (.mk rest (.mk fn ds .run dd rnd) cs) L h nx) .fail) _
  cases hck : ckAll E h L (pend E (qOf E (cxOf E fn)) arr (pre arr i) qs) with
  | false => trivial
  | true =>
    have hno : ∀ j, j ∈ idxs → inM (pre arr i) j = false := fun j hj => by
      cases hh : inM (pre arr i) j with
      | false => rfl
      | true => exact absurd hj (hp j hh)
    refine IH _ _ _ _ _ _ _ _ _ _ _ _ _ _ hl ⟨sd, hr, gr, ext, fi, st, kept, todo, td, ⟨dr.lin, dr.cd, dr.dcl, fun j hj hdj => ?_, fun e he => dr.qsm e (List.mem_filter.1 he).1, dr.need, dr.pl⟩, fun j o hj hdj ho => chk_pendH sd dr hck hj hdj ho (hno j hj)⟩
    obtain ⟨o', m', hm⟩ := dr.hqs j hj hdj
    exact ⟨o', m', List.mem_filter.2 ⟨hm, by simp [hno j hj]⟩⟩
include hE hS in
theorem effect_good {fuel i : Nat} {is : List Nat} {o : Oper} {tdl : List (Nat × Oper × Nat)} (IH : PG E P C rest k fn dd rnd arr fuel) (A : DAt E P C rest k fn ds dd rnd cs frs Fs arr d qs (i :: is) μ L h fr w)
    (hd : inM d i = false) (ho : arr[i]? = some o) (hq : isQ E o = false) (hl : Left arr (Nat.lor d (Nat.pow 2 i)) tdl) :
    Good E P C (ops E (insOf (qOf E (cxOf E fn)) E arr (dst o.dst) o :: .chk (pend E (qOf E (cxOf E fn)) arr (pre arr i) qs) :: plan E (qOf E (cxOf E fn)) arr fuel (Nat.lor d (Nat.pow 2 i)) (qs.filter fun e => !inM (pre arr i) e.1) tdl) (.mk rest (.mk fn ds .run dd rnd) cs) L h nx) (lone fr (frs ++ C.cs0) w) := by
  obtain ⟨hm, hsz⟩ := A.fi.run _ _ _ _ rfl
  have hqq : ∀ y, VR μ (getO (q2 E (cxOf E fn) arr o y) L) (fr.eval y) := by rw [eval_evT]; exact q2_ok (DrI.reads A.sd A.dr A.gr rfl ho)
  have hkf : (i :: is).filterMap (pk E (cxOf E fn) arr d L) = is.filterMap (pk E (cxOf E fn) arr d L) := List.filterMap_cons_none (pk_self A.sd (k := 0) hd)
  have hah : ∀ p, inM (pre arr i) p = true → p ∉ is := fun p hp hm => (DrI.ahead A.sd A.dr hp).2 (List.mem_cons_of_mem _ hm)
  have hwait : ∀ ν, μ.le ν → BodyR E fn ν L fr.tmps .run (.wait (dst o.dst) (.chk (pend E (qOf E (cxOf E fn)) arr (pre arr i) qs) :: plan E (qOf E (cxOf E fn)) arr fuel (Nat.lor d (Nat.pow 2 i)) (qs.filter fun e => !inM (pre arr i) e.1) tdl) :: rest) fr.todo (is.filterMap (pk E (cxOf E fn) arr d L)) := by
    intro ν hle
    rw [A.todo]
    exact .drawn (.wait A.sd (A.td.mono hle) ho hq hd hl (A.dr.mono hle))
  show Good E P C ((insOf (qOf E (cxOf E fn)) E arr (dst o.dst) o).run E (.chk (pend E (qOf E (cxOf E fn)) arr (pre arr i) qs) :: plan E (qOf E (cxOf E fn)) arr fuel (Nat.lor d (Nat.pow 2 i)) (qs.filter fun e => !inM (pre arr i) e.1) tdl) (ops E (.chk (pend E (qOf E (cxOf E fn)) arr (pre arr i) qs) :: plan E (qOf E (cxOf E fn)) arr fuel (Nat.lor d (Nat.pow 2 i)) (qs.filter fun e => !inM (pre arr i) e.1) tdl)) (.mk rest (.mk fn ds .run dd rnd) cs) L h nx) _
  rw [q2_ins (x := cxOf E fn)]
  refine ins_good hE hS (F := is.filterMap (pk E (cxOf E fn) arr d L)) (Fs := Fs) hqq ⟨A.hr, A.gr, A.ext, A.fi, A.st, by rw [← hkf]; exact A.kept, A.todo, ho, hwait, fun ν a v hle hv => ?_, (hwait μ (Mu.le_refl _)).res, ?_⟩
  · rw [finish_todo fr v A.todo, finish_tmps fr v A.todo ho, ← DrI.pkE A.sd A.dr hd ho a]
    exact .drawn (.mid A.sd (A.td.mono hle) hl (DrI.eff A.sd (A.dr.mono hle) hd ho hsz hv) hah)
  · intro ν a v h' nx' w' ds' fr' cs' frs' hle hv hr' hg' he' hf' htm' htd' hs' hkp'
    have ht' : fr'.todo = .inRegion arr (i :: is) :: k := by rw [htd', A.todo]
    refine chk_good IH A.sd hr' hg' he' (hf'.finish v ht' ho) hs' (by rw [DrI.pkE A.sd A.dr hd ho a]; exact hkp') (finish_todo fr' v ht') (A.td.mono hle) ?_ hl hah
    rw [finish_tmps fr' v ht' ho, htm']
    exact DrI.eff A.sd (A.dr.mono hle) hd ho hsz hv
theorem pend_nil {m : Nat} {q : Operand → Opd} : ∀ {qs : List (Nat × Oper × Nat)}, pend E q arr m qs = [] → ∀ {i o n}, (i, o, n) ∈ qs → inM m i = false → ckIns E q arr o = none
  | [], _, _, _, _, hm, _ => by cases hm
  | (i', o', n') :: l, hp, i, o, n, hm, hi => by
    have hp : (bif inM m i' then pend E q arr m l else match ckIns E q arr o' with
      | some c => c :: pend E q arr m l
      | none => pend E q arr m l) = [] := hp
    rcases List.mem_cons.1 hm with e | hm
    · cases e
      rw [hi] at hp
      cases hc : ckIns E q arr o' with
      | none => rfl
      | some c => rw [hc] at hp; cases hp
    · refine pend_nil (qs := l) ?_ hm hi
      cases hi' : inM m i' with
      | true => rw [hi'] at hp; exact hp
      | false =>
        rw [hi'] at hp
        cases hc : ckIns E q arr o' with
        | none => rw [hc] at hp; exact hp
        | some c => rw [hc] at hp; cases hp
theorem free_pendH {m e : Nat} {o' : Oper} (A : DAt E P C rest k fn ds dd rnd cs frs Fs arr d qs idxs μ L h fr w) (hp : pend E (qOf E (cxOf E fn)) arr m qs = []) (he : e ∈ idxs) (hde : inM d e = true) (ho' : arr[e]? = some o') (hm : inM m e = false) (h' : Hp) :
    PendH E (cxOf E fn) arr h' o' L := by
  obtain ⟨o2, n, hmem⟩ := A.dr.hqs e he hde
  have h1 := (mem_marked.1 (A.dr.qsm _ hmem).1).1
  rw [ho'] at h1; cases h1
  have hck := pend_nil hp hmem hm
  have hdo := (A.sd.ok ho').2.2
  rcases A.dr.pl e o' he hde ho' with ⟨h3, h4⟩ | ⟨h3, h4⟩
  · exact .inl h3
  · refine .inr ?_
    unfold dstOk at hdo
    unfold ckIns at hck
    split at h4
    · rename_i dd0 p hins
      intro hmp
      rw [hins] at hdo hck
      cases hdst : o'.dst with
      | none => rw [hdst] at hdo; simp only [hmp] at hdo; cases hdo
      | some t => rw [hdst] at hck; simp only [hmp, cond_true] at hck; cases hck
    · rename_i dd0 p hins
      rw [hins] at hdo hck
      cases hdst : o'.dst with
      | none => rw [hdst] at hdo; cases hdo
      | some t => rw [hdst] at hck; cases hck
    · exact h4.elim
theorem marked_fst : ∀ {l : List (Nat × Oper × Nat)}, l.Nodup → (∀ x ∈ l, x ∈ marked arr) → (l.map (·.1)).Nodup
  | [], _, _ => .nil
  | x :: l, h, hm => by
    obtain ⟨h1, h2⟩ := List.nodup_cons.1 h
    rw [List.map_cons, List.nodup_cons]
    refine ⟨fun hh => ?_, marked_fst h2 fun y hy => hm y (List.mem_cons_of_mem _ hy)⟩
    obtain ⟨y, hy, e⟩ := List.mem_map.1 hh
    have := marked_inj (hm y (List.mem_cons_of_mem _ hy)) (hm x (List.mem_cons_self ..)) e
    exact h1 (this ▸ hy)
include hE in
theorem many_good {fuel : Nat} {l R Q : List (Nat × Oper × Nat)} {r : List IE} (IH : PG E P C rest k fn dd rnd arr fuel) (A : DAt E P C rest k fn ds dd rnd cs frs Fs arr d qs idxs μ L h fr w)
    (hend : idxs = [] ∨ ∃ j is, idxs = j :: is ∧ inM d j = false) (hl : Left arr d l) (hR : R = l.filter (nowIn d)) (hQ : Q = l.filter fun e => !nowIn d e) (hO : manyO E (qOf E (cxOf E fn)) arr qs R Q = some r) :
    Good E P C (ops E (.ins r :: plan E (qOf E (cxOf E fn)) arr fuel (lorAll d R) qs Q) (.mk rest (.mk fn ds .run dd rnd) cs) L h nx) (lone fr (frs ++ C.cs0) w) := by
  have memR : ∀ x, x ∈ R → x ∈ l ∧ isIn x.2.1 = true := fun x hx => by
    rw [hR] at hx
    obtain ⟨h1, h2⟩ := List.mem_filter.1 hx
    unfold nowIn at h2
    rw [Bool.and_eq_true] at h2
    exact ⟨h1, h2.1⟩
  have memQ : ∀ x, x ∈ l → x ∈ R ∨ x ∈ Q := fun x hx => by
    cases hn : nowIn d x with
    | true => exact .inl (by rw [hR]; exact List.mem_filter.2 ⟨hx, hn⟩)
    | false => exact .inr (by rw [hQ]; exact List.mem_filter.2 ⟨hx, by rw [hn]; rfl⟩)
  have mk : ∀ x, x ∈ l → arr[x.1]? = some x.2.1 ∧ x.2.2 = pre arr x.1 ∧ inM d x.1 = false := fun x hx => by
    have hy := (hl.2 x).1 hx
    obtain ⟨h1, h2⟩ := mem_marked.1 (show (x.1, x.2.1, x.2.2) ∈ marked arr from hy.1)
    exact ⟨h1, h2, hy.2⟩
  have hnd : (R.map (·.1)).Nodup := marked_fst (arr := arr) (by rw [hR]; exact hl.1.filter _) fun x hx => ((hl.2 x).1 (memR x hx).1).1
  have here : ∀ i, i < arr.size → inM d i = false → ∃ x ∈ l, x.1 = i := fun i hi hd => ⟨(i, arr[i], pre arr i), (hl.2 _).2 ⟨mem_marked.2 ⟨Array.getElem?_eq_getElem hi, rfl⟩, hd⟩, rfl⟩
  unfold manyO at hO
  cases R with
  | nil => cases hO
  | cons x0 R' =>
    simp only at hO
    cases hq : Q.all (fun y => (x0 :: R').all fun z => inM y.2.2 z.1) with
    | false => rw [hq] at hO; cases hO
    | true =>
      rw [hq] at hO
      simp only [cond_true] at hO
      cases hpe : pend E (qOf E (cxOf E fn)) arr (landAll x0.2.2 R') qs with
      | cons _ _ => rw [hpe] at hO; cases hO
      | nil =>
        rw [hpe] at hO
        have hie : ieList E (qOf E (cxOf E fn)) (x0 :: R') = some r := hO
        obtain ⟨hr, hex⟩ := ieList_mem hie
        cases r with
        | nil => trivial
        | cons e r0 =>
          show Good E P C (asMap (getO e.m L) .fail fun f => asMapO (hget f h) .fail fun es _ => List.rec (motive := fun _ => Sp) (cnd (insOk E L f (e :: r0)) (ops E (plan E (qOf E (cxOf E fn)) arr fuel (lorAll d (x0 :: R')) qs Q) (.mk rest (.mk fn ds .run dd rnd) cs) L (hset f (.mapu (insEs L (e :: r0))) h) nx) .fail) (fun _ _ _ => .fail) es) _
          cases hm0 : getO e.m L <;> first | trivial | skip
          rename_i f
          show Good E P C (asMapO (hget f h) .fail fun es _ => List.rec (motive := fun _ => Sp) (cnd (insOk E L f (e :: r0)) (ops E (plan E (qOf E (cxOf E fn)) arr fuel (lorAll d (x0 :: R')) qs Q) (.mk rest (.mk fn ds .run dd rnd) cs) L (hset f (.mapu (insEs L (e :: r0))) h) nx) .fail) (fun _ _ _ => .fail) es) _
          cases hf : hget f h <;> first | trivial | skip
          rename_i es clock
          cases es with
          | cons _ _ => trivial
          | nil =>
            show Good E P C (cnd (insOk E L f (e :: r0)) (ops E (plan E (qOf E (cxOf E fn)) arr fuel (lorAll d (x0 :: R')) qs Q) (.mk rest (.mk fn ds .run dd rnd) cs) L (hset f (.mapu (insEs L (e :: r0))) h) nx) .fail) _
            cases hok : insOk E L f (e :: r0) with
            | false => trivial
            | true =>
              obtain ⟨k1, k2⟩ := insOk_inv hok
              have hRem : Rem E (qOf E (cxOf E fn)) arr L f d [] (x0 :: R') := by
                refine ⟨hnd, fun x hx => ?_, fun i hi hdi => ?_, by rw [← hr]; exact k2⟩
                · obtain ⟨h1, h2, h3⟩ := mk x (memR x hx).1
                  obtain ⟨e', he'⟩ := hex x hx
                  have he2 : e' ∈ e :: r0 := by rw [hr]; exact List.mem_filterMap.2 ⟨x, hx, he'⟩
                  obtain ⟨h4, h5⟩ := k1 e' he2
                  exact ⟨h1, h3, (memR x hx).2, e', he', h4, h5, fun y hy => by cases hy⟩
                · obtain ⟨x, hx, rfl⟩ := here i hi hdi
                  rcases memQ x hx with hh | hh
                  · exact .inl ⟨x, hh, rfl⟩
                  · refine .inr fun z hz => ?_
                    have h5 := List.all_eq_true.1 (List.all_eq_true.1 hq x hh) z hz
                    rw [(mk x hx).2.1] at h5
                    exact h5
              obtain ⟨fr4, w4, μ4, d4, h4, es4, c4, is4, s4, le4, A4, f4, g4, p4, b4, pa4⟩ := many_run hE (h0 := h) nx (x0 :: R').length (x0 :: R') [] clock d idxs μ h fr w rfl A hRem hf (fun _ _ => rfl) (fun j o' hj hdj ho' h' => by
                refine free_pendH A hpe hj hdj ho' ?_ h'
                cases hh : inM (landAll x0.2.2 R') j with
                | false => rfl
                | true =>
                  exfalso
                  obtain ⟨h5, h6⟩ := landAll_inM hh
                  have h7 : ∀ x ∈ x0 :: R', inM (pre arr x.1) j = true := fun x hx => by
                    rw [← (mk x (memR x hx).1).2.1]
                    rcases List.mem_cons.1 hx with rfl | hx
                    · exact h5
                    · exact h6 x hx
                  rcases hend with rfl | ⟨j0, is, rfl, hdj0⟩
                  · cases hj
                  · rcases hRem.all j0 (A.dr.lin.lt j0 (List.mem_cons_self ..)) hdj0 with ⟨x, hx, rfl⟩ | h8
                    · exact (DrI.ahead A.sd A.dr (h7 x hx)).2 hj
                    · have h9 := (DrI.ahead A.sd A.dr (h8 x0 (List.mem_cons_self ..))).1
                      rw [(mk x0 (memR x0 (List.mem_cons_self ..)).1).2.2] at h9
                      cases h9)
              have hd4 : ∀ p, inM d4 p = inM (lorAll d (x0 :: R')) p := fun p => by rw [b4, lorAll_inM]
              have ed : d4 = lorAll d (x0 :: R') := Nat.eq_of_testBit_eq fun i => by
                have := hd4 i
                rw [inM_tb, inM_tb] at this
                exact this
              subst ed
              refine Good.of_steps s4 (IH _ _ _ _ _ _ _ _ _ _ _ _ _ _ ⟨by rw [hQ]; exact hl.1.filter _, fun y => ?_⟩ (A4.weak (HR.mapWeak A4.hr f4 (es0 := insEs L (e :: r0)) ?_ (hget_hset _ _ _) fun g hg => ?_) (fun g hg => ?_) pa4))
              · rw [hQ, List.mem_filter, hl.2 y, lorAll_inM]
                constructor
                · rintro ⟨⟨h5, h6⟩, h7⟩
                  refine ⟨h5, ?_⟩
                  rw [h6, Bool.false_or]
                  simp only [decide_eq_false_iff_not]
                  rintro ⟨x, hx, hxy⟩
                  have e2 := marked_inj ((hl.2 x).1 (memR x hx).1).1 h5 hxy
                  subst e2
                  rw [hR] at hx
                  rw [(List.mem_filter.1 hx).2] at h7
                  cases h7
                · rintro ⟨h5, h6⟩
                  rw [Bool.or_eq_false_iff] at h6
                  refine ⟨⟨h5, h6.1⟩, ?_⟩
                  cases hn : nowIn d y with
                  | false => rfl
                  | true =>
                    exfalso
                    have h8 : y ∈ x0 :: R' := by rw [hR]; exact List.mem_filter.2 ⟨(hl.2 y).2 ⟨h5, h6.1⟩, hn⟩
                    have := h6.2
                    simp only [decide_eq_false_iff_not] at this
                    exact this ⟨y, h8, rfl⟩
              · rw [insEs_kv, hr]
                exact (by simpa [kvs] using p4.symm)
              · rw [hget_hset_ne (fun e => hg e.symm), g4 g hg]
              · by_cases e2 : f = g
                · subst e2; rw [hget_hset]; rfl
                · rw [hget_hset_ne e2, ← g4 g (fun e => e2 e.symm)]; exact hg
include hE hS in
theorem plan_good : ∀ (fuel : Nat), PG E P C rest k fn dd rnd arr fuel
  | 0 => by
    intro d qs td idxs μ L h nx fr w ds cs frs Fs hl A
    trivial
  | fuel + 1 => by
    intro d qs td idxs μ L h nx fr w ds cs frs Fs hl A
    unfold plan
    generalize hg : takeQ E d td = g
    obtain ⟨a, r, d1⟩ := g
    simp only
    refine quiet_good hg hl.1 (fun e he => (hl.2 e).1 he) A fun L' h' nx' A' => ?_
    have hl' := hl.quiet hg
    cases hall : r.all (fun e => !(isQ E e.2.1 && subM e.2.2 d1)) with
    | false => trivial
    | true =>
      simp only [cond_true]
      obtain ⟨idxs', μ', fr', w', hst', hle, A2, hend⟩ := pend_run hE A'
      have head : ∀ j is, idxs' = j :: is → inM d1 j = false → ∃ oj, arr[j]? = some oj ∧ isQ E oj = false ∧ (j, oj, pre arr j) ∈ r := by
        intro j is e hdj
        subst e
        have hlt := A2.dr.lin.lt j (List.mem_cons_self ..)
        have hoj : arr[j]? = some arr[j] := Array.getElem?_eq_getElem hlt
        have hmem := (hl'.2 (j, arr[j], pre arr j)).2 ⟨mem_marked.2 ⟨hoj, rfl⟩, hdj⟩
        refine ⟨_, hoj, ?_, hmem⟩
        have := List.all_eq_true.1 hall _ hmem
        have hs : subM (pre arr j) d1 = true := subM_of fun p hp => (DrI.ahead A2.sd A2.dr hp).1
        simp only [hs, Bool.and_true, Bool.not_eq_true'] at this
        exact this
      cases r with
      | nil =>
        show Good E P C (.go (.mk L' rest (.mk fn ds .run dd rnd) cs h' nx')) _
        refine Good.of_steps hst' ?_
        rcases hend with rfl | ⟨j, is, rfl, hdj⟩
        · exact dat_end A2
        · obtain ⟨_, _, _, hmem⟩ := head j is rfl hdj
          cases hmem
      | cons e0 r0 =>
        simp only
        have many : Good E P C (ops E (match manyO E (qOf E (cxOf E fn)) arr (qs ++ a) ((e0 :: r0).filter (nowIn d1)) ((e0 :: r0).filter fun e => !nowIn d1 e) with
            | some r => .ins r :: plan E (qOf E (cxOf E fn)) arr fuel (lorAll d1 ((e0 :: r0).filter (nowIn d1))) (qs ++ a) ((e0 :: r0).filter fun e => !nowIn d1 e)
            | none => [.bad]) (.mk rest (.mk fn ds .run dd rnd) cs) L' h' nx') (lone fr (frs ++ C.cs0) w) := by
          cases hO : manyO E (qOf E (cxOf E fn)) arr (qs ++ a) ((e0 :: r0).filter (nowIn d1)) ((e0 :: r0).filter fun e => !nowIn d1 e) with
          | none => trivial
          | some r => exact Good.of_steps hst' (many_good hE (plan_good fuel) A2 hend hl' rfl rfl hO)
        cases hte : takeE E d1 (e0 :: r0) with
        | none => trivial
        | some p =>
          obtain ⟨⟨i, o, m⟩, r'⟩ := p
          simp only
          obtain ⟨t1, t2, t3, t4⟩ := takeE_spec hte
          have hx := (hl'.2 _).1 ((t3 _).2 (.inl rfl))
          obtain ⟨ho, rfl⟩ := mem_marked.1 hx.1
          have hdi : inM d1 i = false := hx.2
          have hlt : i < arr.size := (Array.getElem?_eq_some_iff.1 ho).1
          cases hal : r'.all (fun e => isQ E e.2.1 || inM e.2.2 i) with
          | true =>
            simp only [cond_true]
            refine Good.of_steps hst' ?_
            rcases hend with rfl | ⟨j, is, rfl, hdj⟩
            · rw [A2.dr.cd i hlt (by simp)] at hdi; cases hdi
            · obtain ⟨oj, hoj, hqj, hmem⟩ := head j is rfl hdj
              have hji : j = i := by
                rcases (t3 _).1 hmem with e | hmem
                · cases e; rfl
                · have := List.all_eq_true.1 hal _ hmem
                  simp only [hqj, Bool.false_or] at this
                  rw [(DrI.ahead A2.sd A2.dr this).1] at hdi; cases hdi
              subst hji
              exact effect_good hE hS (plan_good fuel) A2 hdj ho t1 (hl'.eff hte)
          | false =>
            simp only [cond_false]
            rcases r' with _ | ⟨⟨j, p, n⟩, _ | ⟨_, _⟩⟩
            · exact many
            · have hy := (hl'.2 _).1 ((t3 _).2 (.inr (List.mem_singleton.2 rfl)))
              obtain ⟨hp, rfl⟩ := mem_marked.1 hy.1
              have hdj : inM d1 j = false := hy.2
              have hij : i ≠ j := fun e => by
                have := marked_inj hx.1 hy.1 e
                exact (t4 hl'.1).2 (by rw [this]; exact List.mem_singleton.2 rfl)
              have hallD : ∀ e, e < arr.size → e ≠ i → e ≠ j → inM d1 e = true := by
                intro e he h1 h2
                cases hde : inM d1 e with
                | true => rfl
                | false =>
                  have hmem := (hl'.2 (e, arr[e], pre arr e)).2 ⟨mem_marked.2 ⟨Array.getElem?_eq_getElem he, rfl⟩, hde⟩
                  rcases (t3 _).1 hmem with e1 | e1
                  · cases e1; exact absurd rfl h1
                  · rw [List.mem_singleton] at e1; cases e1; exact absurd rfl h2
              simp only
              cases hst : isSt o && isSt p with
              | false => exact many
              | true =>
                simp only [Bool.and_eq_true] at hst
                simp only [cond_true]
                cases hpe : pend E (qOf E (cxOf E fn)) arr (Nat.land (pre arr i) (pre arr j)) (qs ++ a) with
                | cons _ _ => trivial
                | nil =>
                  simp only
                  unfold twoI
                  cases he1 : effI (qOf E (cxOf E fn)) E o.op <;> first | trivial | skip
                  rename_i n x y
                  cases he2 : effI (qOf E (cxOf E fn)) E p.op <;> first | trivial | skip
                  rename_i m x' y'
                  show Good E P C (asPtr (getO x L') .fail fun f _ _ => asPtr (getO x' L') .fail fun f' _ _ => cnd (Key.beq f f') .fail
                    (opt (xStore n x y h' nx' L') .fail fun r => Tn.rec (motive := fun _ => Sp) (fun _ h nx =>
                      opt (xStore m x' y' h nx L') .fail fun r => Tn.rec (motive := fun _ => Sp) (fun _ h nx => .go (.mk L' rest (.mk fn ds .run dd rnd) cs h nx)) r) r)) _
                  cases hx0 : getO x L' <;> first | trivial | skip
                  rename_i f g oo
                  cases hx1 : getO x' L' <;> first | trivial | skip
                  rename_i f' g' oo'
                  show Good E P C (cnd (Key.beq f f') .fail _) _
                  cases hb : Key.beq f f' with
                  | true => trivial
                  | false =>
                    have hne := Key.beq_ne hb
                    simp only [cnd_false]
                    cases hs1 : xStore n x y h' nx' L' with
                    | none => trivial
                    | some r1 =>
                      obtain ⟨F1, f1, g1⟩ := xStore_fn hx0 hs1
                      have hr1 := (g1 h' nx' rfl).symm.trans hs1
                      simp only [Option.some.injEq] at hr1
                      subst hr1
                      show Good E P C (opt (xStore m x' y' (F1 h') nx' L') .fail fun r => Tn.rec (motive := fun _ => Sp) (fun _ h nx => .go (.mk L' rest (.mk fn ds .run dd rnd) cs h nx)) r) _
                      cases hs2 : xStore m x' y' (F1 h') nx' L' with
                      | none => trivial
                      | some r2 =>
                        obtain ⟨F2, f2, g2⟩ := xStore_fn hx1 hs2
                        have hr2 := (g2 (F1 h') nx' rfl).symm.trans hs2
                        simp only [Option.some.injEq] at hr2
                        subst hr2
                        show Good E P C (.go (.mk L' rest (.mk fn ds .run dd rnd) cs (F2 (F1 h')) nx')) _
                        refine Good.of_steps hst' ?_
                        rcases hend with rfl | ⟨j0, is, rfl, hdj0⟩
                        · rw [A2.dr.cd i hlt (by simp)] at hdi; cases hdi
                        · have hj0 : j0 = i ∨ j0 = j := by
                            by_cases e1 : j0 = i
                            · exact .inl e1
                            · by_cases e2 : j0 = j
                              · exact .inr e2
                              · rw [hallD j0 (A2.dr.lin.lt j0 (List.mem_cons_self ..)) e1 e2] at hdj0; cases hdj0
                          have hno : ∀ e, e ∈ is → inM (pre arr j0) e = false := fun e he => by
                            cases hh : inM (pre arr j0) e with
                            | false => rfl
                            | true => exact absurd (List.mem_cons_of_mem _ he) (DrI.ahead A2.sd A2.dr hh).2
                          have pa : ∀ e o', e ∈ is → inM d1 e = true → arr[e]? = some o' → ∀ h', PendH E (cxOf E fn) arr h' o' L' := by
                            intro e o' he hde ho' h0
                            refine free_pendH A2 hpe (List.mem_cons_of_mem _ he) hde ho' ?_ h0
                            rw [inM_land]
                            rcases hj0 with e1 | e1 <;> subst e1 <;> rw [hno e he] <;> simp
                          rcases hj0 with e1 | e1
                          · subst e1
                            obtain ⟨fr2, w2, μ2, d2, k1, k2, k3⟩ := two_run hE A2 hdi hdj hij hallD ho hst.1 he1 hs1 hp hst.2 he2 hs2 pa
                            exact Good.of_steps k1 (dat_end k3)
                          · subst e1
                            have q1 : xStore m x' y' h' nx' L' = some (.mk undefA (F2 h') nx') := g2 h' nx' (f1.off _ _ (fun e => hne e.symm)).symm
                            have q2 : xStore n x y (F2 h') nx' L' = some (.mk undefA (F1 (F2 h')) nx') := g1 (F2 h') nx' (f2.off _ _ hne)
                            obtain ⟨fr2, w2, μ2, d2, k1, k2, k3⟩ := two_run hE A2 hdj hdi (Ne.symm hij) (fun e he h1 h2 => hallD e he h2 h1) hp hst.2 he2 q1 ho hst.1 he1 q2 pa
                            refine Good.of_steps k1 (dat_end (k3.same fun key => ?_))
                            by_cases e1 : key = f
                            · subst e1
                              rw [f2.off _ _ hne, f1.at' h' (F2 h') (f2.off _ _ hne)]
                            · by_cases e2 : key = f'
                              · subst e2
                                rw [f1.off _ _ e1, f2.at' h' (F1 h') (f1.off _ _ e1)]
                              · rw [f2.off _ _ e2, f1.off _ _ e1, f1.off _ _ e1, f2.off _ _ e2]
            · exact many
end
end
end Go.Ev

namespace Go.Ev
set_option linter.unusedVariables false
set_option linter.unusedSectionVars false
set_option linter.unusedSimpArgs false
noncomputable section
variable [Val] [Fk]
theorem drawn_ok {E : Env} {P : Program} (hE : EnvOk E P) {C : Call0} (hS : SumOk E P C) : DrawnOk E P C where
  start := by
    intro arr t rest fn ds dd rnd cs L h nx μ fr frs Fs w k hr hg he hf hs hk hkn htd ht
    unfold drawnIns
    simp only
    cases hb : (arr.toList.all fun o => okD (cxOf E fn).n o.dst && (resOk E (cxOf E fn).res o && dstOk E (opdW (cxOf E fn).nd (gl E) []) o)) && orderOk E arr (marked arr) with
    | false => trivial
    | true =>
      simp only [cond_true]
      simp only [Bool.and_eq_true] at hb
      have sd : DrSt E (cxOf E fn) arr := ⟨hb.1, hb.2⟩
      obtain ⟨l1, l2⟩ := lin_start (arr := arr) t (fun i o ho => (sd.ord1 ho).2.1)
      have hpk : (Region.schedule true arr t).filterMap (pk E (cxOf E fn) arr 0 L) = [] := by
        rw [List.filterMap_eq_nil_iff]
        intro i _
        exact pk_self sd (k := 0) (inM_zero i)
      refine plan_good hE hS (arr.size + 1) 0 [] (marked arr) _ μ L h nx fr w ds cs frs Fs ⟨marked_nodup arr, fun e => ⟨fun h => ⟨h, inM_zero _⟩, fun h => h.1⟩⟩
        ⟨sd, hr, hg, he, hf, hs, by rw [hpk]; simpa using hk, ht, htd, ⟨l1, fun i hi hn => absurd (l2 i hi) hn, fun i p _ h => ?_, fun i _ h => ?_, (fun e he => by cases he), fun t ht hX => hkn.need t ht (fun h => h), fun i o _ h => ?_⟩, fun i o _ h => ?_⟩
      all_goals (rw [inM_zero] at h; cases h)
  mid := by
    intro l rest fn ds dd rnd cs L h nx μ fr frs F Fs w hr hg he hf hs hk hb
    generalize ht : fr.todo = items at hb
    cases hb with
    | @mid arr i idxs fuel d qs td _ k sd htd hl hdr hp =>
      exact chk_good (plan_good hE hS fuel) sd hr hg he hf hs hk ht htd hdr hl hp
end
end Go.Ev

namespace Go.Ev
set_option linter.unusedVariables false
set_option linter.unusedSectionVars false
set_option linter.unusedSimpArgs false
noncomputable section
variable [Val] [Fk]
section
variable {E : Env} {P : Program} (hE : EnvOk E P) {C : Call0} (hS : SumOk E P C) (hD : DrawnOk E P C)
include hE hS hD in
theorem step_good {c : Cfg} {m : Machine} (hs : Sim E P C c m) : Good E P C (step E c) m := by
  cases hs with
  | @mk L todo fi cs h nx μ fr frs F Fs w hr hg he hf hst hk =>
    obtain ⟨fn, ds, md, dd, rnd⟩ := fi
    have hf' := hf
    cases hf with
    | mk hfi hb =>
      cases hfi with
      | mk g1 g2 g3 g4 g5 g6 g7 =>
        cases md with
        | run =>
          have g3 : fr.mode = .run := g3
          cases todo with
          | nil =>
            show Good E P C (leave E none [] L (.mk fn ds .run dd rnd) cs h nx) _
            have hfi2 : FiR E μ (.mk fn ds .run dd rnd) fr := .mk g1 g2 (show fr.mode = .run from g3) g4 g5 g6 g7
            generalize hit : fr.todo = items at hb
            cases hb with
            | out h0 h1 h2 => cases h0
            | drawn h1 => cases h1
            | plain hkn htd =>
              obtain ⟨cl', k', hcl, hhd, hsteps⟩ := htd.head (P := P) (isize items) (Nat.le_refl _)
              have hkn' : KnR (cxOf E fn).nd μ cl' L fr.tmps := by rcases hcl with h | h <;> subst h; (exact hkn); exact hkn.forget
              refine Good.of_steps (hsteps fr _ w g3 hit) ?_
              cases hhd
              exact leave_good (todo := []) (fr := Frame.to fr []) (F := []) hr hg he (.mk (hfi2.to _) (.plain hkn' (.nil _))) g3 hst (by simpa using hk) (.inl ⟨rfl, rfl⟩)
          | cons x rest => exact run_good hE hS hD hr hg he hf' g3 hst hk
        | returning =>
          have g3 : fr.mode = .returning := g3
          exact unwind_good hE hr hg he hf' (by rw [g3]; intro hh; cases hh) hst hk
        | panicking ch =>
          obtain ⟨_, g3, _⟩ := g3
          exact unwind_good hE hr hg he hf' (by rw [g3]; intro hh; cases hh) hst hk
theorem allB_all {f : Cfg → Bool} : ∀ {l : List Cfg}, allB f l = true → ∀ c ∈ l, f c = true
  | [], _, c, hc => by cases hc
  | [a], h, c, hc => by
    rw [List.mem_singleton] at hc
    subst hc
    exact h
  | a :: b :: l, h, c, hc => by
    have h : cnd (f a) (allB f (b :: l)) false = true := h
    cases hfa : f a with
    | false => rw [hfa] at h; cases h
    | true =>
      rw [hfa] at h
      rcases List.mem_cons.1 hc with rfl | hc
      · exact hfa
      · exact allB_all (l := b :: l) h c hc
theorem Done.of_steps {a : AV} {m m' : Machine} (h : Steps P m m') (g : Done E P C a m') : Done E P C a m := by
  obtain ⟨fr, w, v, μ, h1, h2⟩ := g
  exact ⟨fr, w, v, μ, h.trans h1, h2⟩
include hE hS hD in
theorem run_sound : ∀ (n : Nat) {c : Cfg} {m : Machine}, run E n c = true → Sim E P C c m → Done E P C (.bool true) m
  | 0, _, _, h, _ => by cases h
  | n + 1, c, m, h, hs => by
    have hg := step_good hE hS hD hs
    have h : (Sp.rec (motive := fun _ => Bool) (fun c' => back (run E n) c') (fun v => asBool v false fun b => b) (fun l => allB (run E n) l) false (step E c) : Bool) = true := h
    cases hc : step E c with
    | go c' =>
      rw [hc] at h hg
      obtain ⟨m', h1, h2⟩ := hg
      exact (run_sound n (c := c') h h2).of_steps h1
    | done v =>
      rw [hc] at h hg
      cases v with
      | bool b =>
        have h : b = true := h
        subst h
        exact hg
      | _ => cases h
    | br l =>
      rw [hc] at h hg
      obtain ⟨c', hm, m', h1, h2⟩ := hg
      exact (run_sound n (allB_all h c' hm) h2).of_steps h1
    | fail => rw [hc] at h; cases h
def startB (E : Env) (n : Nat) (f : Nat) (vs : List AV) (h : Hp) (nx : Key) : Bool :=
  Sp.rec (motive := fun _ => Bool) (fun c' => back (run E n) c') (fun _ => false) (fun _ => false) false (enter E f vs false [] h nx)
include hE in
theorem enter_good0 {f : Nat} {vs : List AV} {args : Array Value} {h : Hp} {nx : Key} {μ : Mu} {w : World}
    (hv : VRs μ vs args.toList) (hr : HR C.W.heap.size μ h w) (hg : GR E μ) (he : Ext C.W.heap.size C.W w) :
    Good E P C (enter E f vs false [] h nx) (lone (Frame.enter P f args .normal) C.cs0 w) := by
  unfold enter
  cases hc : compBody E f with
  | none => trivial
  | some b =>
    simp only [opt_some]
    cases hl : Nat.ble vs.length 24 with
    | false => trivial
    | true =>
      simp only [cnd_true]
      unfold compBody at hc
      split at hc
      · rename_i fn hfn
        split at hc
        · rename_i c hbody
          simp only [Option.some.injEq] at hc
          subst hc
          have hP := hE.fs _ _ hfn
          have hn : nOf E f = fn.ntmps := by simp only [nOf, hfn]
          have htm : (Frame.enter P f args .normal).tmps = args ++ Array.replicate (fn.ntmps - args.size) undef := by simp [Frame.enter, hP]
          have htd : (Frame.enter P f args .normal).todo = [.code c] := by simp [Frame.enter, hP, hbody]
          refine ⟨_, .refl _ _, ?_⟩
          refine Sim.mk (F := []) (Fs := []) (fr := Frame.enter P f args .normal) (frs := []) hr hg he ?_ .nil ⟨.nil, fun f hf => by cases hf⟩
          refine .mk (.mk rfl (by simp [Frame.enter, DfsR]) rfl rfl rfl ?_ ⟨fn, hfn⟩) ?_
          · rw [htm, hn]; simp; omega
          · rw [htm, htd]
            refine .plain (cl := []) ⟨fun t ht _ => ?_, (fun e he => by cases he), fun u d x hm => by cases hm⟩ ?_
            · rw [tm_mk]
              rcases fillT_get vs (inNd_lt ht) with h0 | h0
              · rw [h0]; simp only [VR]
              · rw [h0]
                cases hvt : vs[t]? with
                | none => simp only [Option.getD_none, VR]
                | some a =>
                  simp only [Option.getD_some]
                  obtain ⟨v, e1, e2⟩ := hv.get hvt
                  rw [Array.getElem?_toList] at e1
                  have hlt : t < args.size := (Array.getElem?_eq_some_iff.1 e1).1
                  rw [Array.getD_eq_getD_getElem?, Array.getElem?_append_left hlt, e1]
                  exact e2
            · have := TodoR.code (E := E) (x := cxOf E f) (μ := μ) (cl := []) (c := c) (.nil (aft (cxOf E f).nd [] c))
              rw [List.append_nil] at this
              exact this
        · cases hc
      · cases hc
end
theorem run_calls {E : Env} {P : Program} (hE : EnvOk E P) {W : World} (hS : ∀ cs, SumOk E P ⟨cs, W⟩) (hD : ∀ cs, DrawnOk E P ⟨cs, W⟩) {n : Nat} {vs : List AV} {args : Array Value} {h : Hp} {nx : Key} {μ : Mu}
    (hv : VRs μ vs args.toList) (hr : HR W.heap.size μ h W) (hg : GR E μ) (hrun : startB E n E.root vs h nx = true) :
    Calls P E.root args W (fun e w' => e = .returned (.bool true) ∧ Ext W.heap.size W w') := by
  intro cs
  have hgo := enter_good0 (E := E) (P := P) hE (C := ⟨cs, W⟩) (f := E.root) (nx := nx) hv hr hg (Ext.refl _ _)
  unfold startB at hrun
  cases hen : enter E E.root vs false [] h nx with
  | go c =>
    rw [hen] at hrun hgo
    obtain ⟨m', h1, h2⟩ := hgo
    have hrun : run E n c = true := hrun
    obtain ⟨fr, w, v, ν, k1, k2, k3, k4, k5⟩ := run_sound hE (hS cs) (hD cs) n hrun h2
    simp only [VR] at k3
    subst k3
    exact ⟨.returned (.bool true), w, fr, ⟨rfl, k4⟩, h1.trans k1, k5, k2⟩
  | _ => rw [hen] at hrun; cases hrun
end
end Go.Ev

namespace Go.Ev
noncomputable section
set_option linter.unusedSectionVars false
variable [Val] [Fk]
theorem ev_calls {E : Env} {P : Program} (hE : EnvOk E P) {W : World} (hS : ∀ cs, SumOk E P ⟨cs, W⟩) {n : Nat} {vs : List AV} {args : Array Value} {h : Hp} {nx : Key} {μ : Mu}
    (hv : VRs μ vs args.toList) (hr : HR W.heap.size μ h W) (hg : GR E μ) (hrun : startB E n E.root vs h nx = true) :
    Calls P E.root args W (fun e w' => e = .returned (.bool true) ∧ Ext W.heap.size W w') :=
  run_calls hE hS (fun cs => drawn_ok hE (hS cs)) hv hr hg hrun
end
end Go.Ev

namespace Go.Ev
noncomputable section
set_option linter.unusedSectionVars false
variable [Val] [Fk]
/-! ## the laid variables, as the first heap -/
def flatF (E : Env) (go : TypeId → DataW Unit → Option (List AV)) : Nat → List (TypeId × Nat) → List (DataW Unit) → Option (List AV)
  | _, [], [] => some []
  | at_, (t, o) :: fs, d :: ds => bif Nat.beq o at_ then (match E.size t, go t d with
      | some n, some l => bif Nat.beq l.length n then (match flatF E go (at_ + n) fs ds with
          | some r => some (l ++ r)
          | none => none) else none
      | _, _ => none) else none
  | _, _, _ => none
def flatT (E : Env) : Nat → TypeId → DataW Unit → Option (List AV)
  | 0, _, _ => none
  | n + 1, t, d =>
    match E.und t, d with
    | some .bool, .lit (.bool b) => some [.bool b]
    | some (.int _), .lit (.int k n) => some [.int k n]
    | some .string, .lit (.string s) => some [.str (s.map UInt8.toNat)]
    | some (.struct fs), .agg ps => (match E.size t, flatF E (flatT E n) 0 (fs.toList.map fun f => (f.type, f.offset)) ps with
        | some n, some l => bif Nat.beq l.length n then some l else none
        | _, _ => none)
    | some (.array k e), .agg ps => (match E.size t, flatF E (flatT E n) 0 ((List.range k).map fun i => (e, i * E.P.cellsOf e)) ps with
        | some n, some l => bif Nat.beq l.length n then some l else none
        | _, _ => none)
    | _, _ => none
theorem mapM_cons_some {α β : Type} {f : α → Option β} {a : α} {as : List α} {xs : List β} (h : (a :: as).mapM f = some xs) : ∃ x r, f a = some x ∧ as.mapM f = some r ∧ xs = x :: r := by
  simp only [List.mapM_cons] at h
  cases hx : f a with
  | none => rw [hx] at h; simp at h
  | some x =>
    cases hr : as.mapM f with
    | none => rw [hx, hr] at h; simp at h
    | some r => rw [hx, hr] at h; simp at h; exact ⟨x, r, rfl, rfl, h.symm⟩
section
variable {E : Env} {P : Program} (hE : EnvOk E P) {w : World} {μ : Mu}
include hE
theorem EnvOk.cellsOf {t : TypeId} {n : Nat} (h : E.size t = some n) : P.cellsOf t = n := by
  obtain ⟨i, h1, h2⟩ := hE.size h
  simp [Program.cellsOf, h1, h2]
theorem flatF_sound {fuel : Nat} {go : TypeId → DataW Unit → Option (List AV)} {cs : List Value}
    (ih : ∀ t c d p l, DataW.trod (fun _ => ()) P w 0 (fun _ => true) false fuel t c = some (d, p) → go t d = some l → VRs μ l c) {α : Type} (τ : α → TypeId × Nat) :
    ∀ (as : List α) (at_ : Nat) (xs : List (DataW Unit × List MemPlace)) (l : List AV),
      as.mapM (fun a => DataW.trod (fun _ => ()) P w 0 (fun _ => true) false fuel (τ a).1 ((cs.drop (τ a).2).take (P.cellsOf (τ a).1))) = some xs →
      flatF E go at_ (as.map τ) (xs.map (·.1)) = some l → VRs μ l ((cs.drop at_).take l.length)
  | [], at_, xs, l, h, hl => by
    simp only [List.mapM_nil] at h
    cases h
    simp only [List.map_nil, flatF] at hl
    cases hl
    simp only [List.length_nil, List.take_zero]
    exact .nil
  | a :: as, at_, xs, l, h, hl => by
    obtain ⟨x, r, hx, hr, rfl⟩ := mapM_cons_some h
    rcases ht : τ a with ⟨t, o⟩
    simp only [List.map_cons, ht] at hl
    rw [ht] at hx
    replace hl : (bif Nat.beq o at_ then (match E.size t, go t x.1 with
          | some n, some l => bif Nat.beq l.length n then (match flatF E go (at_ + n) (as.map τ) (r.map (·.1)) with
              | some r => some (l ++ r)
              | none => none) else none
          | _, _ => none) else none) = some l := hl
    cases hb : Nat.beq o at_ with
    | false => rw [hb] at hl; cases hl
    | true =>
      rw [hb] at hl
      have ho : o = at_ := Nat.eq_of_beq_eq_true hb
      subst ho
      simp only [cond_true] at hl
      split at hl
      · rename_i n l1 hn hg
        cases hb2 : Nat.beq l1.length n with
        | false => rw [hb2] at hl; cases hl
        | true =>
          rw [hb2] at hl
          have hln : l1.length = n := Nat.eq_of_beq_eq_true hb2
          simp only [cond_true] at hl
          split at hl
          · rename_i l2 hf
            cases hl
            have i1 := ih _ _ x.1 x.2 l1 hx hg
            have i2 := flatF_sound ih τ as (o + n) r l2 hr hf
            rw [hE.cellsOf hn] at i1
            rw [List.length_append, List.take_add, hln, List.drop_drop]
            exact i1.append i2
          · cases hl
      · cases hl
omit hE in
theorem trod_structM {fuel : Nat} {t : TypeId} {fs : Array Field} {cs : List Value} {x : DataW Unit × List MemPlace} (hu : P.underlying t = some (.struct fs))
    (h : DataW.trod (fun _ => ()) P w 0 (fun _ => true) false (fuel + 1) t cs = some x) : cs.length = P.cellsOf t ∧ ∃ xs : List (DataW Unit × List MemPlace),
      fs.toList.mapM (fun f => DataW.trod (fun _ => ()) P w 0 (fun _ => true) false fuel f.type ((cs.drop f.offset).take (P.cellsOf f.type))) = some xs ∧ x.1 = .agg (xs.map (·.1)) := by
  unfold DataW.trod at h
  rw [hu] at h
  split at h <;> simp_all
  obtain ⟨hl, xs, hp, hd⟩ := h
  exact ⟨xs, hp, by rw [← hd]⟩
omit hE in
theorem trod_arrayM {fuel : Nat} {t e : TypeId} {n : Nat} {cs : List Value} {x : DataW Unit × List MemPlace} (hu : P.underlying t = some (.array n e))
    (h : DataW.trod (fun _ => ()) P w 0 (fun _ => true) false (fuel + 1) t cs = some x) : cs.length = P.cellsOf t ∧ ∃ xs : List (DataW Unit × List MemPlace),
      (List.range n).mapM (fun i => DataW.trod (fun _ => ()) P w 0 (fun _ => true) false fuel e ((cs.drop (i * P.cellsOf e)).take (P.cellsOf e))) = some xs ∧ x.1 = .agg (xs.map (·.1)) := by
  unfold DataW.trod at h
  rw [hu] at h
  split at h <;> simp_all
  obtain ⟨hl, xs, hp, hd⟩ := h
  exact ⟨xs, hp, by rw [← hd]⟩
theorem flatT_sound : ∀ (fuel n : Nat) (t : TypeId) (cs : List Value) (d : DataW Unit) (p : List MemPlace) (l : List AV),
    DataW.trod (fun _ => ()) P w 0 (fun _ => true) false fuel t cs = some (d, p) → flatT E n t d = some l → VRs μ l cs
  | 0, _, _, _, _, _, _, h, _ => by simp [DataW.trod] at h
  | fuel + 1, 0, _, _, _, _, _, _, h => by simp [flatT] at h
  | fuel + 1, n + 1, t, cs, d, p, l, h, hl => by
    unfold flatT at hl
    split at hl
    · rename_i b hu
      cases hl
      obtain ⟨b', rfl, e⟩ := DataW.trod_bool (hE.und hu) h
      simp only [Prod.mk.injEq, DataW.lit.injEq, Lit.bool.injEq] at e
      obtain ⟨rfl, _⟩ := e
      exact .cons (by simp only [VR]) .nil
    · rename_i k' k n' hu
      cases hl
      obtain ⟨m, rfl, e, _⟩ := DataW.trod_int (hE.und hu) h
      simp only [Prod.mk.injEq, DataW.lit.injEq, Lit.int.injEq] at e
      obtain ⟨⟨rfl, rfl⟩, _⟩ := e
      exact .cons (by simp only [VR]) .nil
    · rename_i b hu
      cases hl
      obtain ⟨s, rfl, e, _⟩ := DataW.trod_string (hE.und hu) h
      simp only [Prod.mk.injEq, DataW.lit.injEq, Lit.string.injEq] at e
      obtain ⟨rfl, _⟩ := e
      exact .cons (by simp only [VR]; exact ⟨s, rfl, rfl⟩) .nil
    · rename_i fs ps hu
      obtain ⟨hlen, xs, hp, hd⟩ := trod_structM (hE.und hu) h
      simp only [DataW.agg.injEq] at hd
      subst hd
      split at hl
      · rename_i k l' hk hf
        cases hb : Nat.beq l'.length k with
        | false => rw [hb] at hl; cases hl
        | true =>
          rw [hb] at hl
          have hln : l'.length = k := Nat.eq_of_beq_eq_true hb
          obtain rfl : l' = l := Option.some.inj hl
          have := flatF_sound hE (μ := μ) (cs := cs) (fun t c d p l h1 h2 => flatT_sound fuel n t c d p l h1 h2) (fun f : Field => (f.type, f.offset)) _ 0 xs l' hp hf
          rw [hE.cellsOf hk] at hlen
          rw [List.drop_zero, hln, ← hlen, List.take_length] at this
          exact this
      · cases hl
    · rename_i k e ps hu
      obtain ⟨hlen, xs, hp, hd⟩ := trod_arrayM (hE.und hu) h
      simp only [DataW.agg.injEq] at hd
      subst hd
      split at hl
      · rename_i k' l' hk hf
        cases hb : Nat.beq l'.length k' with
        | false => rw [hb] at hl; cases hl
        | true =>
          rw [hb] at hl
          have hln : l'.length = k' := Nat.eq_of_beq_eq_true hb
          obtain rfl : l' = l := Option.some.inj hl
          have hf' : flatF E (flatT E n) 0 ((List.range k).map fun i => (e, i * P.cellsOf e)) (xs.map (·.1)) = some l' := by rw [← hE.prog]; exact hf
          have := flatF_sound hE (μ := μ) (cs := cs) (fun t c d p l h1 h2 => flatT_sound fuel n t c d p l h1 h2) (fun i : Nat => (e, i * P.cellsOf e)) _ 0 xs l' hp hf'
          rw [hE.cellsOf hk] at hlen
          rw [List.drop_zero, hln, ← hlen, List.take_length] at this
          exact this
      · cases hl
    · cases hl
end
/-! ## the known variables -/
structure Gv where
  g : Nat
  sz : Nat
  l : List AV
def Gv.ob (x : Gv) : Ob := .cells true 0 x.sz (depthFor (x.l.length / x.sz) 25 0) (x.l.length / x.sz) (Tr.ofList (depthFor (x.l.length / x.sz) 25 0) (chunks x.sz (x.l.length / x.sz) x.l))
def ini1 (E : Env) (laid : List (String × DataW Unit)) (i sz : Nat) : Option Gv :=
  match laid[i]? with
  | some (n, d) => (match E.P.globalNamed n with
    | some g => (match (E.P.globals[g]?).map (·.type) with
      | some t => (match flatT E 8 t d with
        | some l => bif d.handleName?.isNone && Nat.blt 0 l.length && Nat.beq l.length ((l.length / sz) * sz) then some ⟨g, sz, l⟩ else none
        | none => none)
      | none => none)
    | none => none)
  | none => none
def iniAll (E : Env) (laid : List (String × DataW Unit)) : List (Nat × Nat) → Option (List Gv)
  | [] => some []
  | (i, sz) :: r => match ini1 E laid i sz, iniAll E laid r with
    | some x, some l => some (x :: l)
    | _, _ => none
def initH : List Gv → Hp
  | [] => hp0
  | x :: l => hset (Key.ofNat x.g) x.ob (initH l)
def initMu (gs : List Gv) : Mu := fun f g => bif Nat.beq g 0 then (gs.find? fun x => Key.beq (Key.ofNat x.g) f).map fun x => (x.g, 0, x.l.length) else none
def IniR (gs : List Gv) (W : World) : Prop := ∀ x ∈ gs, x.l.length = (x.l.length / x.sz) * x.sz ∧ ∃ cs e, W.heap[x.g]? = some (.cells cs e (0, 0)) ∧ ∀ μ, VRs μ x.l cs.toList
theorem IniR.ext {gs : List Gv} {W w : World} (h : IniR gs W) (he : Ext W.heap.size W w) : IniR gs w := fun x hx => by
  obtain ⟨h1, cs, e, h2, h3⟩ := h x hx
  have hlt : x.g < W.heap.size := (Array.getElem?_eq_some_iff.1 h2).1
  exact ⟨h1, cs, e, by rw [he.block _ hlt]; exact h2, h3⟩
theorem initH_get (gs : List Gv) (f : Key) : hget f (initH gs) = match gs.find? (fun x => Key.beq (Key.ofNat x.g) f) with | some x => x.ob | none => .none := by
  induction gs with
  | nil => exact hget_hp0 f
  | cons x l ih =>
    simp only [initH, List.find?_cons]
    cases hb : Key.beq (Key.ofNat x.g) f with
    | true => rw [Key.beq_eq hb]; exact hget_hset _ _ _
    | false => rw [hget_hset_ne (Key.beq_ne hb)]; exact ih
theorem initMu_some {gs : List Gv} {f : Key} {g b s n : Nat} (h : initMu gs f g = some (b, s, n)) :
    ∃ x ∈ gs, gs.find? (fun x => Key.beq (Key.ofNat x.g) f) = some x ∧ g = 0 ∧ b = x.g ∧ s = 0 ∧ n = x.l.length ∧ f = Key.ofNat b := by
  unfold initMu at h
  cases hb : Nat.beq g 0 with
  | false => rw [hb] at h; cases h
  | true =>
    rw [hb] at h
    replace h : (gs.find? fun x => Key.beq (Key.ofNat x.g) f).map (fun x => (x.g, 0, x.l.length)) = some (b, s, n) := h
    rw [Option.map_eq_some_iff] at h
    obtain ⟨x, hx, e⟩ := h
    cases e
    have h1 := List.find?_some hx
    exact ⟨x, List.mem_of_find?_eq_some hx, hx, Nat.eq_of_beq_eq_true hb, rfl, rfl, rfl, (Key.beq_eq h1).symm⟩
theorem ini_HR {gs : List Gv} {W : World} (hF : FkOk) (h : IniR gs W) (B : Nat) : HR B (initMu gs) (initH gs) W := by
  refine ⟨fun f g b s n f' g' s' n' h1 h2 _ => ?_, fun f g b s n h1 => ?_, fun f => ?_, fun f g g' b s n s' n' h1 h2 hg => by
    obtain ⟨_, _, _, e1, _⟩ := initMu_some h1
    obtain ⟨_, _, _, e2, _⟩ := initMu_some h2
    omega, hF, fun f b s n h1 => by obtain ⟨_, _, _, _, _, e1, _⟩ := initMu_some h1; exact e1⟩
  · obtain ⟨x, _, hx, _, hb, hs, hn, hf⟩ := initMu_some h1
    obtain ⟨y, _, hy, _, hb', hs', hn', hf'⟩ := initMu_some h2
    have : f = f' := hf.trans hf'.symm
    subst this
    rw [hx] at hy
    cases hy
    exact ⟨rfl, by rw [hs, hs'], by rw [hn, hn']⟩
  · obtain ⟨x, hm, _, _, hb, _, _, _⟩ := initMu_some h1
    obtain ⟨_, cs, e, h2, _⟩ := h x hm
    rw [hb]
    exact (Array.getElem?_eq_some_iff.1 h2).1
  · rw [initH_get]
    cases hf : gs.find? (fun x => Key.beq (Key.ofNat x.g) f) with
    | none =>
      intro g
      unfold initMu
      rw [hf]
      cases Nat.beq g 0 <;> rfl
    | some x =>
      obtain ⟨h1, cs, e, h2, h3⟩ := h x (List.mem_of_find?_eq_some hf)
      refine ⟨⟨Tr.ofList_wf _ _, fun r hr => ?_⟩, ⟨fun g hg => ?_, fun r l gw hg => ?_⟩, fun g b s n hm => ?_⟩
      · cases hg : (Tr.ofList (depthFor (x.l.length / x.sz) 25 0) (chunks x.sz (x.l.length / x.sz) x.l)).get r with
        | none => rfl
        | some y =>
          have := Tr.ofList_some _ _ _ _ hg
          have := (List.getElem?_eq_some_iff.1 this).1
          rw [chunks_length] at this; omega
      · unfold initMu
        cases hb : Nat.beq g 0 with
        | false => rfl
        | true => have := Nat.eq_of_beq_eq_true hb; omega
      · rw [(chunks_get _ _ _ _ _ _ (Tr.ofList_some _ _ _ _ hg)).2.1]; exact Nat.zero_le _
      · obtain ⟨y, _, hy, hg0, hb, hs, hn, _⟩ := initMu_some hm
        rw [hf] at hy
        cases hy
        subst hb hs hn
        refine ⟨fun hh => (by cases hh), Nat.zero_mod _, cs, e, (0, 0), h2, Or.inl rfl, ?_, fun r l gw hr _ _ => ?_⟩
        · have := (h3 (initMu gs)).length; simpa using this.symm
        · exact chunk_row h1 (.of (h3 _)) (Tr.ofList_some _ _ _ _ hr)
def bitsOk (m : Nat) (gs : List Gv) : Bool := Nat.blt m (2 ^ 64) && (List.range 64).all fun g => bif inM m g then (match gs.find? fun x => Key.beq (Key.ofNat x.g) (Key.ofNat g) with | some x => Nat.beq x.g g | none => false) else true
theorem ini_GR {E : Env} {gs : List Gv} (h : bitsOk E.gm gs = true) : GR E (initMu gs) := by
  intro g hg
  unfold bitsOk at h
  simp only [Bool.and_eq_true, List.all_eq_true, List.mem_range] at h
  obtain ⟨h1, h2⟩ := h
  have hlt : g < 64 := by
    rcases Nat.lt_or_ge g 64 with h' | h'
    · exact h'
    · exfalso
      have e1 : Nat.land E.gm (Nat.pow 2 g) = Nat.pow 2 g := Nat.eq_of_beq_eq_true hg
      have e2 : E.gm &&& 2 ^ g ≤ E.gm := Nat.and_le_left
      have e3 : E.gm &&& 2 ^ g = 2 ^ g := e1
      have e4 : E.gm < 2 ^ 64 := by simpa [Nat.blt_eq] using h1
      have e5 : 2 ^ 64 ≤ 2 ^ g := Nat.pow_le_pow_right (by decide) h'
      omega
  have := h2 g hlt
  have hg' : inM E.gm g = true := hg
  rw [hg'] at this
  replace this : (match gs.find? fun x => Key.beq (Key.ofNat x.g) (Key.ofNat g) with | some x => Nat.beq x.g g | none => false) = true := this
  split at this
  · rename_i x hx
    have e := Nat.eq_of_beq_eq_true this
    refine ⟨x.l.length, ?_⟩
    unfold initMu
    rw [hx, ← e]
    rfl
  · cases this
section
variable {E : Env} {P : Program} (hE : EnvOk E P) {W : World}
include hE
omit hE in
theorem laidVars_mem {n : String} {d : DataW Unit} : ∀ {laid : List (String × DataW Unit)} {ps : List MemPlace}, DataW.LaidVars P W laid ps → (n, d) ∈ laid →
    ∃ g t cs fuel p, P.globalNamed n = some g ∧ (P.globals[g]?).map (·.type) = some t ∧ W.var? P n = some cs ∧ DataW.trod (fun _ => ()) P W 0 (fun _ => true) false fuel t cs.toList = some (d, p) ∧
      ∀ q ∈ MemPlace.row ⟨g, 0, none⟩ cs.size, q ∈ ps
  | [], _, _, h => by cases h
  | (m, d') :: r, ps, hl, h => by
    obtain ⟨g, t, cs, fuel, p, q, h1, h2, h3, h4, h5, e⟩ := hl
    rcases List.mem_cons.1 h with h | h
    · cases h
      exact ⟨g, t, cs, fuel, p, h1, h2, h3, h4, fun x hx => by rw [e]; simp [hx]⟩
    · obtain ⟨g', t', cs', fuel', p', a1, a2, a3, a4, a5⟩ := laidVars_mem h5 h
      exact ⟨g', t', cs', fuel', p', a1, a2, a3, a4, fun x hx => by rw [e]; simp [a5 x hx]⟩
omit hE in
theorem laidMetH_data {laid : List (String × DataW Unit)} (h : laidMetH P laid W) : laidMet P (laid.filter fun x => x.2.handleName?.isNone) W := by
  unfold laidMetH at h
  split at h
  · rename_i hn
    have : (laid.filter fun x => x.2.handleName?.isNone) = laid := by
      rw [List.filter_eq_self]
      intro x hx
      rw [List.filter_eq_nil_iff] at hn
      have := hn x hx
      cases hh : x.2.handleName? with
      | none => rfl
      | some y => rw [hh] at this; exact absurd rfl this
    rw [this]; exact h
  · exact h.1
theorem ini_met {laid : List (String × DataW Unit)} (h : laidMetH P laid W) : ∀ {ks : List (Nat × Nat)} {gs : List Gv}, iniAll E laid ks = some gs → IniR gs W
  | [], gs, hg => by simp only [iniAll] at hg; cases hg; intro x hx; cases hx
  | (i, sz) :: r, gs, hg => by
    simp only [iniAll] at hg
    split at hg
    · rename_i x l h1 h2
      cases hg
      have ih := ini_met h h2
      intro y hy
      rcases List.mem_cons.1 hy with rfl | hy
      · unfold ini1 at h1
        split at h1
        · rename_i n d hi
          split at h1
          · rename_i g hn
            split at h1
            · rename_i t ht
              split at h1
              · rename_i l' hl
                have key : ∀ b : Bool, (bif b then some (Gv.mk g sz l') else none) = some y → b = true ∧ y = ⟨g, sz, l'⟩ := fun b hb => by cases b with | false => cases hb | true => cases hb; exact ⟨rfl, rfl⟩
                obtain ⟨hb, rfl⟩ := key _ h1
                simp only [Bool.and_eq_true] at hb
                obtain ⟨⟨b1, b2⟩, b3⟩ := hb
                have hmem : (n, d) ∈ laid.filter fun x => x.2.handleName?.isNone := by
                  rw [List.mem_filter]
                  exact ⟨List.mem_of_getElem? hi, b1⟩
                obtain ⟨ps, m1, m2, m3⟩ := laidMetH_data h
                obtain ⟨g', t', cs, fuel, p, a1, a2, a3, a4, a5⟩ := laidVars_mem m1 hmem
                rw [hE.prog] at hn ht
                rw [hn] at a1
                cases a1
                rw [ht] at a2
                cases a2
                have hv : ∀ μ, VRs μ l' cs.toList := fun μ => flatT_sound hE _ _ _ _ _ _ _ a4 hl
                have hlen := (hv (fun _ _ => none)).length
                have hpos : 0 < l'.length := by simpa [Nat.blt_eq] using b2
                refine ⟨Nat.eq_of_beq_eq_true b3, ?_⟩
                have hcell : MemPlace.cell g 0 ∈ ps := a5 _ (by
                  simp only [Array.length_toList] at hlen
                  simp [MemPlace.row]
                  omega)
                obtain ⟨⟨c, e, hc⟩, _⟩ := m3 _ _ hcell
                unfold World.var? at a3
                rw [hn] at a3
                simp only [Option.bind_some, hc, Option.some.injEq] at a3
                subst a3
                exact ⟨_, e, hc, hv⟩
              · cases h1
            · cases h1
          · cases h1
        · cases h1
      · exact ih y hy
    · cases hg
end
/-! ## the environment -/
def namesOk (fs : List Func) : Bool := fs.all fun f => bif f.body.isSome then bnot (f.name == "runtime.NumGoroutine") else true
theorem envOk {P : Program} {sum gm root : Nat} (hn : namesOk P.funcs.toList = true) (hm : P.follows .mixedOrders = true) : EnvOk { Env.of P sum gm with root := root } P where
  prog := rfl
  ts := fun t i h => by
    have := Tr.ofList_some _ _ _ _ h
    have h1 : P.types[t]? = some i := by simpa using this
    have h2 : t < P.types.size := (Array.getElem?_eq_some_iff.1 h1).1
    show Tables.info? P.toTables t = some i
    unfold Tables.info?
    rw [if_pos h2]
    exact h1
  fs := fun f fn h => by
    have := Tr.ofList_some _ _ _ _ h
    simpa using this
  names := fun f fn h hb => by
    have := Tr.ofList_some _ _ _ _ h
    have hm := List.mem_of_getElem? this
    unfold namesOk at hn
    rw [List.all_eq_true] at hn
    have := hn _ hm
    rw [hb] at this
    replace this : bnot (fn.name == "runtime.NumGoroutine") = true := this
    cases h : fn.name == "runtime.NumGoroutine" with
    | true => rw [h] at this; cases this
    | false => rfl
  mixed := hm
def initHv (gs : List Gv) (ivs : List (Key × Int × Int)) : Hp := ivs.foldl (fun h x => hset x.1 (.iv x.2.1 x.2.2) h) (initH gs)
def ivsOk (gs : List Gv) (ivs : List (Key × Int × Int)) : Bool := ivs.all fun x => gs.all fun y => bnot (Key.beq (Key.ofNat y.g) x.1)
theorem ini_HRv {gs : List Gv} {W : World} (h : IniR gs W) {B : Nat} : ∀ {ivs : List (Key × Int × Int)} {h0 : Hp}, HR B (initMu gs) h0 W → ivsOk gs ivs = true → (∀ x ∈ ivs, x.2.1 ≤ Val.n x.1 ∧ Val.n x.1 ≤ x.2.2) →
    HR B (initMu gs) (ivs.foldl (fun h x => hset x.1 (.iv x.2.1 x.2.2) h) h0) W
  | [], h0, k, _, _ => k
  | x :: ivs, h0, k, hok, hv => by
    unfold ivsOk at hok
    rw [List.all_cons, Bool.and_eq_true] at hok
    refine ini_HRv h (ivs := ivs) ?_ hok.2 fun y hy => hv y (List.mem_cons_of_mem _ hy)
    refine ⟨k.inj, k.lt, fun f' => ?_, k.side, k.fk, k.start⟩
    by_cases e : x.1 = f'
    · subst e
      rw [hget_hset]
      refine ⟨fun g => ?_, hv x (List.mem_cons_self ..)⟩
      cases hm : initMu gs x.1 g with
      | none => rfl
      | some y =>
        obtain ⟨b, s, n⟩ := y
        obtain ⟨z, hz, _, _, e1, _, _, e⟩ := initMu_some hm
        have := List.all_eq_true.1 hok.1 z hz
        rw [e, e1, Key.beq_refl] at this
        cases this
    · rw [hget_hset_ne e]; exact k.obj f'
theorem ini_callsV {E : Env} {P : Program} (hF : FkOk) (hE : EnvOk E P) {gs : List Gv} {W : World} (hi : IniR gs W) (hb : bitsOk E.gm gs = true)
    (hS : hasBody E E.sum = true → ∀ w, IniR gs w → Calls P E.sum #[] w (fun e w' => e = .returned (.bool true) ∧ Ext w.heap.size w w')) {n : Nat} {vs : List AV} {args : Array Value} {nx : Key}
    {ivs : List (Key × Int × Int)} (hok : ivsOk gs ivs = true) (hiv : ∀ x ∈ ivs, x.2.1 ≤ Val.n x.1 ∧ Val.n x.1 ≤ x.2.2)
    (hv : ∀ μ, VRs μ vs args.toList) (hrun : startB E n E.root vs (initHv gs ivs) nx = true) :
    Calls P E.root args W (fun e w' => e = .returned (.bool true) ∧ Ext W.heap.size W w') :=
  ev_calls hE (fun cs w he hbd => hS hbd w (hi.ext he)) (hv _) (ini_HRv hi (ini_HR hF hi _) hok hiv) (ini_GR hb) hrun
theorem ini_calls {E : Env} {P : Program} (hF : FkOk) (hE : EnvOk E P) {gs : List Gv} {W : World} (hi : IniR gs W) (hb : bitsOk E.gm gs = true)
    (hS : hasBody E E.sum = true → ∀ w, IniR gs w → Calls P E.sum #[] w (fun e w' => e = .returned (.bool true) ∧ Ext w.heap.size w w')) {n : Nat} {vs : List AV} {args : Array Value} {nx : Key}
    (hv : ∀ μ, VRs μ vs args.toList) (hrun : startB E n E.root vs (initH gs) nx = true) :
    Calls P E.root args W (fun e w' => e = .returned (.bool true) ∧ Ext W.heap.size W w') :=
  ev_calls hE (fun cs w he hbd => hS hbd w (hi.ext he)) (hv _) (ini_HR hF hi _) (ini_GR hb) hrun
end
end Go.Ev

namespace Go.Ev
noncomputable section
set_option linter.unusedSectionVars false
variable [Fk]
/-! a long run in pieces: the states between them stand as text -/
def startC (E : Env) (n : Nat) (f : Nat) (vs : List AV) (h : Hp) (nx : Key) : Sp :=
  Sp.rec (motive := fun _ => Sp) (fun c => runC E n c) (fun v => .done v) (fun l => .br l) .fail (enter E f vs false [] h nx)
theorem run_succ (E : Env) (n : Nat) (c : Cfg) : run E (n + 1) c = match step E c with
    | .go c' => run E n c'
    | .done v => asBool v false fun b => b
    | .br l => allB (run E n) l
    | .fail => false := by
  show Sp.rec (motive := fun _ => Bool) _ _ _ _ (step E c) = _
  cases step E c <;> rfl
theorem runC_succ (E : Env) (n : Nat) (c : Cfg) : runC E (n + 1) c = match step E c with
    | .go c' => runC E n c'
    | s => s := by
  show Sp.rec (motive := fun _ => Sp) _ _ _ _ (step E c) = _
  cases step E c <;> rfl
theorem run_split {E : Env} : ∀ {n m : Nat} {c c' : Cfg}, runC E n c = .go c' → run E m c' = true → run E (n + m) c = true
  | 0, m, c, c', h, k => by
    have : c = c' := by
      have h' : Sp.go c = Sp.go c' := h
      cases h'; rfl
    subst this
    rw [Nat.zero_add]; exact k
  | n + 1, m, c, c', h, k => by
    rw [runC_succ] at h
    rw [show n + 1 + m = (n + m) + 1 from by omega, run_succ]
    split at h
    · rename_i c1 h1
      rw [h1]; exact run_split h k
    · rename_i s hs
      exact absurd h (hs c')
theorem startB_split {E : Env} {n m f : Nat} {vs : List AV} {h : Hp} {nx : Key} {c' : Cfg} (hs : startC E n f vs h nx = .go c') (k : run E m c' = true) : startB E (n + m) f vs h nx = true := by
  unfold startC at hs
  unfold startB
  cases hen : enter E f vs false [] h nx with
  | go c => rw [hen] at hs; exact run_split hs k
  | _ => rw [hen] at hs; cases hs
/-! short words for states that stand as text -/
def I (n : Nat) : AV := .int .i64 (.ofNat n)
def U (n : Nat) : AV := .int .u8 (.ofNat n)
def O1 : N Ob := N.all .none
def O2 : N (N Ob) := N.all O1
def O3 : N (N (N Ob)) := N.all O2
def O4 : N (N (N (N Ob))) := N.all O3
def T1 : N AV := N.all .top
def T2 : N (N AV) := N.all T1
def bodyL (E : Env) (f : Nat) : List Ci := opt (compBody E f) [] fun b => b
def nthC : List Ci → Nat → Ci
  | [], _ => .bad
  | c :: _, 0 => c
  | _ :: l, n + 1 => nthC l n
def inA : Ci → List Ci
  | .cond _ a _ => a
  | .block _ b => b
  | .loop b => b
  | _ => []
def inB : Ci → List Ci
  | .cond _ _ b => b
  | _ => []
def regL : Ci → List Ins
  | .reg l => l
  | .mid l => l
  | _ => []
def scC : Ci → Code
  | .scope c => c
  | _ => .ret
def inS (E : Env) (f : Nat) : Ci → List Ci
  | .scope c => compC E (cxOf E f) [] c
  | _ => []
def rfA : Ci → Code
  | .rangeF _ _ a _ => a
  | _ => .ret
def rfB : Ci → Code
  | .rangeF _ _ _ b => b
  | _ => .ret
def dropC : Nat → List Ci → List Ci
  | 0, l => l
  | _ + 1, [] => []
  | n + 1, _ :: l => dropC n l
def dropI : Nat → List Ins → List Ins
  | 0, l => l
  | _ + 1, [] => []
  | n + 1, _ :: l => dropI n l
end
end Go.Ev

namespace Go.Ev
set_option linter.unusedSectionVars false
variable [Val] [Fk]
/-! what a run that leaves what was there says of a row's post -/
theorem keptBut_of_ext {W W' : World} (he : Ext W.heap.size W W') (may : MemPlace → Prop) : W.keptBut W' may := by
  refine ⟨he.os, he.output, fun i hi => ?_⟩
  rw [he.block i hi]
  cases W.heap[i]? with
  | none => rfl
  | some o => cases o <;> first | exact ⟨rfl, rfl, rfl, fun _ _ => rfl⟩ | exact .inr ⟨rfl, rfl⟩ | rfl
theorem post_of_ext {H : Type} {enc : TypeId × Value → H} {P : Program} {f : Func} {s : ChangeSpec} {apart fresh handsOn : Bool} {W W' : World} {args : Array Value} {v : Value} {ds gs : List (DataW H)} {before pa pv : List MemPlace}
    (hW : DataW.Whole enc P f.params.toList s.vars apart W args.toList ds gs before)
    (hres : ∀ (b : Nat) (sp : Nat → Bool) (hd : Bool), DataW.TrodAll enc P W' b sp hd f.resultTypes.toList (v.resultList f.resultTypes.size) (s.fn H (ds ++ gs)).results [])
    (hargs : ∀ sp : Nat → Bool, (∀ p ∈ before, sp p.block = true) → DataW.TrodAll enc P W' 0 sp true f.params.toList args.toList (s.fn H (ds ++ gs)).args pa)
    (hvars : ∀ sp : Nat → Bool, (∀ p ∈ before, sp p.block = true) → DataW.TrodVars enc P W' sp s.vars (s.fn H (ds ++ gs)).vars pv)
    (he : Ext W.heap.size W W') : s.post enc P f apart fresh handsOn false W args v W' := by
  have hold : ∀ p ∈ before, (fun b => decide (b < W.heap.size)) p.block = true := fun p hp => by simpa using hW.lt p hp
  exact ⟨ds, gs, before, [], pa, pv, hW, hres _ _ _, hargs _ hold, hvars _ hold, keptBut_of_ext he _, fun h => by cases h⟩
end Go.Ev

namespace Go.Ev
noncomputable section
set_option linter.unusedVariables false
set_option linter.unusedSectionVars false
variable [Val] [Fk]
/-! what any argument of a plain type is -/
def absF (E : Env) (go : TypeId → Option (List AV)) : Nat → List (TypeId × Nat) → Option (List AV)
  | _, [] => some []
  | at_, (t, o) :: fs => bif Nat.beq o at_ then (match E.size t, go t with
      | some n, some l => bif Nat.beq l.length n then (match absF E go (at_ + n) fs with
          | some r => some (l ++ r)
          | none => none) else none
      | _, _ => none) else none
def absT (E : Env) : Nat → TypeId → Option (List AV)
  | 0, _ => none
  | n + 1, t =>
    match E.und t with
    | some .bool => some [.ub]
    | some (.int .i64) => some [.rng .i64 (-9223372036854775808) 9223372036854775807]
    | some (.int .u8) => some [.rng .u8 0 255]
    | some (.int _) => some [.any]
    | some .string => some [.any]
    | some (.slice _) => some [.sl 0 9223372036854775807]
    | some (.struct fs) => (match E.size t, absF E (absT E n) 0 (fs.toList.map fun f => (f.type, f.offset)) with
        | some n, some l => bif Nat.beq l.length n then some l else none
        | _, _ => none)
    | some (.array k e) => (match E.size t, absF E (absT E n) 0 ((List.range k).map fun i => (e, i * E.P.cellsOf e)) with
        | some n, some l => bif Nat.beq l.length n then some l else none
        | _, _ => none)
    | _ => none
section
variable {E : Env} {P : Program} (hE : EnvOk E P) {w : World} {μ : Mu} {H : Type} {enc : TypeId × Value → H} {base : Nat} {sp : Nat → Bool} {held : Bool}
include hE
theorem absF_sound {fuel : Nat} {go : TypeId → Option (List AV)} {cs : List Value}
    (ih : ∀ t c x l, DataW.trod enc P w base sp held fuel t c = some x → go t = some l → VRs μ l c) {α : Type} (τ : α → TypeId × Nat) :
    ∀ (as : List α) (at_ : Nat) (xs : List (DataW H × List MemPlace)) (l : List AV),
      as.mapM (fun a => DataW.trod enc P w base sp held fuel (τ a).1 ((cs.drop (τ a).2).take (P.cellsOf (τ a).1))) = some xs →
      absF E go at_ (as.map τ) = some l → VRs μ l ((cs.drop at_).take l.length)
  | [], at_, xs, l, h, hl => by
    simp only [List.map_nil, absF] at hl
    cases hl
    simp only [List.length_nil, List.take_zero]
    exact .nil
  | a :: as, at_, xs, l, h, hl => by
    obtain ⟨x, r, hx, hr, rfl⟩ := mapM_cons_some h
    rcases ht : τ a with ⟨t, o⟩
    simp only [List.map_cons, ht] at hl
    rw [ht] at hx
    replace hl : (bif Nat.beq o at_ then (match E.size t, go t with
          | some n, some l => bif Nat.beq l.length n then (match absF E go (at_ + n) (as.map τ) with
              | some r => some (l ++ r)
              | none => none) else none
          | _, _ => none) else none) = some l := hl
    cases hb : Nat.beq o at_ with
    | false => rw [hb] at hl; cases hl
    | true =>
      rw [hb] at hl
      have ho : o = at_ := Nat.eq_of_beq_eq_true hb
      subst ho
      simp only [cond_true] at hl
      split at hl
      · rename_i n l1 hn hg
        cases hb2 : Nat.beq l1.length n with
        | false => rw [hb2] at hl; cases hl
        | true =>
          rw [hb2] at hl
          have hln : l1.length = n := Nat.eq_of_beq_eq_true hb2
          simp only [cond_true] at hl
          split at hl
          · rename_i l2 hf
            cases hl
            have i1 := ih _ _ x l1 hx hg
            have i2 := absF_sound ih τ as (o + n) r l2 hr hf
            rw [hE.cellsOf hn] at i1
            rw [List.length_append, List.take_add, hln, List.drop_drop]
            exact i1.append i2
          · cases hl
      · cases hl
omit hE in
theorem trod_structG {fuel : Nat} {t : TypeId} {fs : Array Field} {cs : List Value} {x : DataW H × List MemPlace} (hu : P.underlying t = some (.struct fs))
    (h : DataW.trod enc P w base sp held (fuel + 1) t cs = some x) : cs.length = P.cellsOf t ∧ ∃ xs : List (DataW H × List MemPlace),
      fs.toList.mapM (fun f => DataW.trod enc P w base sp held fuel f.type ((cs.drop f.offset).take (P.cellsOf f.type))) = some xs := by
  unfold DataW.trod at h
  rw [hu] at h
  split at h <;> simp_all
  obtain ⟨hl, xs, hp, hd⟩ := h
  exact ⟨xs, hp⟩
omit hE in
theorem trod_arrayG {fuel : Nat} {t e : TypeId} {n : Nat} {cs : List Value} {x : DataW H × List MemPlace} (hu : P.underlying t = some (.array n e))
    (h : DataW.trod enc P w base sp held (fuel + 1) t cs = some x) : cs.length = P.cellsOf t ∧ ∃ xs : List (DataW H × List MemPlace),
      (List.range n).mapM (fun i => DataW.trod enc P w base sp held fuel e ((cs.drop (i * P.cellsOf e)).take (P.cellsOf e))) = some xs := by
  unfold DataW.trod at h
  rw [hu] at h
  split at h <;> simp_all
  obtain ⟨hl, xs, hp, hd⟩ := h
  exact ⟨xs, hp⟩
theorem absT_sound : ∀ (fuel n : Nat) (t : TypeId) (cs : List Value) (x : DataW H × List MemPlace) (l : List AV),
    DataW.trod enc P w base sp held fuel t cs = some x → absT E n t = some l → VRs μ l cs
  | 0, _, _, _, _, _, h, _ => by simp [DataW.trod] at h
  | fuel + 1, 0, _, _, _, _, _, h => by simp [absT] at h
  | fuel + 1, n + 1, t, cs, x, l, h, hl => by
    unfold absT at hl
    split at hl
    · rename_i hu
      cases hl
      obtain ⟨b', rfl, _⟩ := DataW.trod_bool (hE.und hu) h
      exact .cons (by simp only [VR]; exact ⟨_, rfl⟩) .nil
    · rename_i hu
      cases hl
      obtain ⟨m, rfl, _, hw⟩ := DataW.trod_int (hE.und hu) h
      simp only [Lit.wf, Bool.and_eq_true, decide_eq_true_eq] at hw
      exact .cons (by simp only [VR]; exact ⟨m, rfl, hw.1, hw.2⟩) .nil
    · rename_i hu
      cases hl
      obtain ⟨m, rfl, _, hw⟩ := DataW.trod_int (hE.und hu) h
      simp only [Lit.wf, Bool.and_eq_true, decide_eq_true_eq] at hw
      exact .cons (by simp only [VR]; exact ⟨m, rfl, hw.1, hw.2⟩) .nil
    · rename_i k hu
      cases hl
      obtain ⟨m, rfl, _, hw⟩ := DataW.trod_int (hE.und hu) h
      exact .cons (by simp only [VR]; exact trivial) .nil
    · rename_i hu
      cases hl
      obtain ⟨s, rfl, _⟩ := DataW.trod_string (hE.und hu) h
      exact .cons (by simp only [VR]; exact trivial) .nil
    · rename_i el hu
      cases hl
      rcases DataW.trod_slice (hE.und hu) h with ⟨rfl, _⟩ | ⟨a, len, cap, elems, rest, n', _, rfl, _, _, h1, h2, _⟩
      · exact .cons (by simp only [VR]; exact ⟨none, 0, 0, rfl, Nat.zero_le _, Nat.zero_le _⟩) .nil
      · have h3 : maxLen = 9223372036854775807 := by decide
        exact .cons (by simp only [VR]; exact ⟨some a, len, cap, rfl, Nat.zero_le _, by omega⟩) .nil
    · rename_i fs hu
      obtain ⟨hlen, xs, hp⟩ := trod_structG (hE.und hu) h
      split at hl
      · rename_i k l' hk hf
        cases hb : Nat.beq l'.length k with
        | false => rw [hb] at hl; cases hl
        | true =>
          rw [hb] at hl
          have hln : l'.length = k := Nat.eq_of_beq_eq_true hb
          obtain rfl : l' = l := Option.some.inj hl
          have := absF_sound hE (μ := μ) (cs := cs) (fun t c x l h1 h2 => absT_sound fuel n t c x l h1 h2) (fun f : Field => (f.type, f.offset)) _ 0 xs l' hp hf
          rw [hE.cellsOf hk] at hlen
          rw [List.drop_zero, hln, ← hlen, List.take_length] at this
          exact this
      · cases hl
    · rename_i k e hu
      obtain ⟨hlen, xs, hp⟩ := trod_arrayG (hE.und hu) h
      split at hl
      · rename_i k' l' hk hf
        cases hb : Nat.beq l'.length k' with
        | false => rw [hb] at hl; cases hl
        | true =>
          rw [hb] at hl
          have hln : l'.length = k' := Nat.eq_of_beq_eq_true hb
          obtain rfl : l' = l := Option.some.inj hl
          have hf' : absF E (absT E n) 0 ((List.range k).map fun i => (e, i * P.cellsOf e)) = some l' := by rw [← hE.prog]; exact hf
          have := absF_sound hE (μ := μ) (cs := cs) (fun t c x l h1 h2 => absT_sound fuel n t c x l h1 h2) (fun i : Nat => (e, i * P.cellsOf e)) _ 0 xs l' hp hf'
          rw [hE.cellsOf hk] at hlen
          rw [List.drop_zero, hln, ← hlen, List.take_length] at this
          exact this
      · cases hl
    · cases hl
theorem absV_sound {r : Reach} {b0 n : Nat} {t : TypeId} {v : Value} {d : DataW H} {ps : List MemPlace} {l : List AV} (ha : (match E.und t with | some td => isAggT td | none => false) = true)
    (hok : Value.okWide P w r b0 t v) (h : DataW.Trod enc P w base sp held t v d ps) (hl : absT E n t = some l) : VR μ (.agg l) v := by
  obtain ⟨fuel, hf⟩ := h
  obtain ⟨td, hu, ha⟩ : ∃ td, E.und t = some td ∧ isAggT td = true := by
    split at ha
    · rename_i td hu; exact ⟨td, hu, ha⟩
    · cases ha
  have hv : ∃ cs, v = .agg cs := by
    unfold Value.okWide at hok
    rw [hE.und hu] at hok
    cases td <;> first | (obtain ⟨cs, e, _⟩ := hok; exact ⟨cs, e⟩) | cases ha
  obtain ⟨cs, rfl⟩ := hv
  simp only [VR]
  exact ⟨cs, rfl, absT_sound hE _ _ _ _ _ _ hf hl⟩
end
theorem below_of_ext {B : Nat} {W W' : World} (he : Ext B W W') : Go.RowKit.Below B W W' := ⟨he.os, he.tape, he.output, he.size, he.block⟩
theorem post_of_ext' {H : Type} {enc : TypeId × Value → H} {P : Program} {f : Func} {s : ChangeSpec} {apart fresh handsOn : Bool} {W W' : World} {args : Array Value} {v : Value} {ds gs : List (DataW H)} {before pa pv : List MemPlace}
    (hW : DataW.Whole enc P f.params.toList s.vars apart W args.toList ds gs before)
    (hres : ∀ (b : Nat) (sp : Nat → Bool) (hd : Bool), DataW.TrodAll enc P W' b sp hd f.resultTypes.toList (v.resultList f.resultTypes.size) (s.fn H (ds ++ gs)).results [])
    (hargs : DataW.TrodAll enc P W' 0 (fun b => decide (b < W.heap.size)) true f.params.toList args.toList (s.fn H (ds ++ gs)).args pa)
    (hvars : DataW.TrodVars enc P W' (fun b => decide (b < W.heap.size)) s.vars (s.fn H (ds ++ gs)).vars pv)
    (he : Ext W.heap.size W W') : s.post enc P f apart fresh handsOn false W args v W' :=
  ⟨ds, gs, before, [], pa, pv, hW, hres _ _ _, hargs, hvars, keptBut_of_ext he _, fun h => by cases h⟩
end
end Go.Ev

namespace Go.Ev
set_option linter.unusedVariables false
set_option linter.unusedSectionVars false
set_option linter.unusedSimpArgs false
noncomputable section
variable [Fk]
/-! ## memory that is left behind: objects that nothing leads to are dropped -/
def okK (h : Hp) (k : Key) : Bool := bnot (hget k h).isNone
def okFn (h : Hp) : AFn → Bool
  | .yield l => okK h l
  | .fn _ => true
mutual
def okA (h : Hp) : AV → Bool
  | .ptr f _ _ => okK h f
  | .slice f _ _ _ _ _ _ => okK h f
  | .nsl f _ _ _ _ _ _ _ => okK h f
  | .nix f _ _ _ _ _ => okK h f
  | .map f => okK h f
  | .func fn a b => cnd (okFn h fn) (cnd (okAs h a) (okAs h b) false) false
  | .iface _ v => okA h v
  | .agg l => okAs h l
  | .tuple l => okAs h l
  | .stx l => okAs h l
  | _ => true
def okAs (h : Hp) : List AV → Bool
  | [] => true
  | a :: l => cnd (okA h a) (okAs h l) false
end
def N.allB {α : Type} (f : α → Bool) (n : N α) : Bool :=
  N.rec (motive := fun _ => Bool) (fun a b c d e g i j => cnd (f a) (cnd (f b) (cnd (f c) (cnd (f d) (cnd (f e) (cnd (f g) (cnd (f i) (f j) false) false) false) false) false) false) false) n
def okTm (h : Hp) (t : Tm) : Bool := N.allB (N.allB (N.allB (okA h))) t
def okLo (h : Hp) : Lo → Bool
  | .mk tm a b c => cnd (okTm h tm) (cnd (okA h a) (cnd (okA h b) (okA h c) false) false) false
def okTr (h : Hp) : Tr Row → Bool
  | .e => true
  | .lf (.mk l _) => okAs h l
  | .n a b => cnd (okTr h a) (okTr h b) false
def okEs (h : Hp) : List En → Bool
  | [] => true
  | .mk k v _ :: l => cnd (okA h k) (cnd (okA h v) (okEs h l) false) false
def okDf (h : Hp) : Df → Bool
  | .fn f a b => cnd (okFn h f) (cnd (okAs h a) (okAs h b) false) false
  | .bi _ _ => true
  | .del _ m k => cnd (okA h m) (okA h k) false
  | .collected r => okK h r
def okDfs (h : Hp) : List Df → Bool
  | [] => true
  | d :: l => cnd (okDf h d) (okDfs h l) false
def okRows (h : Hp) : List (List AV) → Bool
  | [] => true
  | a :: l => cnd (okAs h a) (okRows h l) false
def okOb (h : Hp) : Ob → Bool
  | .lst _ _ _ _ sfx => okRows h sfx
  | .cells _ _ _ _ _ c => okTr h c
  | .map es _ => okEs h es
  | .mapu es => okEs h es
  | .mapIter (some m) _ _ _ => okK h m
  | .loop _ _ _ tm _ _ _ df _ => cnd (okTm h tm) (okK h df) false
  | .deferred (some l) => okDfs h l
  | _ => true
def okPEs (h : Hp) : List PE → Bool
  | [] => true
  | .mk v _ :: l => cnd (okA h v) (okPEs h l) false
def okMd (h : Hp) : Md → Bool
  | .panicking l => okPEs h l
  | _ => true
def okFI (h : Hp) : FI → Bool
  | .mk _ ds md _ none => cnd (okDfs h ds) (okMd h md) false
  | .mk _ ds md _ (some l) => cnd (okK h l) (cnd (okDfs h ds) (okMd h md) false) false
def okTd (h : Hp) : List Ci → Bool
  | [] => true
  | .inRF l :: k => cnd (okK h l) (okTd h k) false
  | .endRF l :: k => cnd (okK h l) (okTd h k) false
  | _ :: k => okTd h k
def okFrs (h : Hp) : List Fr → Bool
  | [] => true
  | .mk L td fi :: l => cnd (okLo h L) (cnd (okTd h td) (cnd (okFI h fi) (okFrs h l) false) false) false
def gcH (ks : List Key) (h : Hp) : Hp :=
  List.rec (motive := fun _ => Hp → Hp) (fun h' => h') (fun k _ ih h' => ih (hset k (hget k h) h')) ks hp0
def okObs (h : Hp) : List Key → Bool
  | [] => true
  | k :: l => cnd (okOb h (hget k h)) (okObs h l) false
def okGm (gm : Nat) (h : Hp) : Nat → Bool
  | 0 => true
  | n + 1 => cnd (inM gm n) (cnd (okK h (Key.ofNat n)) (okGm gm h n) false) (okGm gm h n)
def gcOk (E : Env) (ks : List Key) (h' : Hp) : Cfg → Bool
  | .mk L td fi cs _ _ => cnd (okLo h' L) (cnd (okTd h' td) (cnd (okFI h' fi) (cnd (okFrs h' cs) (cnd (okObs h' ks) (cnd (Nat.blt E.gm (2 ^ 64)) (okGm E.gm h' 64) false) false) false) false) false) false
def gcRun (E : Env) (ks : List Key) (n : Nat) (c : Cfg) : Option Cfg :=
  Sp.rec (motive := fun _ => Option Cfg) (fun c => Cfg.rec (motive := fun _ => Option Cfg) (fun L td fi cs h nx => cnd (gcOk E ks (gcH ks h) (.mk L td fi cs h nx)) (some (.mk L td fi cs (gcH ks h) nx)) none) c) (fun _ => none) (fun _ => none) none (runC E n c)
def gcStart (E : Env) (ks : List Key) (n : Nat) (f : Nat) (vs : List AV) (h : Hp) (nx : Key) : Option Cfg :=
  Sp.rec (motive := fun _ => Option Cfg) (fun c => gcRun E ks n c) (fun _ => none) (fun _ => none) none (enter E f vs false [] h nx)
inductive Ok (E : Env) : Cfg → Prop where
  | run {n c} : run E n c = true → Ok E c
  | gc {n ks c c'} : gcRun E ks n c = some c' → Ok E c' → Ok E c
  | br {n c l} : runC E n c = .br l → (∀ c' ∈ l, Ok E c') → Ok E c
variable [Val]
def res (h : Hp) (μ : Mu) : Mu := fun f g => cnd (hget f h).isNone none (μ f g)
theorem res_some {h : Hp} {μ : Mu} {f : Key} {g : Nat} {x : Nat × Nat × Nat} (k : res h μ f g = some x) : (hget f h).isNone = false ∧ μ f g = some x := by
  unfold res at k
  cases hn : (hget f h).isNone with
  | true => rw [hn] at k; cases k
  | false => rw [hn] at k; exact ⟨rfl, k⟩
theorem okK_inv {h : Hp} {k : Key} (e : okK h k = true) : (hget k h).isNone = false := by
  unfold okK at e
  cases hn : (hget k h).isNone with
  | true => rw [hn] at e; cases e
  | false => rfl
theorem res_of {h : Hp} {μ : Mu} {f : Key} {g : Nat} (e : okK h f = true) : res h μ f g = μ f g := by
  unfold res; rw [okK_inv e]; rfl
theorem res_none {h : Hp} {μ : Mu} {f : Key} {g : Nat} (e : μ f g = none) : res h μ f g = none := by
  unfold res
  cases (hget f h).isNone with
  | true => rfl
  | false => exact e
theorem and2 {a b : Bool} (h : cnd a b false = true) : a = true ∧ b = true := by
  cases a with
  | false => cases h
  | true => exact ⟨rfl, h⟩
theorem okFn_r {h : Hp} {μ : Mu} : ∀ {f : AFn} {F : Fn}, okFn h f = true → FnR μ f F → FnR (res h μ) f F
  | .fn f, F, _, hf => hf
  | .yield l, F, e, ⟨b, s, n, hm, hF⟩ => ⟨b, s, n, by rw [res_of e]; exact hm, hF⟩
mutual
theorem okA_r {h : Hp} {μ : Mu} : ∀ (a : AV) (v : Value), okA h a = true → VR μ a v → VR (res h μ) a v
  | .top, _, _ => by simp only [VR]; exact fun _ => trivial
  | .any, v, _ => by simp only [VR]; exact id
  | .ub, v, _ => by simp only [VR]; exact id
  | .bool b, v, _ => by simp only [VR]; exact id
  | .int k n, v, _ => by simp only [VR]; exact id
  | .rng k lo hi, v, _ => by simp only [VR]; exact id
  | .md k m r, v, _ => by simp only [VR]; exact id
  | .sl lo hi, v, _ => by simp only [VR]; exact id
  | .str s, v, _ => by simp only [VR]; exact id
  | .ptr0, v, _ => by simp only [VR]; exact id
  | .slice0, v, _ => by simp only [VR]; exact id
  | .map0, v, _ => by simp only [VR]; exact id
  | .nilFunc, v, _ => by simp only [VR]; exact id
  | .nilIface, v, _ => by simp only [VR]; exact id
  | .sx k f c lo hi, v, _ => by simp only [VR]; exact id
  | .le f t neg, v, _ => by simp only [VR]; exact id
  | .eqv f t neg, v, _ => by simp only [VR]; exact id
  | .ptr f g o, v, e => by
    simp only [VR]
    rintro ⟨b, s, n, hm, r⟩
    exact ⟨b, s, n, by rw [res_of e]; exact hm, r⟩
  | .slice f g o len cap sz ex, v, e => by
    simp only [VR]
    rintro ⟨b, s, n, x, c, hm, r⟩
    exact ⟨b, s, n, x, c, by rw [res_of e]; exact hm, r⟩
  | .map m, v, e => by
    simp only [VR]
    rintro ⟨b, s, n, hm, r⟩
    exact ⟨b, s, n, by rw [res_of e]; exact hm, r⟩
  | .func fn f c, v, e => by
    have e : cnd (okFn h fn) (cnd (okAs h f) (okAs h c) false) false = true := e
    obtain ⟨e1, e⟩ := and2 e
    obtain ⟨e2, e3⟩ := and2 e
    simp only [VR]
    rintro ⟨F, fs, cs, hv, hF, h1, h2⟩
    exact ⟨F, fs, cs, hv, okFn_r e1 hF, okAs_r f _ e2 h1, okAs_r c _ e3 h2⟩
  | .iface t a, v, e => by
    simp only [VR]
    rintro ⟨x, hv, hx⟩
    exact ⟨x, hv, okA_r a x e hx⟩
  | .agg l, v, e => by
    simp only [VR]
    rintro ⟨cs, hv, hx⟩
    exact ⟨cs, hv, okAs_r l _ e hx⟩
  | .tuple l, v, e => by
    simp only [VR]
    rintro ⟨cs, hv, hx⟩
    exact ⟨cs, hv, okAs_r l _ e hx⟩
  | .stx l, v, e => by
    simp only [VR]
    rintro ⟨b, hv, hx⟩
    exact ⟨b, hv, okAs_r l _ e hx⟩
  | .nsl f g sz k c q d m, v, e => by
    simp only [VR]
    rintro ⟨base, len, cp, h1, h2, h3, h4, h5⟩
    exact ⟨base, len, cp, h1, h2, h3, h4, h5.imp id fun ⟨b, s, n, r, hm, k⟩ => ⟨b, s, n, r, by rw [res_of e]; exact hm, k⟩⟩
  | .nix f g sz k c o, v, e => by
    simp only [VR]
    rintro ⟨b, s, n, r, hm, k⟩
    exact ⟨b, s, n, r, by rw [res_of e]; exact hm, k⟩
  | .stq q, v, _ => by simp only [VR]; exact id
theorem okAs_r {h : Hp} {μ : Mu} : ∀ (l : List AV) (vs : List Value), okAs h l = true → VRs μ l vs → VRs (res h μ) l vs
  | [], vs, _, hv => by simpa only [VRs] using hv
  | a :: l, vs, e, hv => by
    have e : cnd (okA h a) (okAs h l) false = true := e
    obtain ⟨e1, e2⟩ := and2 e
    simp only [VRs] at hv ⊢
    obtain ⟨v, r, e, h1, h2⟩ := hv
    exact ⟨v, r, e, okA_r a v e1 h1, okAs_r l r e2 h2⟩
end
theorem allB_sel {α : Type} {f : α → Bool} {n : N α} (h : N.allB f n = true) (d : D) : f (N.sel d n) = true := by
  obtain ⟨a, b, c, d', e, g, i, j⟩ := n
  have h : cnd (f a) (cnd (f b) (cnd (f c) (cnd (f d') (cnd (f e) (cnd (f g) (cnd (f i) (f j) false) false) false) false) false) false) false = true := h
  obtain ⟨h0, h⟩ := and2 h
  obtain ⟨h1, h⟩ := and2 h
  obtain ⟨h2, h⟩ := and2 h
  obtain ⟨h3, h⟩ := and2 h
  obtain ⟨h4, h⟩ := and2 h
  obtain ⟨h5, h⟩ := and2 h
  obtain ⟨h6, h7⟩ := and2 h
  cases d <;> assumption
theorem okTm_get {h : Hp} {t : Tm} (e : okTm h t = true) (a b c : D) : okA h (tget a b c t) = true := by
  rw [tget_eq]
  exact allB_sel (allB_sel (allB_sel e a) b) c
theorem okTm_getT {h : Hp} {t : Tm} (e : okTm h t = true) (n : Nat) : okA h (getT n t) = true := okTm_get e _ _ _
theorem okNeed {h : Hp} {μ : Mu} {nd : Nat} {X : Nat → Prop} {tm : Tm} {tmps : Array Value} (e : okTm h tm = true) (k : NeedR nd X μ tm tmps) : NeedR nd X (res h μ) tm tmps :=
  fun t h1 h2 => okA_r _ _ (okTm_getT e t) (k t h1 h2)
theorem okLo_inv {h : Hp} {L : Lo} (e : okLo h L = true) : okTm h L.tm = true ∧ okA h (getO .w0 L) = true ∧ okA h (getO .w1 L) = true ∧ okA h (getO .w2 L) = true := by
  obtain ⟨tm, a, b, c⟩ := L
  have e : cnd (okTm h tm) (cnd (okA h a) (cnd (okA h b) (okA h c) false) false) false = true := e
  obtain ⟨h1, e⟩ := and2 e
  obtain ⟨h2, e⟩ := and2 e
  obtain ⟨h3, h4⟩ := and2 e
  exact ⟨h1, h2, h3, h4⟩
theorem okKn {h : Hp} {μ : Mu} {nd : Nat} {cl : Cl} {L : Lo} {tmps : Array Value} (e : okLo h L = true) (k : KnR nd μ cl L tmps) : KnR nd (res h μ) cl L tmps := by
  obtain ⟨h1, h2, h3, h4⟩ := okLo_inv e
  refine ⟨okNeed h1 k.need, k.cok, fun u d x hm => ?_⟩
  have hv := k.cr u d x hm
  cases x with
  | w0 => exact okA_r _ _ h2 hv
  | w1 => exact okA_r _ _ h3 hv
  | w2 => exact okA_r _ _ h4 hv
  | t a b c => rw [getO_t] at hv ⊢; exact okA_r _ _ (okTm_get h1 a b c) hv
  | c av => rw [getO_c] at hv ⊢; exact (k.cok _ hm).2 av rfl _ _ _ _ _ hv
theorem okAt {h : Hp} {μ : Mu} {l : Key} {b : Nat} (e : okK h l = true) (k : AtR μ l b) : AtR (res h μ) l b := by
  obtain ⟨s, n, k⟩ := k
  exact ⟨s, n, by rw [res_of e]; exact k⟩
theorem okTd_app {h : Hp} : ∀ {l k : List Ci}, okTd h (l ++ k) = true → okTd h k = true
  | [], k, e => e
  | c :: l, k, e => by
    have e : okTd h (c :: (l ++ k)) = true := e
    refine okTd_app (l := l) ?_
    cases c <;> first | exact e | exact (and2 e).2
theorem okTodo {E : Env} {x : Cx} {h : Hp} {μ : Mu} {cl : Cl} {l : List Ci} {k : List Item} (e : okTd h l = true) (t : TodoR E x μ cl l k) : TodoR E x (res h μ) cl l k := by
  induction t with
  | nil cl => exact .nil cl
  | forget _ ih => exact .forget (ih e)
  | code _ ih => exact .code (ih (okTd_app e))
  | inBlock _ ih => exact .inBlock (ih e)
  | inLoop _ ih => exact .inLoop (ih e)
  | inScope _ ih => exact .inScope (ih e)
  | mid h1 _ ih => exact .mid h1 (ih e)
  | endRF h1 _ ih => exact .endRF (okAt (and2 e).1 h1) (ih (and2 e).2)
  | beginRound _ ih => exact .beginRound (ih e)
theorem okDf_r {h : Hp} {μ : Mu} : ∀ {d : Df} {x : Deferred}, okDf h d = true → DfR μ d x → DfR (res h μ) d x
  | .fn f cap args, d, e, k => by
    have e : cnd (okFn h f) (cnd (okAs h cap) (okAs h args) false) false = true := e
    obtain ⟨e1, e⟩ := and2 e
    obtain ⟨e2, e3⟩ := and2 e
    simp only [DfR] at k ⊢
    obtain ⟨F, cs, vs, hd, h1, h2, h3⟩ := k
    exact ⟨F, cs, vs, hd, okFn_r e1 h1, okAs_r _ _ e2 h2, okAs_r _ _ e3 h3⟩
  | .bi b args, d, e, k => by simp only [DfR] at k
  | .del t m k, d, e, kk => by
    have e : cnd (okA h m) (okA h k) false = true := e
    obtain ⟨e1, e2⟩ := and2 e
    simp only [DfR] at kk ⊢
    obtain ⟨ats, ty, cn, xs, v, w, h1, h2, h3, h4, h5, h6⟩ := kk
    exact ⟨ats, ty, cn, xs, v, w, h1, h2, h3, h4, okA_r _ _ e1 h5, okA_r _ _ e2 h6⟩
  | .collected r, d, e, k => by
    simp only [DfR] at k ⊢
    obtain ⟨b, s, n, h1, h2⟩ := k
    exact ⟨b, s, n, by rw [res_of e]; exact h1, h2⟩
theorem okDfs_r {h : Hp} {μ : Mu} : ∀ {ds : List Df} {xs : List Deferred}, okDfs h ds = true → DfsR μ ds xs → DfsR (res h μ) ds xs
  | [], _, _, k => by simpa only [DfsR] using k
  | d :: ds, _, e, k => by
    obtain ⟨e1, e2⟩ := and2 (show cnd (okDf h d) (okDfs h ds) false = true from e)
    simp only [DfsR] at k ⊢
    obtain ⟨x, r, rfl, h1, h2⟩ := k
    exact ⟨x, r, rfl, okDf_r e1 h1, okDfs_r e2 h2⟩
theorem okPEs_r {h : Hp} {μ : Mu} : ∀ {a : List PE} {b : List PanicEntry}, okPEs h a = true → PEsR μ a b → PEsR (res h μ) a b
  | [], b, _, k => k
  | .mk v r :: a, b, e, k => by
    obtain ⟨e1, e2⟩ := and2 (show cnd (okA h v) (okPEs h a) false = true from e)
    obtain ⟨u, l', e, h1, h2⟩ := k
    exact ⟨u, l', e, okA_r _ _ e1 h1, okPEs_r e2 h2⟩
theorem okMd_r {h : Hp} {μ : Mu} : ∀ {a : Md} {b : FrameMode}, okMd h a = true → MdR μ a b → MdR (res h μ) a b
  | .run, b, _, k => k
  | .returning, b, _, k => k
  | .panicking ch, b, e, k => by obtain ⟨ch', e', h1⟩ := k; exact ⟨ch', e', okPEs_r e h1⟩
theorem okFI_r {E : Env} {h : Hp} {μ : Mu} {fi : FI} {fr : Frame} (e : okFI h fi = true) (k : FiR E μ fi fr) : FiR E (res h μ) fi fr := by
  cases k with
  | @mk fn ds md dd rnd fr h1 h2 h3 h4 h5 h6 h7 =>
    cases rnd with
    | none =>
      obtain ⟨e1, e2⟩ := and2 (show cnd (okDfs h ds) (okMd h md) false = true from e)
      exact .mk h1 (okDfs_r e1 h2) (okMd_r e2 h3) h4 h5 h6 h7
    | some l =>
      obtain ⟨e0, e⟩ := and2 (show cnd (okK h l) (cnd (okDfs h ds) (okMd h md) false) false = true from e)
      obtain ⟨e1, e2⟩ := and2 e
      obtain ⟨b, h8, h9⟩ := h5
      exact .mk h1 (okDfs_r e1 h2) (okMd_r e2 h3) h4 ⟨b, okAt e0 h8, h9⟩ h6 h7
theorem keyOf_ok {h : Hp} {a : AV} {f : Key} (e : okA h a = true) (k : keyOfA a = some f) : (hget f h).isNone = false := by
  cases a <;> first | (cases k; done) | skip
  all_goals
    cases k
    exact okK_inv e
theorem pk_ok {E : Env} {x : Cx} {arr : Array Oper} {d : Nat} {L : Lo} {h : Hp} {idxs : List Nat} (e : okTm h L.tm = true) : ∀ f ∈ idxs.filterMap (pk E x arr d L), (hget f h).isNone = false := by
  intro f hf
  obtain ⟨i, hi, hp⟩ := List.mem_filterMap.1 hf
  unfold pk at hp
  split at hp
  · rename_i o ho
    cases hd : inM d i with
    | false => rw [hd] at hp; cases hp
    | true =>
      rw [hd] at hp
      simp only [cond_true] at hp
      split at hp
      · refine keyOf_ok (a := tgtV L o) ?_ hp
        unfold tgtV
        split
        · exact okTm_getT e _
        · rfl
      · cases hp
  · cases hp
theorem okDrI {E : Env} {x : Cx} {arr : Array Oper} {d : Nat} {qs : List (Nat × Oper × Nat)} {idxs : List Nat} {h : Hp} {μ : Mu} {L : Lo} {tmps : Array Value} (e : okTm h L.tm = true) (k : DrI E x arr d qs idxs μ L tmps) :
    DrI E x arr d qs idxs (res h μ) L tmps := ⟨k.lin, k.cd, k.dcl, k.hqs, k.qsm, okNeed e k.need, k.pl⟩
theorem okBody {E : Env} {fn : Nat} {h : Hp} {μ : Mu} {L : Lo} {tmps : Array Value} {md : Md} {l : List Ci} {k : List Item} {F : List Key} (e : okLo h L = true) (et : okTd h l = true) (b : BodyR E fn μ L tmps md l k F) :
    BodyR E fn (res h μ) L tmps md l k F ∧ ∀ f ∈ F, (hget f h).isNone = false := by
  have e1 := (okLo_inv e).1
  cases b with
  | plain h1 h2 => exact ⟨.plain (okKn e h1) (okTodo et h2), fun f hf => by cases hf⟩
  | waitP h1 h2 h3 h4 h5 => exact ⟨.waitP (okKn e h1) h2 h3 h4 (okTodo et h5), fun f hf => by cases hf⟩
  | inRFP h1 h2 h3 => exact ⟨.inRFP (okKn e h1) (okAt (and2 et).1 h2) (okTodo (and2 et).2 h3), fun f hf => by cases hf⟩
  | out h0 h1 h2 => exact ⟨.out h0 (okNeed e1 h1) h2, fun f hf => by cases hf⟩
  | drawn h1 =>
    cases h1 with
    | wait g1 g2 g3 g4 g5 g6 g7 => exact ⟨.drawn (.wait g1 (okTodo et g2) g3 g4 g5 g6 (okDrI e1 g7)), pk_ok e1⟩
    | mid g1 g2 g3 g4 g5 => exact ⟨.drawn (.mid g1 (okTodo et g2) g3 (okDrI e1 g4) g5), pk_ok e1⟩
theorem okFr {E : Env} {h : Hp} {μ : Mu} {L : Lo} {l : List Ci} {fi : FI} {fr : Frame} {F : List Key} (e : okLo h L = true) (et : okTd h l = true) (ef : okFI h fi = true) (b : FrR E μ L l fi fr F) :
    FrR E (res h μ) L l fi fr F ∧ ∀ f ∈ F, (hget f h).isNone = false := by
  cases b with
  | mk h1 h2 =>
    obtain ⟨h3, h4⟩ := okBody e et h2
    exact ⟨.mk (okFI_r ef h1) h3, h4⟩
theorem okSt {E : Env} {h : Hp} {μ : Mu} {cs : List Fr} {frs : List Frame} {F : List Key} (b : StR E μ cs frs F) : okFrs h cs = true → StR E (res h μ) cs frs F ∧ ∀ f ∈ F, (hget f h).isNone = false := by
  induction b with
  | nil => exact fun _ => ⟨.nil, fun f hf => by cases hf⟩
  | @cons L todo fi fr cs frs F Fs h1 _ ih =>
    intro e
    obtain ⟨e1, e⟩ := and2 (show cnd (okLo h L) (cnd (okTd h todo) (cnd (okFI h fi) (okFrs h cs) false) false) false = true from e)
    obtain ⟨e2, e⟩ := and2 e
    obtain ⟨e3, e4⟩ := and2 e
    obtain ⟨g1, g2⟩ := okFr e1 e2 e3 h1
    obtain ⟨g3, g4⟩ := ih e4
    exact ⟨.cons g1 g3, fun f hf => (List.mem_append.1 hf).elim (g2 f) (g4 f)⟩
open Classical in
theorem gcH_get {h : Hp} {f : Key} : ∀ (ks : List Key), (hget f (gcH ks h) = hget f h ∧ f ∈ ks) ∨ hget f (gcH ks h) = .none := by
  have key : ∀ (ks : List Key) (h' : Hp), hget f (List.rec (motive := fun _ => Hp → Hp) (fun h' => h') (fun k _ ih h' => ih (hset k (hget k h) h')) ks h') = if f ∈ ks then hget f h else hget f h' := by
    intro ks
    induction ks with
    | nil => intro h'; simp
    | cons k ks ih =>
      intro h'
      show hget f (List.rec (motive := fun _ => Hp → Hp) (fun h' => h') (fun k _ ih h' => ih (hset k (hget k h) h')) ks (hset k (hget k h) h')) = _
      rw [ih]
      by_cases h1 : f ∈ ks
      · simp [h1]
      · by_cases h2 : k = f
        · subst h2; simp [h1, hget_hset]
        · rw [if_neg h1, hget_hset_ne h2, if_neg]
          simp [h1, Ne.symm h2]
  intro ks
  have := key ks hp0
  by_cases h1 : f ∈ ks
  · rw [if_pos h1] at this; exact .inl ⟨this, h1⟩
  · rw [if_neg h1, hget_hp0] at this; exact .inr this
theorem okObs_inv {h : Hp} : ∀ {ks : List Key}, okObs h ks = true → ∀ f ∈ ks, okOb h (hget f h) = true
  | [], _, f, hf => by cases hf
  | k :: ks, e, f, hf => by
    obtain ⟨e1, e2⟩ := and2 (show cnd (okOb h (hget k h)) (okObs h ks) false = true from e)
    rcases List.mem_cons.1 hf with rfl | hf
    · exact e1
    · exact okObs_inv e2 f hf
theorem okTr_get {h : Hp} : ∀ {c : Tr Row} {r : Nat} {l : List AV} {gw : Nat}, okTr h c = true → c.get r = some (.mk l gw) → okAs h l = true
  | .e, r, l, gw, _, hg => by cases hg
  | .lf (.mk l' g'), r, l, gw, e, hg => by
    have hg : cnd (Nat.beq r 0) (some (Row.mk l' g')) none = some (.mk l gw) := hg
    obtain ⟨_, hg⟩ := cnd_inv hg
    cases hg; exact e
  | .n a b, r, l, gw, e, hg => by
    obtain ⟨e1, e2⟩ := and2 (show cnd (okTr h a) (okTr h b) false = true from e)
    have hg : cnd (Nat.beq (Nat.mod r 2) 0) (a.get (Nat.div r 2)) (b.get (Nat.div r 2)) = some (.mk l gw) := hg
    cases hb : Nat.beq (Nat.mod r 2) 0 with
    | true => rw [hb] at hg; exact okTr_get e1 hg
    | false => rw [hb] at hg; exact okTr_get e2 hg
theorem okEs_r {h : Hp} {μ : Mu} : ∀ {es : List En} {xs : List MapEntry}, okEs h es = true → EnsR μ es xs → EnsR (res h μ) es xs
  | [], _, _, k => by simpa only [EnsR] using k
  | .mk k v b :: es, _, e, kk => by
    obtain ⟨e1, e⟩ := and2 (show cnd (okA h k) (cnd (okA h v) (okEs h es) false) false = true from e)
    obtain ⟨e2, e3⟩ := and2 e
    simp only [EnsR] at kk ⊢
    obtain ⟨x, r, rfl, ⟨g1, g2, g3⟩, g4⟩ := kk
    exact ⟨x, r, rfl, ⟨okA_r _ _ e1 g1, okA_r _ _ e2 g2, g3⟩, okEs_r e3 g4⟩
theorem okEs_kv {h : Hp} : ∀ {es : List En}, okEs h es = true ↔ ∀ e ∈ es.map kv, okA h e.1 = true ∧ okA h e.2 = true
  | [] => ⟨fun _ e he => (by cases he), fun _ => rfl⟩
  | .mk k v b :: es => by
    show cnd (okA h k) (cnd (okA h v) (okEs h es) false) false = true ↔ _
    constructor
    · intro e x hx
      obtain ⟨e1, e⟩ := and2 e
      obtain ⟨e2, e3⟩ := and2 e
      rcases List.mem_cons.1 (show x ∈ (k, v) :: es.map kv from hx) with rfl | hx
      · exact ⟨e1, e2⟩
      · exact okEs_kv.1 e3 x hx
    · intro hh
      obtain ⟨e1, e2⟩ := hh (k, v) (List.mem_cons_self ..)
      have e3 := (okEs_kv (es := es)).2 fun x hx => hh x (List.mem_cons_of_mem _ hx)
      rw [e1, e2, e3]; rfl
theorem okAs_get {h : Hp} : ∀ {l : List AV} {j : Nat} {a : AV}, okAs h l = true → l[j]? = some a → okA h a = true
  | [], j, a, _, hh => by simp at hh
  | x :: l, j, a, e, hh => by
    obtain ⟨e1, e2⟩ := and2 (show cnd (okA h x) (okAs h l) false = true from e)
    cases j with
    | zero => simp at hh; subst hh; exact e1
    | succ j => exact okAs_get e2 (by simpa using hh)
theorem okRows_get {h : Hp} : ∀ {l : List (List AV)} {j : Nat} {a : List AV}, okRows h l = true → l[j]? = some a → okAs h a = true
  | [], j, a, _, hh => by simp at hh
  | x :: l, j, a, e, hh => by
    obtain ⟨e1, e2⟩ := and2 (show cnd (okAs h x) (okRows h l) false = true from e)
    cases j with
    | zero => simp at hh; subst hh; exact e1
    | succ j => exact okRows_get e2 (by simpa using hh)
theorem okOb_r {B : Nat} {h : Hp} {μ : Mu} {w : World} {f : Key} (hf : okK h f = true) : ∀ {o : Ob}, okOb h o = true → OR B μ w f o → OR B (res h μ) w f o
  | .none, _, k => by simp only [OR] at k ⊢; exact fun g => res_none (k g)
  | .cells ro gen sz dp ext c, e, k => by
    simp only [OR] at k ⊢
    obtain ⟨k1, k2, k3⟩ := k
    refine ⟨k1, ⟨fun g hg => res_none (k2.1 g hg), k2.2⟩, fun g b s n hm => ?_⟩
    rw [res_of hf] at hm
    obtain ⟨a1, a2, cs, e', fz, a3, a4, a5, a6⟩ := k3 g b s n hm
    refine ⟨a1, a2, cs, e', fz, a3, a4, a5, fun r l gw h1 h2 h3 => ?_⟩
    obtain ⟨b1, b2, b3⟩ := a6 r l gw h1 h2 h3
    refine ⟨b1, b2, fun j a hj => ?_⟩
    obtain ⟨v, c1, c2⟩ := b3 j a hj
    refine ⟨v, c1, okA_r _ _ ?_ c2⟩
    have el := okTr_get e h1
    have key : ∀ (l : List AV) (j : Nat) (a : AV), okAs h l = true → l[j]? = some a → okA h a = true := by
      intro l
      induction l with
      | nil => intro j a _ hh; simp at hh
      | cons x l ih =>
        intro j a e hh
        obtain ⟨e1, e2⟩ := and2 (show cnd (okA h x) (okAs h l) false = true from e)
        cases j with
        | zero => simp at hh; subst hh; exact e1
        | succ j => exact ih j a e2 (by simpa using hh)
    exact key l j a el hj
  | .map es clock, e, k => by
    simp only [OR] at k ⊢
    obtain ⟨k2, k3⟩ := k
    refine ⟨fun g hg => res_none (k2 g hg), fun b s n hm => ?_⟩
    rw [res_of hf] at hm
    obtain ⟨a1, es', a2, a3⟩ := k3 b s n hm
    exact ⟨a1, es', a2, okEs_r e a3⟩
  | .strIter x pos, e, k => by
    simp only [OR] at k ⊢
    obtain ⟨k2, k3⟩ := k
    refine ⟨fun g hg => res_none (k2 g hg), fun b s n hm => ?_⟩
    rw [res_of hf] at hm
    exact k3 b s n hm
  | .mapIter m since seen st, e, k => by
    simp only [OR] at k ⊢
    obtain ⟨k2, k3⟩ := k
    refine ⟨fun g hg => res_none (k2 g hg), fun b s n hm => ?_⟩
    rw [res_of hf] at hm
    obtain ⟨a1, a2, m', a3, a4⟩ := k3 b s n hm
    refine ⟨a1, a2, m', a3, ?_⟩
    cases m with
    | none => exact a4
    | some q => obtain ⟨c, s2, n2, a5, a6⟩ := a4; exact ⟨c, s2, n2, by rw [res_of e]; exact a5, a6⟩
  | .loop st pend fn tm ps a b df x, e, k => by
    obtain ⟨e1, e2⟩ := and2 (show cnd (okTm h tm) (okK h df) false = true from e)
    simp only [OR] at k ⊢
    obtain ⟨k2, k3⟩ := k
    refine ⟨fun g hg => res_none (k2 g hg), fun c s n hm => ?_⟩
    rw [res_of hf] at hm
    obtain ⟨a1, tmps, dfb, s', n', a2, a3, a4⟩ := k3 c s n hm
    exact ⟨a1, tmps, dfb, s', n', a2, ⟨okNeed e1 a3.1, a3.2⟩, by rw [res_of e2]; exact a4⟩
  | .deferred ds, e, k => by
    simp only [OR] at k ⊢
    obtain ⟨k2, k3⟩ := k
    refine ⟨fun g hg => res_none (k2 g hg), fun b s n hm => ?_⟩
    rw [res_of hf] at hm
    obtain ⟨a1, ds', a2, a3⟩ := k3 b s n hm
    refine ⟨a1, ds', a2, ?_⟩
    cases ds with
    | none => exact a3
    | some l => obtain ⟨l', a4, a5⟩ := a3; exact ⟨l', a4, okDfs_r e a5⟩
  | .mapu es, e, k => by
    simp only [OR] at k ⊢
    obtain ⟨k2, k3⟩ := k
    refine ⟨fun g hg => res_none (k2 g hg), fun b s n hm => ?_⟩
    rw [res_of hf] at hm
    obtain ⟨a1, es', clock, es0, a2, a3, a4⟩ := k3 b s n hm
    exact ⟨a1, es', clock, es0, a2, okEs_r (okEs_kv.2 fun x hx => okEs_kv.1 e x (a4.mem_iff.2 hx)) a3, a4⟩
  | .iv lo hi, e, k => by
    simp only [OR] at k ⊢
    exact ⟨fun g => res_none (k.1 g), k.2⟩
  | .lst ro gen sz q sfx, e, k => by
    simp only [OR] at k ⊢
    obtain ⟨k1, k2, k3⟩ := k
    refine ⟨k1, ⟨fun g hg => res_none (k2.1 g hg), k2.2⟩, fun g b s n hm => ?_⟩
    · rw [res_of hf] at hm
      obtain ⟨a1, cs, e', fz, a2, a3, a4, a5, a6⟩ := k3 g b s n hm
      refine ⟨a1, cs, e', fz, a2, a3, a4, a5, fun hg i l hi j a hj => ?_⟩
      obtain ⟨v, c1, c2⟩ := a6 hg i l hi j a hj
      exact ⟨v, c1, okA_r _ _ (okAs_get (okRows_get e hi) hj) c2⟩
theorem gc_HR {B : Nat} {μ : Mu} {h : Hp} {w : World} {ks : List Key} (hH : HR B μ h w) (e : okObs (gcH ks h) ks = true) : HR B (res (gcH ks h) μ) (gcH ks h) w := by
  refine ⟨fun f g b s n f' g' s' n' h1 h2 hc => hH.inj _ _ _ _ _ _ _ _ _ (res_some h1).2 (res_some h2).2 hc, fun f g b s n h1 => hH.lt _ _ _ _ _ (res_some h1).2, fun f => ?_,
    fun f g g' b s n s' n' h1 h2 h3 => hH.side _ _ _ _ _ _ _ _ (res_some h1).2 (res_some h2).2 h3, hH.fk, fun f b s n h1 => hH.start _ _ _ _ (res_some h1).2⟩
  rcases gcH_get (h := h) (f := f) ks with ⟨h1, h2⟩ | h1
  · have hO := hH.obj f
    rw [← h1] at hO
    cases hn : (hget f (gcH ks h)).isNone with
    | true =>
      have : hget f (gcH ks h) = .none := by cases hh : hget f (gcH ks h) <;> rw [hh] at hn <;> first | rfl | cases hn
      rw [this]
      intro g
      unfold res
      rw [hn]; rfl
    | false => exact okOb_r (by unfold okK; rw [hn]; rfl) (okObs_inv e f h2) hO
  · rw [h1]
    intro g
    unfold res
    rw [h1]; rfl
theorem okGm_inv {gm : Nat} {h : Hp} : ∀ {n : Nat}, okGm gm h n = true → ∀ g, g < n → inM gm g = true → okK h (Key.ofNat g) = true
  | 0, _, g, hg, _ => by omega
  | n + 1, e, g, hg, hm => by
    have e : cnd (inM gm n) (cnd (okK h (Key.ofNat n)) (okGm gm h n) false) (okGm gm h n) = true := e
    cases hn : inM gm n with
    | true =>
      rw [hn] at e
      obtain ⟨e1, e2⟩ := and2 e
      by_cases hh : g = n
      · subst hh; exact e1
      · exact okGm_inv e2 g (by omega) hm
    | false =>
      rw [hn] at e
      by_cases hh : g = n
      · subst hh; rw [hn] at hm; cases hm
      · exact okGm_inv e g (by omega) hm
theorem gc_sim {E : Env} {P : Program} {C : Call0} {ks : List Key} {L : Lo} {td : List Ci} {fi : FI} {cs : List Fr} {h : Hp} {nx : Key} {m : Machine} (e : gcOk E ks (gcH ks h) (.mk L td fi cs h nx) = true)
    (hs : Sim E P C (.mk L td fi cs h nx) m) : Sim E P C (.mk L td fi cs (gcH ks h) nx) m := by
  obtain ⟨e1, e⟩ := and2 (show cnd (okLo (gcH ks h) L) (cnd (okTd (gcH ks h) td) (cnd (okFI (gcH ks h) fi) (cnd (okFrs (gcH ks h) cs) (cnd (okObs (gcH ks h) ks) (cnd (Nat.blt E.gm (2 ^ 64)) (okGm E.gm (gcH ks h) 64) false) false) false) false) false) false = true from e)
  obtain ⟨e2, e⟩ := and2 e
  obtain ⟨e3, e⟩ := and2 e
  obtain ⟨e4, e⟩ := and2 e
  obtain ⟨e5, e⟩ := and2 e
  obtain ⟨e6, e7⟩ := and2 e
  cases hs with
  | mk hr hg he hf hst hk =>
    obtain ⟨f1, f2⟩ := okFr e1 e2 e3 hf
    obtain ⟨s1, s2⟩ := okSt hst e4
    refine .mk (gc_HR hr e5) (fun g hgm => ?_) he f1 s1 ⟨hk.1, fun f hff => ⟨?_, fun g => res_none ((hk.2 f hff).2 g)⟩⟩
    · obtain ⟨n, hn⟩ := hg g hgm
      have hlt : g < 64 := by
        rcases Nat.lt_or_ge g 64 with h' | h'
        · exact h'
        · exfalso
          have q1 : Nat.land E.gm (Nat.pow 2 g) = Nat.pow 2 g := Nat.eq_of_beq_eq_true hgm
          have q2 : E.gm &&& 2 ^ g ≤ E.gm := Nat.and_le_left
          have q3 : E.gm &&& 2 ^ g = 2 ^ g := q1
          have q4 : E.gm < 2 ^ 64 := by simpa [Nat.blt_eq] using e6
          have q5 : 2 ^ 64 ≤ 2 ^ g := Nat.pow_le_pow_right (by decide) h'
          omega
      exact ⟨n, by rw [res_of (okGm_inv e7 g hlt hgm)]; exact hn⟩
    · exact (List.mem_append.1 hff).elim (f2 f) (s2 f)
section
variable {E : Env} {P : Program} (hE : EnvOk E P) {C : Call0} (hS : SumOk E P C) (hD : DrawnOk E P C)
include hE hS hD in
theorem runC_good : ∀ (n : Nat) {c : Cfg} {m : Machine}, Sim E P C c m → Good E P C (runC E n c) m
  | 0, c, m, hs => ⟨m, .refl _ _, hs⟩
  | n + 1, c, m, hs => by
    have hg := step_good hE hS hD hs
    rw [runC_succ]
    cases hc : step E c with
    | go c' =>
      rw [hc] at hg
      obtain ⟨m', h1, h2⟩ := hg
      exact Good.of_steps h1 (runC_good n h2)
    | done v => rw [hc] at hg; exact hg
    | br l => rw [hc] at hg; exact hg
    | fail => trivial
include hE hS hD in
theorem ok_sound {c : Cfg} (ho : Ok E c) : ∀ {m : Machine}, Sim E P C c m → Done E P C (.bool true) m := by
  induction ho with
  | run h => exact fun hs => run_sound hE hS hD _ h hs
  | @gc n ks c c' h _ ih =>
    intro m hs
    have hg := runC_good hE hS hD n hs
    unfold gcRun at h
    cases hc : runC E n c with
    | go c1 =>
      rw [hc] at h hg
      obtain ⟨m', h1, h2⟩ := hg
      obtain ⟨L, td, fi, cs, hp, nx⟩ := c1
      obtain ⟨e1, e2⟩ := cnd_inv (show cnd (gcOk E ks (gcH ks hp) (.mk L td fi cs hp nx)) (some (Cfg.mk L td fi cs (gcH ks hp) nx)) none = some c' from h)
      cases e2
      exact (ih (gc_sim e1 h2)).of_steps h1
    | done v => rw [hc] at h; cases h
    | br l => rw [hc] at h; cases h
    | fail => rw [hc] at h; cases h
  | @br n c l h _ ih =>
    intro m hs
    have hg := runC_good hE hS hD n hs
    rw [h] at hg
    obtain ⟨c', hc, m', h1, h2⟩ := hg
    exact (ih c' hc h2).of_steps h1
end
def StartOk (E : Env) (f : Nat) (vs : List AV) (h : Hp) (nx : Key) : Prop := ∃ c, enter E f vs false [] h nx = .go c ∧ Ok E c
omit [Val] in
theorem startOk_gc {E : Env} {ks : List Key} {n f : Nat} {vs : List AV} {h : Hp} {nx : Key} {c : Cfg} (hs : gcStart E ks n f vs h nx = some c) (k : Ok E c) : StartOk E f vs h nx := by
  unfold gcStart at hs
  cases hen : enter E f vs false [] h nx with
  | go c0 => rw [hen] at hs; exact ⟨c0, hen, .gc hs k⟩
  | _ => rw [hen] at hs; cases hs
omit [Val] in
theorem startOk_run {E : Env} {n f : Nat} {vs : List AV} {h : Hp} {nx : Key} (hs : startB E n f vs h nx = true) : StartOk E f vs h nx := by
  unfold startB at hs
  cases hen : enter E f vs false [] h nx with
  | go c0 => rw [hen] at hs; exact ⟨c0, hen, .run hs⟩
  | _ => rw [hen] at hs; cases hs
theorem ok_calls {E : Env} {P : Program} (hE : EnvOk E P) {W : World} (hS : ∀ cs, SumOk E P ⟨cs, W⟩) {vs : List AV} {args : Array Value} {h : Hp} {nx : Key} {μ : Mu}
    (hv : VRs μ vs args.toList) (hr : HR W.heap.size μ h W) (hg : GR E μ) (hrun : StartOk E E.root vs h nx) :
    Calls P E.root args W (fun e w' => e = .returned (.bool true) ∧ Ext W.heap.size W w') := by
  intro cs
  have hgo := enter_good0 (E := E) (P := P) hE (C := ⟨cs, W⟩) (f := E.root) (nx := nx) hv hr hg (Ext.refl _ _)
  obtain ⟨c, hen, hok⟩ := hrun
  rw [hen] at hgo
  obtain ⟨m', h1, h2⟩ := hgo
  obtain ⟨fr, w, v, ν, k1, k2, k3, k4, k5⟩ := ok_sound hE (hS cs) (drawn_ok hE (hS cs)) hok h2
  simp only [VR] at k3
  subst k3
  exact ⟨.returned (.bool true), w, fr, ⟨rfl, k4⟩, h1.trans k1, k5, k2⟩
theorem ini_callsOk {E : Env} {P : Program} (hF : FkOk) (hE : EnvOk E P) {gs : List Gv} {W : World} (hi : IniR gs W) (hb : bitsOk E.gm gs = true)
    (hS : hasBody E E.sum = true → ∀ w, IniR gs w → Calls P E.sum #[] w (fun e w' => e = .returned (.bool true) ∧ Ext w.heap.size w w')) {vs : List AV} {args : Array Value} {nx : Key}
    {ivs : List (Key × Int × Int)} (hok : ivsOk gs ivs = true) (hiv : ∀ x ∈ ivs, x.2.1 ≤ Val.n x.1 ∧ Val.n x.1 ≤ x.2.2)
    (hv : ∀ μ, VRs μ vs args.toList) (hrun : StartOk E E.root vs (initHv gs ivs) nx) :
    Calls P E.root args W (fun e w' => e = .returned (.bool true) ∧ Ext W.heap.size W w') :=
  ok_calls hE (fun cs w he hbd => hS hbd w (hi.ext he)) (hv _) (ini_HRv hi (ini_HR hF hi _) hok hiv) (ini_GR hb) hrun
end
end Go.Ev
