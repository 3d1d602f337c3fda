/- THE EVALUATOR, part 10 of 12: EvDr13 EvDr14 EvDr10 EvDr11 EvCtl11 EvCtl12 EvInit EvPiece EvCard EvArg -/
import Derived.Test.YtdhfgfdpncmopaaGreatDoorEv9
import GoSem.ClaimJoined
import Derived.ChangeArms
import Derived.ChangeSame
import Derived.Carry
set_option linter.unusedVariables false
set_option linter.unusedSectionVars false
set_option linter.unusedSimpArgs false
namespace Go.Ev
set_option linter.unusedVariables false
set_option linter.unusedSectionVars false
set_option linter.unusedSimpArgs false
noncomputable section
variable [Val] [Fk]
section
variable {E : Env} {P : Program} (hE : EnvOk E P) {C : Call0}
variable {rest : List Ci} {k : List Item} {fn : Nat} {ds : List Df} {dd : Bool} {rnd : Option Key} {cs : List Fr} {frs : List Frame} {Fs : List Key} {arr : Array Oper}
    {d : Nat} {qs : List (Nat × Oper × Nat)} {idxs : List Nat} {μ : Mu} {L : Lo} {h : Hp} {nx : Key} {fr : Frame} {w : World}
theorem isSt_inv {o : Oper} (h : isSt o = true) : o.guard = none ∧ o.dst = none ∧ ∃ t x y, o.op = .store t x y := by
  unfold isSt at h
  split at h
  · rename_i h1 h2 h3; exact ⟨h1, h3, _, _, _, h2⟩
  · cases h
include hE in
theorem store_step {i : Nat} {is : List Nat} {o : Oper} {n : Nat} {x y : Opd} {h1 : Hp} {nx' : Key} (A : DAt E P C rest k fn ds dd rnd cs frs Fs arr d qs (i :: is) μ L h fr w) (hd : inM d i = false) (ho : arr[i]? = some o) (hst : isSt o = true)
    (hef : effI (qOf E (cxOf E fn)) E o.op = .store n x y) (hx : xStore n x y h nx L = some (.mk undefA h1 nx')) (pa : ∀ j o', j ∈ is → inM d j = true → arr[j]? = some o' → ∀ h', PendH E (cxOf E fn) arr h' o' L) :
    ∃ v w' μ', Steps P (lone fr (frs ++ C.cs0) w) (lone (fr.finish v) (frs ++ C.cs0) w') ∧ μ.le μ' ∧ DAt E P C rest k fn ds dd rnd cs frs Fs arr (Nat.lor d (Nat.pow 2 i)) qs is μ' L h1 (fr.finish v) w' := by
  obtain ⟨hm, hsz⟩ := A.fi.run _ _ _ _ rfl
  obtain ⟨hg, hdst, t, ox, oy, hop⟩ := isSt_inv hst
  have hqq : ∀ y, VR μ (getO (q2 E (cxOf E fn) arr o y) L) (fr.eval y) := by rw [eval_evT]; exact q2_ok (DrI.reads A.sd A.dr A.gr rfl ho)
  have hev : (effI (q2 E (cxOf E fn) arr o) E o.op).ev E h nx L = some (.mk undefA h1 nx') := by
    rw [← effI_congr (q := qOf E (cxOf E fn)) (fun y hy => (q2_op hy).symm), hef]
    exact hx
  have notD : ∀ c, o.op ≠ .defer c := fun c hh => by rw [hop] at hh; cases hh
  have hw : Region.wanted o (yielded arr fr.tmps) = true := by simp [Region.wanted, hg]
  have hput : ∀ a : AV, Go.Ev.put (dst o.dst) a L = L := fun a => by rw [hdst, show dst none = .no from rfl, put_no]
  have hnot : i ∉ is := (List.nodup_cons.1 A.dr.lin.nodup).1
  have hpk := DrI.pkE A.sd A.dr hd ho undefA
  rw [hput] at hpk
  have hkf : (i :: is).filterMap (pk E (cxOf E fn) arr d L) = is.filterMap (pk E (cxOf E fn) arr d L) := List.filterMap_cons_none (pk_self A.sd (k := 0) hd)
  have hdr := fun ν hle v hv => DrI.eff A.sd (DrI.mono (ν := ν) hle A.dr) hd ho hsz (a := undefA) (v := v) hv
  obtain ⟨dst0, op, ty, pos, af, gd⟩ := o
  obtain ⟨v, nxt, w', ν, hrun, hnv, hv, hle, hh, he, hkp⟩ := eff_sound (d := dst0) (ty := ty) (pos := pos) (af := af) (gd := gd) hE A.hr A.ext.size hqq (fun f => rfl) hev
  refine ⟨v, w', ν, exec_step hm A.todo ho hw notD hrun hnv _, hle, ⟨A.sd, hh, A.gr.mono hle, A.ext.trans he, (A.fi.mono hle).finish v A.todo ho, A.st.mono hle, ?_, finish_todo fr v A.todo, A.td.mono hle, ?_, fun j o' hj hdj ho' => pa j o' hj ?_ ho' h1⟩⟩
  · rw [hpk, ← hkf]; exact A.kept.kp hkp
  · have := hdr ν hle v hv
    rw [hput] at this
    rw [finish_tmps fr v A.todo ho]
    exact this
  · rw [inM_lor] at hdj
    simp only [Bool.or_eq_true, decide_eq_true_eq] at hdj
    rcases hdj with h2 | h2
    · exact h2
    · subst h2; exact absurd hj hnot
include hE in
theorem two_run {i j : Nat} {is : List Nat} {o p : Oper} {n m : Nat} {x y x' y' : Opd} {h1 h2 : Hp} {nx1 nx2 : Key} (A : DAt E P C rest k fn ds dd rnd cs frs Fs arr d qs (i :: is) μ L h fr w) (hd : inM d i = false) (hdj : inM d j = false) (hij : i ≠ j)
    (hall : ∀ e, e < arr.size → e ≠ i → e ≠ j → inM d e = true)
    (ho : arr[i]? = some o) (hst : isSt o = true) (hef : effI (qOf E (cxOf E fn)) E o.op = .store n x y) (hx : xStore n x y h nx L = some (.mk undefA h1 nx1))
    (hp : arr[j]? = some p) (hst' : isSt p = true) (hef' : effI (qOf E (cxOf E fn)) E p.op = .store m x' y') (hx' : xStore m x' y' h1 nx1 L = some (.mk undefA h2 nx2))
    (pa : ∀ j o', j ∈ is → inM d j = true → arr[j]? = some o' → ∀ h', PendH E (cxOf E fn) arr h' o' L) :
    ∃ fr' w' μ' d', Steps P (lone fr (frs ++ C.cs0) w) (lone fr' (frs ++ C.cs0) w') ∧ μ.le μ' ∧ DAt E P C rest k fn ds dd rnd cs frs Fs arr d' qs [] μ' L h2 fr' w' := by
  obtain ⟨v, w1, μ1, s1, le1, A1⟩ := store_step hE A hd ho hst hef hx pa
  have hnot : i ∉ is := (List.nodup_cons.1 A.dr.lin.nodup).1
  have pa1 : ∀ e o', e ∈ is → inM (Nat.lor d (Nat.pow 2 i)) e = true → arr[e]? = some o' → ∀ h', PendH E (cxOf E fn) arr h' o' L := by
    intro e o' he hde ho'
    rw [inM_lor] at hde
    simp only [Bool.or_eq_true, decide_eq_true_eq] at hde
    rcases hde with h3 | h3
    · exact pa e o' he h3 ho'
    · subst h3; exact absurd he hnot
  -- what was left, with what is left of it
  have keep : ∀ {idxs : List Nat} {μ : Mu} {fr : Frame} {w : World} {d : Nat} {h : Hp}, DAt E P C rest k fn ds dd rnd cs frs Fs arr d qs idxs μ L h fr w →
      ∃ idxs' μ' fr' w', Steps P (lone fr (frs ++ C.cs0) w) (lone fr' (frs ++ C.cs0) w') ∧ μ.le μ' ∧ DAt E P C rest k fn ds dd rnd cs frs Fs arr d qs idxs' μ' L h fr' w' ∧ (idxs' = [] ∨ ∃ j is, idxs' = j :: is ∧ inM d j = false) ∧ ∀ e ∈ idxs', e ∈ idxs := by
    intro idxs
    induction idxs with
    | nil => intro μ fr w d h a; exact ⟨[], μ, fr, w, .refl _ _, Mu.le_refl _, a, .inl rfl, fun e he => he⟩
    | cons i is ih =>
      intro μ fr w d h a
      cases hd : inM d i with
      | false => exact ⟨i :: is, μ, fr, w, .refl _ _, Mu.le_refl _, a, .inr ⟨i, is, rfl, hd⟩, fun e he => he⟩
      | true =>
        obtain ⟨v, w', μ', h1, h2, h3⟩ := pend_step hE a hd
        obtain ⟨idxs', μ2, fr2, w2, k1, k2, k3, k4, k5⟩ := ih h3
        exact ⟨idxs', μ2, fr2, w2, h1.trans k1, fun f g x hx => k2 _ _ _ (h2 _ _ _ hx), k3, k4, fun e he => List.mem_cons_of_mem _ (k5 e he)⟩
  obtain ⟨is2, μ2, fr2, w2, s2, le2, A2, hend, hsub⟩ := keep A1
  have hjl : j < arr.size := (Array.getElem?_eq_some_iff.1 hp).1
  have hdj1 : inM (Nat.lor d (Nat.pow 2 i)) j = false := by rw [inM_lor, hdj]; simp [hij]
  rcases hend with rfl | ⟨j', is3, rfl, hdj'⟩
  · rw [A2.dr.cd j hjl (by simp)] at hdj1; cases hdj1
  · have hjj : j' = j := by
      by_cases e : j' = j
      · exact e
      · rw [inM_lor] at hdj'
        simp only [Bool.or_eq_false_iff, decide_eq_false_iff_not] at hdj'
        rw [hall j' (A2.dr.lin.lt j' (List.mem_cons_self ..)) (fun e' => hdj'.2 e'.symm) e] at hdj'
        cases hdj'.1
    subst hjj
    obtain ⟨v3, w3, μ3, s3, le3, A3⟩ := store_step hE A2 hdj' hp hst' hef' hx' (fun e o' he hde ho' => pa1 e o' (hsub e (List.mem_cons_of_mem _ he)) hde ho')
    obtain ⟨is4, μ4, fr4, w4, s4, le4, A4, hend4, _⟩ := keep A3
    have : is4 = [] := by
      rcases hend4 with e | ⟨e, is5, rfl, hde⟩
      · exact e
      · rw [inM_lor, inM_lor] at hde
        simp only [Bool.or_eq_false_iff, decide_eq_false_iff_not] at hde
        rw [hall e (A4.dr.lin.lt e (List.mem_cons_self ..)) (fun e' => hde.1.2 e'.symm) (fun e' => hde.2 e'.symm)] at hde
        cases hde.1.1
    subst this
    exact ⟨fr4, w4, μ4, _, ((s1.trans s2).trans s3).trans s4, fun f g z hz => le4 _ _ _ (le3 _ _ _ (le2 _ _ _ (le1 _ _ _ hz))), A4⟩
theorem DAt.same {h' : Hp} (A : DAt E P C rest k fn ds dd rnd cs frs Fs arr d qs [] μ L h fr w) (e : ∀ f, hget f h' = hget f h) : DAt E P C rest k fn ds dd rnd cs frs Fs arr d qs [] μ L h' fr w :=
  ⟨A.sd, A.hr.same e, A.gr, A.ext, A.fi, A.st, ⟨A.kept.1, fun f hf => by rw [e]; exact A.kept.2 f hf⟩, A.todo, A.td, A.dr, fun i o hi => by cases hi⟩
end
end
end Go.Ev

namespace Go.Ev
set_option linter.unusedVariables false
set_option linter.unusedSectionVars false
set_option linter.unusedSimpArgs false
noncomputable section
variable [Val] [Fk]
/-! ## entries of one map, in whatever order -/
theorem isIn_inv {o : Oper} (h : isIn o = true) : o.guard = none ∧ o.dst = none ∧ ∃ t m k v, o.op = .insert t m k v := by
  unfold isIn at h
  split at h
  · rename_i h1 h2 h3; exact ⟨h1, h3, _, _, _, _, h2⟩
  · cases h
theorem ieOf_inv {E : Env} {q : Operand → Opd} {o : Oper} {e : IE} (h : ieOf E q o = some e) : effI q E o.op = .mapUp e.kt e.m e.k e.v := by
  unfold ieOf at h
  split at h
  · rename_i h1; cases h; exact h1
  · cases h
theorem ieList_mem {E : Env} {q : Operand → Opd} : ∀ {l : List (Nat × Oper × Nat)} {r : List IE}, ieList E q l = some r → r = l.filterMap (fun x => ieOf E q x.2.1) ∧ ∀ x ∈ l, ∃ e, ieOf E q x.2.1 = some e
  | [], r, h => by cases h; exact ⟨rfl, fun x hx => by cases hx⟩
  | x :: l, r, h => by
    unfold ieList at h
    split at h
    · rename_i e r' h1 h2
      cases h
      obtain ⟨rfl, h4⟩ := ieList_mem h2
      refine ⟨by rw [List.filterMap_cons, h1], fun y hy => ?_⟩
      rcases List.mem_cons.1 hy with rfl | hy
      · exact ⟨e, h1⟩
      · exact h4 y hy
    · cases h
def Apart (E : Env) (L : Lo) (a b : IE) : Prop := aeq E 12 a.kt (getO a.k L) (getO b.k L) = some false ∧ aeq E 12 b.kt (getO b.k L) (getO a.k L) = some false
theorem apart_inv {E : Env} {L : Lo} {a b : IE} (h : apart E L a b = true) : Apart E L a b := by
  unfold apart at h
  have key : ∀ o : Option Bool, opt o false bnot = true → o = some false := by
    intro o ho
    cases o with
    | none => cases ho
    | some b => cases b with
      | false => rfl
      | true => cases ho
  cases hh : opt (aeq E 12 a.kt (getO a.k L) (getO b.k L)) false bnot with
  | false => rw [hh] at h; cases h
  | true => rw [hh] at h; exact ⟨key _ hh, key _ h⟩
theorem Apart.symm {E : Env} {L : Lo} {a b : IE} (h : Apart E L a b) : Apart E L b a := ⟨h.2, h.1⟩
theorem insOk_inv {E : Env} {L : Lo} {f : Key} : ∀ {l : List IE}, insOk E L f l = true → (∀ e ∈ l, getO e.m L = .map f ∧ okKey E e.kt (getO e.k L) = true) ∧ l.Pairwise (Apart E L)
  | [], _ => ⟨fun e he => (by cases he), .nil⟩
  | e :: l, h => by
    have h : cnd (isF f (getO e.m L)) (cnd (okKey E e.kt (getO e.k L)) (cnd (l.all (apart E L e)) (insOk E L f l) false) false) false = true := h
    cases h1 : isF f (getO e.m L) with
    | false => rw [h1] at h; cases h
    | true =>
      cases h2 : okKey E e.kt (getO e.k L) with
      | false => rw [h1, h2] at h; cases h
      | true =>
        cases h3 : l.all (apart E L e) with
        | false => rw [h1, h2, h3] at h; cases h
        | true =>
          rw [h1, h2, h3] at h
          obtain ⟨k1, k2⟩ := insOk_inv (show insOk E L f l = true from h)
          refine ⟨fun x hx => ?_, .cons (fun x hx => apart_inv (List.all_eq_true.1 h3 x hx)) k2⟩
          rcases List.mem_cons.1 hx with rfl | hx
          · refine ⟨?_, h2⟩
            unfold isF at h1
            cases hg : getO x.m L with
            | map g => rw [hg] at h1; rw [Key.beq_eq (show Key.beq f g = true from h1)]
            | _ => rw [hg] at h1; cases h1
          · exact k1 x hx
theorem insEs_kv {L : Lo} : ∀ (l : List IE), (insEs L l).map kv = l.map (fun e => (getO e.k L, getO e.v L))
  | [] => rfl
  | e :: l => by
    show kv _ :: (insEs L l).map kv = _
    rw [insEs_kv l]; rfl
theorem landAll_inM {p : Nat} : ∀ {l : List (Nat × Oper × Nat)} {m : Nat}, inM (landAll m l) p = true → inM m p = true ∧ ∀ x ∈ l, inM x.2.2 p = true
  | [], m, h => ⟨h, fun x hx => by cases hx⟩
  | y :: l, m, h => by
    obtain ⟨h1, h2⟩ := landAll_inM (l := l) h
    rw [inM_land, Bool.and_eq_true] at h1
    refine ⟨h1.1, fun x hx => ?_⟩
    rcases List.mem_cons.1 hx with rfl | hx
    · exact h1.2
    · exact h2 x hx
section
variable {E : Env} {P : Program} (hE : EnvOk E P) {C : Call0}
variable {rest : List Ci} {k : List Item} {fn : Nat} {ds : List Df} {dd : Bool} {rnd : Option Key} {cs : List Fr} {frs : List Frame} {Fs : List Key} {arr : Array Oper}
    {d : Nat} {qs : List (Nat × Oper × Nat)} {idxs : List Nat} {μ : Mu} {L : Lo} {h : Hp} {nx : Key} {fr : Frame} {w : World}
include hE in
theorem ins_step {i : Nat} {is : List Nat} {o : Oper} {e : IE} {h1 : Hp} {nx' : Key} (A : DAt E P C rest k fn ds dd rnd cs frs Fs arr d qs (i :: is) μ L h fr w) (hd : inM d i = false) (ho : arr[i]? = some o) (hst : isIn o = true)
    (hef : ieOf E (qOf E (cxOf E fn)) o = some e) (hx : xMapUp E e.kt e.m e.k e.v h nx L = some (.mk undefA h1 nx')) (pa : ∀ j o', j ∈ is → inM d j = true → arr[j]? = some o' → ∀ h', PendH E (cxOf E fn) arr h' o' L) :
    ∃ v w' μ', Steps P (lone fr (frs ++ C.cs0) w) (lone (fr.finish v) (frs ++ C.cs0) w') ∧ μ.le μ' ∧ DAt E P C rest k fn ds dd rnd cs frs Fs arr (Nat.lor d (Nat.pow 2 i)) qs is μ' L h1 (fr.finish v) w' := by
  have hef := ieOf_inv hef
  obtain ⟨hm, hsz⟩ := A.fi.run _ _ _ _ rfl
  obtain ⟨hg, hdst, t, ox, oy, oz, hop⟩ := isIn_inv hst
  have hqq : ∀ y, VR μ (getO (q2 E (cxOf E fn) arr o y) L) (fr.eval y) := by rw [eval_evT]; exact q2_ok (DrI.reads A.sd A.dr A.gr rfl ho)
  have hev : (effI (q2 E (cxOf E fn) arr o) E o.op).ev E h nx L = some (.mk undefA h1 nx') := by
    rw [← effI_congr (q := qOf E (cxOf E fn)) (fun y hy => (q2_op hy).symm), hef]
    exact hx
  have notD : ∀ c, o.op ≠ .defer c := fun c hh => by rw [hop] at hh; cases hh
  have hw : Region.wanted o (yielded arr fr.tmps) = true := by simp [Region.wanted, hg]
  have hput : ∀ a : AV, Go.Ev.put (dst o.dst) a L = L := fun a => by rw [hdst, show dst none = .no from rfl, put_no]
  have hnot : i ∉ is := (List.nodup_cons.1 A.dr.lin.nodup).1
  have hpk := DrI.pkE A.sd A.dr hd ho undefA
  rw [hput] at hpk
  have hkf : (i :: is).filterMap (pk E (cxOf E fn) arr d L) = is.filterMap (pk E (cxOf E fn) arr d L) := List.filterMap_cons_none (pk_self A.sd (k := 0) hd)
  have hdr := fun ν hle v hv => DrI.eff A.sd (DrI.mono (ν := ν) hle A.dr) hd ho hsz (a := undefA) (v := v) hv
  obtain ⟨dst0, op, ty, pos, af, gd⟩ := o
  obtain ⟨v, nxt, w', ν, hrun, hnv, hv, hle, hh, he, hkp⟩ := eff_sound (d := dst0) (ty := ty) (pos := pos) (af := af) (gd := gd) hE A.hr A.ext.size hqq (fun f => rfl) hev
  refine ⟨v, w', ν, exec_step hm A.todo ho hw notD hrun hnv _, hle, ⟨A.sd, hh, A.gr.mono hle, A.ext.trans he, (A.fi.mono hle).finish v A.todo ho, A.st.mono hle, ?_, finish_todo fr v A.todo, A.td.mono hle, ?_, fun j o' hj hdj ho' => pa j o' hj ?_ ho' h1⟩⟩
  · rw [hpk, ← hkf]; exact A.kept.kp hkp
  · have := hdr ν hle v hv
    rw [hput] at this
    rw [finish_tmps fr v A.todo ho]
    exact this
  · rw [inM_lor] at hdj
    simp only [Bool.or_eq_true, decide_eq_true_eq] at hdj
    rcases hdj with h2 | h2
    · exact h2
    · subst h2; exact absurd hj hnot
include hE in
theorem keep_run : ∀ {idxs : List Nat} {μ : Mu} {fr : Frame} {w : World} {d : Nat} {h : Hp}, DAt E P C rest k fn ds dd rnd cs frs Fs arr d qs idxs μ L h fr w →
    ∃ idxs' μ' fr' w', Steps P (lone fr (frs ++ C.cs0) w) (lone fr' (frs ++ C.cs0) w') ∧ μ.le μ' ∧ DAt E P C rest k fn ds dd rnd cs frs Fs arr d qs idxs' μ' L h fr' w' ∧ (idxs' = [] ∨ ∃ j is, idxs' = j :: is ∧ inM d j = false) ∧ ∀ e ∈ idxs', e ∈ idxs := by
  intro idxs
  induction idxs with
  | nil => intro μ fr w d h a; exact ⟨[], μ, fr, w, .refl _ _, Mu.le_refl _, a, .inl rfl, fun e he => he⟩
  | cons i is ih =>
    intro μ fr w d h a
    cases hd : inM d i with
    | false => exact ⟨i :: is, μ, fr, w, .refl _ _, Mu.le_refl _, a, .inr ⟨i, is, rfl, hd⟩, fun e he => he⟩
    | true =>
      obtain ⟨v, w', μ', h1, h2, h3⟩ := pend_step hE a hd
      obtain ⟨idxs', μ2, fr2, w2, k1, k2, k3, k4, k5⟩ := ih h3
      exact ⟨idxs', μ2, fr2, w2, h1.trans k1, fun f g x hx => k2 _ _ _ (h2 _ _ _ hx), k3, k4, fun e he => List.mem_cons_of_mem _ (k5 e he)⟩
structure Rem (E : Env) (q : Operand → Opd) (arr : Array Oper) (L : Lo) (f : Key) (d : Nat) (es : List En) (R : List (Nat × Oper × Nat)) : Prop where
  nodup : (R.map (·.1)).Nodup
  mem : ∀ x ∈ R, arr[x.1]? = some x.2.1 ∧ inM d x.1 = false ∧ isIn x.2.1 = true ∧ ∃ e, ieOf E q x.2.1 = some e ∧ getO e.m L = .map f ∧ okKey E e.kt (getO e.k L) = true ∧ ∀ y ∈ es, aeq E 12 e.kt (getO e.k L) y.k = some false
  all : ∀ i, i < arr.size → inM d i = false → (∃ x ∈ R, x.1 = i) ∨ ∀ x ∈ R, inM (pre arr i) x.1 = true
  pw : (R.filterMap fun x => ieOf E q x.2.1).Pairwise (Apart E L)
def kvs (L : Lo) (l : List IE) : List (AV × AV) := l.map fun e => (getO e.k L, getO e.v L)
include hE in
theorem many_run {f : Key} {h0 : Hp} (nx : Key) : ∀ (n : Nat) (R : List (Nat × Oper × Nat)) (es : List En) (clock d : Nat) (idxs : List Nat) (μ : Mu) (h : Hp) (fr : Frame) (w : World), R.length = n →
    DAt E P C rest k fn ds dd rnd cs frs Fs arr d qs idxs μ L h fr w → Rem E (qOf E (cxOf E fn)) arr L f d es R → hget f h = .map es clock → (∀ g, g ≠ f → hget g h = hget g h0) →
    (∀ j o', j ∈ idxs → inM d j = true → arr[j]? = some o' → ∀ h', PendH E (cxOf E fn) arr h' o' L) →
    ∃ fr' w' μ' d' h' es' clock' idxs', Steps P (lone fr (frs ++ C.cs0) w) (lone fr' (frs ++ C.cs0) w') ∧ μ.le μ' ∧ DAt E P C rest k fn ds dd rnd cs frs Fs arr d' qs idxs' μ' L h' fr' w' ∧
      hget f h' = .map es' clock' ∧ (∀ g, g ≠ f → hget g h' = hget g h0) ∧ (es'.map kv).Perm (es.map kv ++ kvs L (R.filterMap fun x => ieOf E (qOf E (cxOf E fn)) x.2.1)) ∧
      (∀ p, inM d' p = (inM d p || decide (∃ x ∈ R, x.1 = p))) ∧ (∀ j o', j ∈ idxs' → inM d' j = true → arr[j]? = some o' → ∀ h', PendH E (cxOf E fn) arr h' o' L) := by
  intro n
  induction n with
  | zero =>
    intro R es clock d idxs μ h fr w hn A hR hf hg pa
    have : R = [] := List.eq_nil_of_length_eq_zero hn
    subst this
    exact ⟨fr, w, μ, d, h, es, clock, idxs, .refl _ _, Mu.le_refl _, A, hf, hg, by simp [kvs], fun p => by simp, pa⟩
  | succ n ih =>
    intro R es clock d idxs μ h fr w hn A hR hf hg pa
    obtain ⟨is2, μ2, fr2, w2, s2, le2, A2, hend, hsub⟩ := keep_run hE A
    rcases hend with rfl | ⟨j, is, rfl, hdj⟩
    · exfalso
      cases R with
      | nil => cases hn
      | cons x R =>
        obtain ⟨h1, h2, _⟩ := hR.mem x (List.mem_cons_self ..)
        rw [A2.dr.cd x.1 (Array.getElem?_eq_some_iff.1 h1).1 (by simp)] at h2
        cases h2
    · obtain ⟨x, hx, rfl⟩ : ∃ x ∈ R, x.1 = j := by
        rcases hR.all j (A2.dr.lin.lt j (List.mem_cons_self ..)) hdj with hh | hh
        · exact hh
        · exfalso
          cases R with
          | nil => cases hn
          | cons x R =>
            have h1 := hh x (List.mem_cons_self ..)
            have h2 := (DrI.ahead A2.sd A2.dr h1).1
            rw [(hR.mem x (List.mem_cons_self ..)).2.1] at h2
            cases h2
      obtain ⟨r1, r2, rfl⟩ := List.append_of_mem hx
      obtain ⟨h1, h2, h3, e, h4, h5, h6, h7⟩ := hR.mem x hx
      have hfk : findK E e.kt (getO e.k L) es = some none := by
        unfold findK
        rw [h6]
        exact findK0_none h7
      have hup : xMapUp E e.kt e.m e.k e.v h nx L = some (.mk undefA (hset f (.map (es ++ [.mk (getO e.k L) (getO e.v L) clock]) (Nat.succ clock)) h) nx) := by
        unfold xMapUp
        rw [h5]
        show asMapO (hget f h) none _ = _
        rw [hf]
        show opt (findK E e.kt (getO e.k L) es) none _ = _
        rw [hfk]
        rfl
      have hnot : x.1 ∉ is := (List.nodup_cons.1 A2.dr.lin.nodup).1
      obtain ⟨v3, w3, μ3, s3, le3, A3⟩ := ins_step hE A2 hdj h1 h3 h4 hup (fun e o' he hde ho' => pa e o' (hsub e (List.mem_cons_of_mem _ he)) hde ho')
      have hperm : (r1 ++ x :: r2).Perm (x :: (r1 ++ r2)) := List.perm_middle
      have hnd : ((x :: (r1 ++ r2)).map (·.1)).Nodup := (hperm.map _).nodup_iff.1 hR.nodup
      rw [List.map_cons, List.nodup_cons] at hnd
      have hpf := hperm.filterMap (fun x => ieOf E (qOf E (cxOf E fn)) x.2.1)
      have hpw : ((x :: (r1 ++ r2)).filterMap fun x => ieOf E (qOf E (cxOf E fn)) x.2.1).Pairwise (Apart E L) := (hpf.pairwise_iff (fun hh => Apart.symm hh)).1 hR.pw
      rw [List.filterMap_cons, h4] at hpw
      simp only at hpw
      obtain ⟨hpw1, hpw2⟩ := List.pairwise_cons.1 hpw
      have hR' : Rem E (qOf E (cxOf E fn)) arr L f (Nat.lor d (Nat.pow 2 x.1)) (es ++ [.mk (getO e.k L) (getO e.v L) clock]) (r1 ++ r2) := by
        refine ⟨hnd.2, fun y hy => ?_, fun i hi hdi => ?_, hpw2⟩
        · have hy0 : y ∈ r1 ++ x :: r2 := hperm.mem_iff.2 (List.mem_cons_of_mem _ hy)
          obtain ⟨k1, k2, k3, e', k4, k5, k6, k7⟩ := hR.mem y hy0
          refine ⟨k1, ?_, k3, e', k4, k5, k6, fun z hz => ?_⟩
          · rw [inM_lor, k2]
            simp only [Bool.false_or, decide_eq_false_iff_not]
            intro e2
            exact hnd.1 (List.mem_map.2 ⟨y, hy, e2.symm⟩)
          · rcases List.mem_append.1 hz with hz | hz
            · exact k7 z hz
            · rw [List.mem_singleton] at hz; subst hz
              exact (hpw1 e' (List.mem_filterMap.2 ⟨y, hy, k4⟩)).2
        · rw [inM_lor] at hdi
          simp only [Bool.or_eq_false_iff, decide_eq_false_iff_not] at hdi
          rcases hR.all i hi hdi.1 with ⟨y, hy, hyi⟩ | hh
          · rcases List.mem_cons.1 (hperm.mem_iff.1 hy) with rfl | hy
            · exact absurd hyi hdi.2
            · exact .inl ⟨y, hy, hyi⟩
          · exact .inr fun y hy => hh y (hperm.mem_iff.2 (List.mem_cons_of_mem _ hy))
      obtain ⟨fr4, w4, μ4, d4, h4', es4, c4, is4, s4, le4, A4, f4, g4, p4, b4, pa4⟩ := ih (r1 ++ r2) (es ++ [.mk (getO e.k L) (getO e.v L) clock]) (Nat.succ clock) _ is μ3 _ _ _ (by simp at hn ⊢; omega) A3 hR' (hget_hset _ _ _)
        (fun g hgf => by rw [hget_hset_ne (fun e => hgf e.symm)]; exact hg g hgf)
        (fun j o' hj hdj' ho' => pa j o' (hsub j (List.mem_cons_of_mem _ hj)) (by
          rw [inM_lor] at hdj'
          simp only [Bool.or_eq_true, decide_eq_true_eq] at hdj'
          rcases hdj' with h8 | h8
          · exact h8
          · subst h8; exact absurd hj hnot) ho')
      refine ⟨fr4, w4, μ4, d4, h4', es4, c4, is4, (s2.trans s3).trans s4, fun f g z hz => le4 _ _ _ (le3 _ _ _ (le2 _ _ _ hz)), A4, f4, g4, p4.trans ?_, fun p => ?_, pa4⟩
      · rw [List.map_append, List.append_assoc]
        refine List.Perm.append_left _ ?_
        have := (hpf.map fun e => (getO e.k L, getO e.v L))
        rw [List.filterMap_cons, h4] at this
        exact this.symm
      · rw [b4, inM_lor, Bool.or_assoc]
        congr 1
        rw [Bool.eq_iff_iff]
        simp only [Bool.or_eq_true, decide_eq_true_eq]
        constructor
        · rintro (hh | ⟨y, hy, rfl⟩)
          · exact ⟨x, hx, hh⟩
          · exact ⟨y, hperm.mem_iff.2 (List.mem_cons_of_mem _ hy), rfl⟩
        · rintro ⟨y, hy, rfl⟩
          rcases List.mem_cons.1 (hperm.mem_iff.1 hy) with rfl | hy
          · exact .inl rfl
          · exact .inr ⟨y, hy, rfl⟩
theorem DAt.weak {h' : Hp} (A : DAt E P C rest k fn ds dd rnd cs frs Fs arr d qs idxs μ L h fr w) (hr : HR C.W.heap.size μ h' w) (e : ∀ f, (hget f h).isNone = false → (hget f h').isNone = false)
    (pa : ∀ j o', j ∈ idxs → inM d j = true → arr[j]? = some o' → ∀ h', PendH E (cxOf E fn) arr h' o' L) :
    DAt E P C rest k fn ds dd rnd cs frs Fs arr d qs idxs μ L h' fr w :=
  ⟨A.sd, hr, A.gr, A.ext, A.fi, A.st, ⟨A.kept.1, fun f hf => ⟨e f (A.kept.2 f hf).1, (A.kept.2 f hf).2⟩⟩, A.todo, A.td, A.dr, fun i o hi hd ho => pa i o hi hd ho h'⟩
theorem lorAll_inM {p : Nat} : ∀ {l : List (Nat × Oper × Nat)} {d : Nat}, inM (lorAll d l) p = (inM d p || decide (∃ x ∈ l, x.1 = p))
  | [], d => by simp [lorAll]
  | x :: l, d => by
    show inM (lorAll (Nat.lor d (Nat.pow 2 x.1)) l) p = _
    rw [lorAll_inM (l := l), inM_lor, Bool.or_assoc]
    congr 1
    rw [Bool.eq_iff_iff]
    simp
theorem HR.mapWeak {B : Nat} {f : Key} {es es0 : List En} {clock : Nat} {h' : Hp} (hH : HR B μ h w) (ho : hget f h = .map es clock) (hp : (es0.map kv).Perm (es.map kv)) (hf : hget f h' = .mapu es0) (hg : ∀ g, g ≠ f → hget g h' = hget g h) : HR B μ h' w :=
  ⟨hH.inj, hH.lt, fun g => by
    by_cases e : g = f
    · subst e
      have hO := hH.obj g
      rw [ho] at hO
      rw [hf]
      obtain ⟨h1, h2⟩ := hO
      refine ⟨h1, fun b s n hm => ?_⟩
      obtain ⟨h3, es', h4, h5⟩ := h2 b s n hm
      exact ⟨h3, es', clock, es, h4, h5, hp⟩
    · rw [hg g e]; exact hH.obj g, hH.side, hH.fk, hH.start⟩
end
end
end Go.Ev

namespace Go.Ev
set_option linter.unusedVariables false
set_option linter.unusedSectionVars false
set_option linter.unusedSimpArgs false
noncomputable section
variable [Val] [Fk]
section
variable {E : Env} {P : Program} (hE : EnvOk E P) {C : Call0} (hS : SumOk E P C)
variable {rest : List Ci} {k : List Item} {fn : Nat} {ds : List Df} {dd : Bool} {rnd : Option Key} {cs : List Fr} {frs : List Frame} {Fs : List Key} {arr : Array Oper}
    {d : Nat} {qs : List (Nat × Oper × Nat)} {idxs : List Nat} {μ : Mu} {L : Lo} {h : Hp} {nx : Key} {fr : Frame} {w : World}
theorem dat_end (A : DAt E P C rest k fn ds dd rnd cs frs Fs arr d qs [] μ L h fr w) : Good E P C (.go (.mk L rest (.mk fn ds .run dd rnd) cs h nx)) (lone fr (frs ++ C.cs0) w) := by
  obtain ⟨hm, hsz⟩ := A.fi.run _ _ _ _ rfl
  refine ⟨_, .one (s_regionEnd hm A.todo), ?_⟩
  refine Sim.mk (F := []) (Fs := Fs) A.hr A.gr A.ext ?_ A.st (by simpa using A.kept)
  have hk : KnR (cxOf E fn).nd μ [] L fr.tmps := ⟨fun t ht _ => A.dr.need t ht (by rintro ⟨i, hi, _⟩; cases hi), (fun e he => by cases he), fun u d x hm => by cases hm⟩
  have htd := A.td
  have hf := A.fi
  cases hf with
  | mk h1 h2 h3 h4 h5 h6 h7 => exact .mk (.mk h1 h2 h3 h4 h5 h6 h7) (.plain hk htd)
def PG (E : Env) (P : Program) (C : Call0) (rest : List Ci) (k : List Item) (fn : Nat) (dd : Bool) (rnd : Option Key) (arr : Array Oper) (fuel : Nat) : Prop :=
  ∀ (d : Nat) (qs td : List (Nat × Oper × Nat)) (idxs : List Nat) (μ : Mu) (L : Lo) (h : Hp) (nx : Key) (fr : Frame) (w : World) (ds : List Df) (cs : List Fr) (frs : List Frame) (Fs : List Key), Left arr d td →
    DAt E P C rest k fn ds dd rnd cs frs Fs arr d qs idxs μ L h fr w →
    Good E P C (ops E (plan E (qOf E (cxOf E fn)) arr fuel d qs td) (.mk rest (.mk fn ds .run dd rnd) cs) L h nx) (lone fr (frs ++ C.cs0) w)
theorem chk_good {fuel i : Nat} {tdl : List (Nat × Oper × Nat)} (IH : PG E P C rest k fn dd rnd arr fuel) (sd : DrSt E (cxOf E fn) arr) (hr : HR C.W.heap.size μ h w) (gr : GR E μ) (ext : Ext C.W.heap.size C.W w) (fi : FiR E μ (.mk fn ds .run dd rnd) fr)
    (st : StR E μ cs frs Fs) (kept : Kept1 μ h (idxs.filterMap (pk E (cxOf E fn) arr d L) ++ Fs)) (todo : fr.todo = .inRegion arr idxs :: k) (td : TodoR E (cxOf E fn) μ [] rest k) (dr : DrI E (cxOf E fn) arr d qs idxs μ L fr.tmps)
    (hl : Left arr d tdl) (hp : ∀ p, inM (pre arr i) p = true → p ∉ idxs) :
    Good E P C (ops E (.chk (pend E (qOf E (cxOf E fn)) arr (pre arr i) qs) :: plan E (qOf E (cxOf E fn)) arr fuel d (qs.filter fun e => !inM (pre arr i) e.1) tdl) (.mk rest (.mk fn ds .run dd rnd) cs) L h nx) (lone fr (frs ++ C.cs0) w) := by
  show Good E P C (cnd (ckAll E h L (pend E (qOf E (cxOf E fn)) arr (pre arr i) qs)) (ops E (plan E (qOf E (cxOf E fn)) arr fuel d (qs.filter fun e => !inM (pre arr i) e.1) tdl) (.mk rest (.mk fn ds .run dd rnd) cs) L h nx) .fail) _
  cases hck : ckAll E h L (pend E (qOf E (cxOf E fn)) arr (pre arr i) qs) with
  | false => trivial
  | true =>
    have hno : ∀ j, j ∈ idxs → inM (pre arr i) j = false := fun j hj => by
      cases hh : inM (pre arr i) j with
      | false => rfl
      | true => exact absurd hj (hp j hh)
    refine IH _ _ _ _ _ _ _ _ _ _ _ _ _ _ hl ⟨sd, hr, gr, ext, fi, st, kept, todo, td, ⟨dr.lin, dr.cd, dr.dcl, fun j hj hdj => ?_, fun e he => dr.qsm e (List.mem_filter.1 he).1, dr.need, dr.pl⟩, fun j o hj hdj ho => chk_pendH sd dr hck hj hdj ho (hno j hj)⟩
    obtain ⟨o', m', hm⟩ := dr.hqs j hj hdj
    exact ⟨o', m', List.mem_filter.2 ⟨hm, by simp [hno j hj]⟩⟩
include hE hS in
theorem effect_good {fuel i : Nat} {is : List Nat} {o : Oper} {tdl : List (Nat × Oper × Nat)} (IH : PG E P C rest k fn dd rnd arr fuel) (A : DAt E P C rest k fn ds dd rnd cs frs Fs arr d qs (i :: is) μ L h fr w)
    (hd : inM d i = false) (ho : arr[i]? = some o) (hq : isQ E o = false) (hl : Left arr (Nat.lor d (Nat.pow 2 i)) tdl) :
    Good E P C (ops E (insOf (qOf E (cxOf E fn)) E arr (dst o.dst) o :: .chk (pend E (qOf E (cxOf E fn)) arr (pre arr i) qs) :: plan E (qOf E (cxOf E fn)) arr fuel (Nat.lor d (Nat.pow 2 i)) (qs.filter fun e => !inM (pre arr i) e.1) tdl) (.mk rest (.mk fn ds .run dd rnd) cs) L h nx) (lone fr (frs ++ C.cs0) w) := by
  obtain ⟨hm, hsz⟩ := A.fi.run _ _ _ _ rfl
  have hqq : ∀ y, VR μ (getO (q2 E (cxOf E fn) arr o y) L) (fr.eval y) := by rw [eval_evT]; exact q2_ok (DrI.reads A.sd A.dr A.gr rfl ho)
  have hkf : (i :: is).filterMap (pk E (cxOf E fn) arr d L) = is.filterMap (pk E (cxOf E fn) arr d L) := List.filterMap_cons_none (pk_self A.sd (k := 0) hd)
  have hah : ∀ p, inM (pre arr i) p = true → p ∉ is := fun p hp hm => (DrI.ahead A.sd A.dr hp).2 (List.mem_cons_of_mem _ hm)
  have hwait : ∀ ν, μ.le ν → BodyR E fn ν L fr.tmps .run (.wait (dst o.dst) (.chk (pend E (qOf E (cxOf E fn)) arr (pre arr i) qs) :: plan E (qOf E (cxOf E fn)) arr fuel (Nat.lor d (Nat.pow 2 i)) (qs.filter fun e => !inM (pre arr i) e.1) tdl) :: rest) fr.todo (is.filterMap (pk E (cxOf E fn) arr d L)) := by
    intro ν hle
    rw [A.todo]
    exact .drawn (.wait A.sd (A.td.mono hle) ho hq hd hl (A.dr.mono hle))
  show Good E P C ((insOf (qOf E (cxOf E fn)) E arr (dst o.dst) o).run E (.chk (pend E (qOf E (cxOf E fn)) arr (pre arr i) qs) :: plan E (qOf E (cxOf E fn)) arr fuel (Nat.lor d (Nat.pow 2 i)) (qs.filter fun e => !inM (pre arr i) e.1) tdl) (ops E (.chk (pend E (qOf E (cxOf E fn)) arr (pre arr i) qs) :: plan E (qOf E (cxOf E fn)) arr fuel (Nat.lor d (Nat.pow 2 i)) (qs.filter fun e => !inM (pre arr i) e.1) tdl)) (.mk rest (.mk fn ds .run dd rnd) cs) L h nx) _
  rw [q2_ins (x := cxOf E fn)]
  refine ins_good hE hS (F := is.filterMap (pk E (cxOf E fn) arr d L)) (Fs := Fs) hqq ⟨A.hr, A.gr, A.ext, A.fi, A.st, by rw [← hkf]; exact A.kept, A.todo, ho, hwait, fun ν a v hle hv => ?_, (hwait μ (Mu.le_refl _)).res, ?_⟩
  · rw [finish_todo fr v A.todo, finish_tmps fr v A.todo ho, ← DrI.pkE A.sd A.dr hd ho a]
    exact .drawn (.mid A.sd (A.td.mono hle) hl (DrI.eff A.sd (A.dr.mono hle) hd ho hsz hv) hah)
  · intro ν a v h' nx' w' ds' fr' cs' frs' hle hv hr' hg' he' hf' htm' htd' hs' hkp'
    have ht' : fr'.todo = .inRegion arr (i :: is) :: k := by rw [htd', A.todo]
    refine chk_good IH A.sd hr' hg' he' (hf'.finish v ht' ho) hs' (by rw [DrI.pkE A.sd A.dr hd ho a]; exact hkp') (finish_todo fr' v ht') (A.td.mono hle) ?_ hl hah
    rw [finish_tmps fr' v ht' ho, htm']
    exact DrI.eff A.sd (A.dr.mono hle) hd ho hsz hv
theorem pend_nil {m : Nat} {q : Operand → Opd} : ∀ {qs : List (Nat × Oper × Nat)}, pend E q arr m qs = [] → ∀ {i o n}, (i, o, n) ∈ qs → inM m i = false → ckIns E q arr o = none
  | [], _, _, _, _, hm, _ => by cases hm
  | (i', o', n') :: l, hp, i, o, n, hm, hi => by
    have hp : (bif inM m i' then pend E q arr m l else match ckIns E q arr o' with
      | some c => c :: pend E q arr m l
      | none => pend E q arr m l) = [] := hp
    rcases List.mem_cons.1 hm with e | hm
    · cases e
      rw [hi] at hp
      cases hc : ckIns E q arr o' with
      | none => rfl
      | some c => rw [hc] at hp; cases hp
    · refine pend_nil (qs := l) ?_ hm hi
      cases hi' : inM m i' with
      | true => rw [hi'] at hp; exact hp
      | false =>
        rw [hi'] at hp
        cases hc : ckIns E q arr o' with
        | none => rw [hc] at hp; exact hp
        | some c => rw [hc] at hp; cases hp
theorem free_pendH {m e : Nat} {o' : Oper} (A : DAt E P C rest k fn ds dd rnd cs frs Fs arr d qs idxs μ L h fr w) (hp : pend E (qOf E (cxOf E fn)) arr m qs = []) (he : e ∈ idxs) (hde : inM d e = true) (ho' : arr[e]? = some o') (hm : inM m e = false) (h' : Hp) :
    PendH E (cxOf E fn) arr h' o' L := by
  obtain ⟨o2, n, hmem⟩ := A.dr.hqs e he hde
  have h1 := (mem_marked.1 (A.dr.qsm _ hmem).1).1
  rw [ho'] at h1; cases h1
  have hck := pend_nil hp hmem hm
  have hdo := (A.sd.ok ho').2.2
  rcases A.dr.pl e o' he hde ho' with ⟨h3, h4⟩ | ⟨h3, h4⟩
  · exact .inl h3
  · refine .inr ?_
    unfold dstOk at hdo
    unfold ckIns at hck
    split at h4
    · rename_i dd0 p hins
      intro hmp
      rw [hins] at hdo hck
      cases hdst : o'.dst with
      | none => rw [hdst] at hdo; simp only [hmp] at hdo; cases hdo
      | some t => rw [hdst] at hck; simp only [hmp, cond_true] at hck; cases hck
    · rename_i dd0 p hins
      rw [hins] at hdo hck
      cases hdst : o'.dst with
      | none => rw [hdst] at hdo; cases hdo
      | some t => rw [hdst] at hck; cases hck
    · exact h4.elim
theorem marked_fst : ∀ {l : List (Nat × Oper × Nat)}, l.Nodup → (∀ x ∈ l, x ∈ marked arr) → (l.map (·.1)).Nodup
  | [], _, _ => .nil
  | x :: l, h, hm => by
    obtain ⟨h1, h2⟩ := List.nodup_cons.1 h
    rw [List.map_cons, List.nodup_cons]
    refine ⟨fun hh => ?_, marked_fst h2 fun y hy => hm y (List.mem_cons_of_mem _ hy)⟩
    obtain ⟨y, hy, e⟩ := List.mem_map.1 hh
    have := marked_inj (hm y (List.mem_cons_of_mem _ hy)) (hm x (List.mem_cons_self ..)) e
    exact h1 (this ▸ hy)
include hE in
theorem many_good {fuel : Nat} {l R Q : List (Nat × Oper × Nat)} {r : List IE} (IH : PG E P C rest k fn dd rnd arr fuel) (A : DAt E P C rest k fn ds dd rnd cs frs Fs arr d qs idxs μ L h fr w)
    (hend : idxs = [] ∨ ∃ j is, idxs = j :: is ∧ inM d j = false) (hl : Left arr d l) (hR : R = l.filter (nowIn d)) (hQ : Q = l.filter fun e => !nowIn d e) (hO : manyO E (qOf E (cxOf E fn)) arr qs R Q = some r) :
    Good E P C (ops E (.ins r :: plan E (qOf E (cxOf E fn)) arr fuel (lorAll d R) qs Q) (.mk rest (.mk fn ds .run dd rnd) cs) L h nx) (lone fr (frs ++ C.cs0) w) := by
  have memR : ∀ x, x ∈ R → x ∈ l ∧ isIn x.2.1 = true := fun x hx => by
    rw [hR] at hx
    obtain ⟨h1, h2⟩ := List.mem_filter.1 hx
    unfold nowIn at h2
    rw [Bool.and_eq_true] at h2
    exact ⟨h1, h2.1⟩
  have memQ : ∀ x, x ∈ l → x ∈ R ∨ x ∈ Q := fun x hx => by
    cases hn : nowIn d x with
    | true => exact .inl (by rw [hR]; exact List.mem_filter.2 ⟨hx, hn⟩)
    | false => exact .inr (by rw [hQ]; exact List.mem_filter.2 ⟨hx, by rw [hn]; rfl⟩)
  have mk : ∀ x, x ∈ l → arr[x.1]? = some x.2.1 ∧ x.2.2 = pre arr x.1 ∧ inM d x.1 = false := fun x hx => by
    have hy := (hl.2 x).1 hx
    obtain ⟨h1, h2⟩ := mem_marked.1 (show (x.1, x.2.1, x.2.2) ∈ marked arr from hy.1)
    exact ⟨h1, h2, hy.2⟩
  have hnd : (R.map (·.1)).Nodup := marked_fst (arr := arr) (by rw [hR]; exact hl.1.filter _) fun x hx => ((hl.2 x).1 (memR x hx).1).1
  have here : ∀ i, i < arr.size → inM d i = false → ∃ x ∈ l, x.1 = i := fun i hi hd => ⟨(i, arr[i], pre arr i), (hl.2 _).2 ⟨mem_marked.2 ⟨Array.getElem?_eq_getElem hi, rfl⟩, hd⟩, rfl⟩
  unfold manyO at hO
  cases R with
  | nil => cases hO
  | cons x0 R' =>
    simp only at hO
    cases hq : Q.all (fun y => (x0 :: R').all fun z => inM y.2.2 z.1) with
    | false => rw [hq] at hO; cases hO
    | true =>
      rw [hq] at hO
      simp only [cond_true] at hO
      cases hpe : pend E (qOf E (cxOf E fn)) arr (landAll x0.2.2 R') qs with
      | cons _ _ => rw [hpe] at hO; cases hO
      | nil =>
        rw [hpe] at hO
        have hie : ieList E (qOf E (cxOf E fn)) (x0 :: R') = some r := hO
        obtain ⟨hr, hex⟩ := ieList_mem hie
        cases r with
        | nil => trivial
        | cons e r0 =>
          show Good E P C (asMap (getO e.m L) .fail fun f => asMapO (hget f h) .fail fun es _ => List.rec (motive := fun _ => Sp) (cnd (insOk E L f (e :: r0)) (ops E (plan E (qOf E (cxOf E fn)) arr fuel (lorAll d (x0 :: R')) qs Q) (.mk rest (.mk fn ds .run dd rnd) cs) L (hset f (.mapu (insEs L (e :: r0))) h) nx) .fail) (fun _ _ _ => .fail) es) _
          cases hm0 : getO e.m L <;> first | trivial | skip
          rename_i f
          show Good E P C (asMapO (hget f h) .fail fun es _ => List.rec (motive := fun _ => Sp) (cnd (insOk E L f (e :: r0)) (ops E (plan E (qOf E (cxOf E fn)) arr fuel (lorAll d (x0 :: R')) qs Q) (.mk rest (.mk fn ds .run dd rnd) cs) L (hset f (.mapu (insEs L (e :: r0))) h) nx) .fail) (fun _ _ _ => .fail) es) _
          cases hf : hget f h <;> first | trivial | skip
          rename_i es clock
          cases es with
          | cons _ _ => trivial
          | nil =>
            show Good E P C (cnd (insOk E L f (e :: r0)) (ops E (plan E (qOf E (cxOf E fn)) arr fuel (lorAll d (x0 :: R')) qs Q) (.mk rest (.mk fn ds .run dd rnd) cs) L (hset f (.mapu (insEs L (e :: r0))) h) nx) .fail) _
            cases hok : insOk E L f (e :: r0) with
            | false => trivial
            | true =>
              obtain ⟨k1, k2⟩ := insOk_inv hok
              have hRem : Rem E (qOf E (cxOf E fn)) arr L f d [] (x0 :: R') := by
                refine ⟨hnd, fun x hx => ?_, fun i hi hdi => ?_, by rw [← hr]; exact k2⟩
                · obtain ⟨h1, h2, h3⟩ := mk x (memR x hx).1
                  obtain ⟨e', he'⟩ := hex x hx
                  have he2 : e' ∈ e :: r0 := by rw [hr]; exact List.mem_filterMap.2 ⟨x, hx, he'⟩
                  obtain ⟨h4, h5⟩ := k1 e' he2
                  exact ⟨h1, h3, (memR x hx).2, e', he', h4, h5, fun y hy => by cases hy⟩
                · obtain ⟨x, hx, rfl⟩ := here i hi hdi
                  rcases memQ x hx with hh | hh
                  · exact .inl ⟨x, hh, rfl⟩
                  · refine .inr fun z hz => ?_
                    have h5 := List.all_eq_true.1 (List.all_eq_true.1 hq x hh) z hz
                    rw [(mk x hx).2.1] at h5
                    exact h5
              obtain ⟨fr4, w4, μ4, d4, h4, es4, c4, is4, s4, le4, A4, f4, g4, p4, b4, pa4⟩ := many_run hE (h0 := h) nx (x0 :: R').length (x0 :: R') [] clock d idxs μ h fr w rfl A hRem hf (fun _ _ => rfl) (fun j o' hj hdj ho' h' => by
                refine free_pendH A hpe hj hdj ho' ?_ h'
                cases hh : inM (landAll x0.2.2 R') j with
                | false => rfl
                | true =>
                  exfalso
                  obtain ⟨h5, h6⟩ := landAll_inM hh
                  have h7 : ∀ x ∈ x0 :: R', inM (pre arr x.1) j = true := fun x hx => by
                    rw [← (mk x (memR x hx).1).2.1]
                    rcases List.mem_cons.1 hx with rfl | hx
                    · exact h5
                    · exact h6 x hx
                  rcases hend with rfl | ⟨j0, is, rfl, hdj0⟩
                  · cases hj
                  · rcases hRem.all j0 (A.dr.lin.lt j0 (List.mem_cons_self ..)) hdj0 with ⟨x, hx, rfl⟩ | h8
                    · exact (DrI.ahead A.sd A.dr (h7 x hx)).2 hj
                    · have h9 := (DrI.ahead A.sd A.dr (h8 x0 (List.mem_cons_self ..))).1
                      rw [(mk x0 (memR x0 (List.mem_cons_self ..)).1).2.2] at h9
                      cases h9)
              have hd4 : ∀ p, inM d4 p = inM (lorAll d (x0 :: R')) p := fun p => by rw [b4, lorAll_inM]
              have ed : d4 = lorAll d (x0 :: R') := Nat.eq_of_testBit_eq fun i => by
                have := hd4 i
                rw [inM_tb, inM_tb] at this
                exact this
              subst ed
              refine Good.of_steps s4 (IH _ _ _ _ _ _ _ _ _ _ _ _ _ _ ⟨by rw [hQ]; exact hl.1.filter _, fun y => ?_⟩ (A4.weak (HR.mapWeak A4.hr f4 (es0 := insEs L (e :: r0)) ?_ (hget_hset _ _ _) fun g hg => ?_) (fun g hg => ?_) pa4))
              · rw [hQ, List.mem_filter, hl.2 y, lorAll_inM]
                constructor
                · rintro ⟨⟨h5, h6⟩, h7⟩
                  refine ⟨h5, ?_⟩
                  rw [h6, Bool.false_or]
                  simp only [decide_eq_false_iff_not]
                  rintro ⟨x, hx, hxy⟩
                  have e2 := marked_inj ((hl.2 x).1 (memR x hx).1).1 h5 hxy
                  subst e2
                  rw [hR] at hx
                  rw [(List.mem_filter.1 hx).2] at h7
                  cases h7
                · rintro ⟨h5, h6⟩
                  rw [Bool.or_eq_false_iff] at h6
                  refine ⟨⟨h5, h6.1⟩, ?_⟩
                  cases hn : nowIn d y with
                  | false => rfl
                  | true =>
                    exfalso
                    have h8 : y ∈ x0 :: R' := by rw [hR]; exact List.mem_filter.2 ⟨(hl.2 y).2 ⟨h5, h6.1⟩, hn⟩
                    have := h6.2
                    simp only [decide_eq_false_iff_not] at this
                    exact this ⟨y, h8, rfl⟩
              · rw [insEs_kv, hr]
                exact (by simpa [kvs] using p4.symm)
              · rw [hget_hset_ne (fun e => hg e.symm), g4 g hg]
              · by_cases e2 : f = g
                · subst e2; rw [hget_hset]; rfl
                · rw [hget_hset_ne e2, ← g4 g (fun e => e2 e.symm)]; exact hg
include hE hS in
theorem plan_good : ∀ (fuel : Nat), PG E P C rest k fn dd rnd arr fuel
  | 0 => by
    intro d qs td idxs μ L h nx fr w ds cs frs Fs hl A
    trivial
  | fuel + 1 => by
    intro d qs td idxs μ L h nx fr w ds cs frs Fs hl A
    unfold plan
    generalize hg : takeQ E d td = g
    obtain ⟨a, r, d1⟩ := g
    simp only
    refine quiet_good hg hl.1 (fun e he => (hl.2 e).1 he) A fun L' h' nx' A' => ?_
    have hl' := hl.quiet hg
    cases hall : r.all (fun e => !(isQ E e.2.1 && subM e.2.2 d1)) with
    | false => trivial
    | true =>
      simp only [cond_true]
      obtain ⟨idxs', μ', fr', w', hst', hle, A2, hend⟩ := pend_run hE A'
      have head : ∀ j is, idxs' = j :: is → inM d1 j = false → ∃ oj, arr[j]? = some oj ∧ isQ E oj = false ∧ (j, oj, pre arr j) ∈ r := by
        intro j is e hdj
        subst e
        have hlt := A2.dr.lin.lt j (List.mem_cons_self ..)
        have hoj : arr[j]? = some arr[j] := Array.getElem?_eq_getElem hlt
        have hmem := (hl'.2 (j, arr[j], pre arr j)).2 ⟨mem_marked.2 ⟨hoj, rfl⟩, hdj⟩
        refine ⟨_, hoj, ?_, hmem⟩
        have := List.all_eq_true.1 hall _ hmem
        have hs : subM (pre arr j) d1 = true := subM_of fun p hp => (DrI.ahead A2.sd A2.dr hp).1
        simp only [hs, Bool.and_true, Bool.not_eq_true'] at this
        exact this
      cases r with
      | nil =>
        show Good E P C (.go (.mk L' rest (.mk fn ds .run dd rnd) cs h' nx')) _
        refine Good.of_steps hst' ?_
        rcases hend with rfl | ⟨j, is, rfl, hdj⟩
        · exact dat_end A2
        · obtain ⟨_, _, _, hmem⟩ := head j is rfl hdj
          cases hmem
      | cons e0 r0 =>
        simp only
        have many : Good E P C (ops E (match manyO E (qOf E (cxOf E fn)) arr (qs ++ a) ((e0 :: r0).filter (nowIn d1)) ((e0 :: r0).filter fun e => !nowIn d1 e) with
            | some r => .ins r :: plan E (qOf E (cxOf E fn)) arr fuel (lorAll d1 ((e0 :: r0).filter (nowIn d1))) (qs ++ a) ((e0 :: r0).filter fun e => !nowIn d1 e)
            | none => [.bad]) (.mk rest (.mk fn ds .run dd rnd) cs) L' h' nx') (lone fr (frs ++ C.cs0) w) := by
          cases hO : manyO E (qOf E (cxOf E fn)) arr (qs ++ a) ((e0 :: r0).filter (nowIn d1)) ((e0 :: r0).filter fun e => !nowIn d1 e) with
          | none => trivial
          | some r => exact Good.of_steps hst' (many_good hE (plan_good fuel) A2 hend hl' rfl rfl hO)
        cases hte : takeE E d1 (e0 :: r0) with
        | none => trivial
        | some p =>
          obtain ⟨⟨i, o, m⟩, r'⟩ := p
          simp only
          obtain ⟨t1, t2, t3, t4⟩ := takeE_spec hte
          have hx := (hl'.2 _).1 ((t3 _).2 (.inl rfl))
          obtain ⟨ho, rfl⟩ := mem_marked.1 hx.1
          have hdi : inM d1 i = false := hx.2
          have hlt : i < arr.size := (Array.getElem?_eq_some_iff.1 ho).1
          cases hal : r'.all (fun e => isQ E e.2.1 || inM e.2.2 i) with
          | true =>
            simp only [cond_true]
            refine Good.of_steps hst' ?_
            rcases hend with rfl | ⟨j, is, rfl, hdj⟩
            · rw [A2.dr.cd i hlt (by simp)] at hdi; cases hdi
            · obtain ⟨oj, hoj, hqj, hmem⟩ := head j is rfl hdj
              have hji : j = i := by
                rcases (t3 _).1 hmem with e | hmem
                · cases e; rfl
                · have := List.all_eq_true.1 hal _ hmem
                  simp only [hqj, Bool.false_or] at this
                  rw [(DrI.ahead A2.sd A2.dr this).1] at hdi; cases hdi
              subst hji
              exact effect_good hE hS (plan_good fuel) A2 hdj ho t1 (hl'.eff hte)
          | false =>
            simp only [cond_false]
            rcases r' with _ | ⟨⟨j, p, n⟩, _ | ⟨_, _⟩⟩
            · exact many
            · have hy := (hl'.2 _).1 ((t3 _).2 (.inr (List.mem_singleton.2 rfl)))
              obtain ⟨hp, rfl⟩ := mem_marked.1 hy.1
              have hdj : inM d1 j = false := hy.2
              have hij : i ≠ j := fun e => by
                have := marked_inj hx.1 hy.1 e
                exact (t4 hl'.1).2 (by rw [this]; exact List.mem_singleton.2 rfl)
              have hallD : ∀ e, e < arr.size → e ≠ i → e ≠ j → inM d1 e = true := by
                intro e he h1 h2
                cases hde : inM d1 e with
                | true => rfl
                | false =>
                  have hmem := (hl'.2 (e, arr[e], pre arr e)).2 ⟨mem_marked.2 ⟨Array.getElem?_eq_getElem he, rfl⟩, hde⟩
                  rcases (t3 _).1 hmem with e1 | e1
                  · cases e1; exact absurd rfl h1
                  · rw [List.mem_singleton] at e1; cases e1; exact absurd rfl h2
              simp only
              cases hst : isSt o && isSt p with
              | false => exact many
              | true =>
                simp only [Bool.and_eq_true] at hst
                simp only [cond_true]
                cases hpe : pend E (qOf E (cxOf E fn)) arr (Nat.land (pre arr i) (pre arr j)) (qs ++ a) with
                | cons _ _ => trivial
                | nil =>
                  simp only
                  unfold twoI
                  cases he1 : effI (qOf E (cxOf E fn)) E o.op <;> first | trivial | skip
                  rename_i n x y
                  cases he2 : effI (qOf E (cxOf E fn)) E p.op <;> first | trivial | skip
                  rename_i m x' y'
                  show Good E P C (asPtr (getO x L') .fail fun f _ _ => asPtr (getO x' L') .fail fun f' _ _ => cnd (Key.beq f f') .fail
                    (opt (xStore n x y h' nx' L') .fail fun r => Tn.rec (motive := fun _ => Sp) (fun _ h nx =>
                      opt (xStore m x' y' h nx L') .fail fun r => Tn.rec (motive := fun _ => Sp) (fun _ h nx => .go (.mk L' rest (.mk fn ds .run dd rnd) cs h nx)) r) r)) _
                  cases hx0 : getO x L' <;> first | trivial | skip
                  rename_i f g oo
                  cases hx1 : getO x' L' <;> first | trivial | skip
                  rename_i f' g' oo'
                  show Good E P C (cnd (Key.beq f f') .fail _) _
                  cases hb : Key.beq f f' with
                  | true => trivial
                  | false =>
                    have hne := Key.beq_ne hb
                    simp only [cnd_false]
                    cases hs1 : xStore n x y h' nx' L' with
                    | none => trivial
                    | some r1 =>
                      obtain ⟨F1, f1, g1⟩ := xStore_fn hx0 hs1
                      have hr1 := (g1 h' nx' rfl).symm.trans hs1
                      simp only [Option.some.injEq] at hr1
                      subst hr1
                      show Good E P C (opt (xStore m x' y' (F1 h') nx' L') .fail fun r => Tn.rec (motive := fun _ => Sp) (fun _ h nx => .go (.mk L' rest (.mk fn ds .run dd rnd) cs h nx)) r) _
                      cases hs2 : xStore m x' y' (F1 h') nx' L' with
                      | none => trivial
                      | some r2 =>
                        obtain ⟨F2, f2, g2⟩ := xStore_fn hx1 hs2
                        have hr2 := (g2 (F1 h') nx' rfl).symm.trans hs2
                        simp only [Option.some.injEq] at hr2
                        subst hr2
                        show Good E P C (.go (.mk L' rest (.mk fn ds .run dd rnd) cs (F2 (F1 h')) nx')) _
                        refine Good.of_steps hst' ?_
                        rcases hend with rfl | ⟨j0, is, rfl, hdj0⟩
                        · rw [A2.dr.cd i hlt (by simp)] at hdi; cases hdi
                        · have hj0 : j0 = i ∨ j0 = j := by
                            by_cases e1 : j0 = i
                            · exact .inl e1
                            · by_cases e2 : j0 = j
                              · exact .inr e2
                              · rw [hallD j0 (A2.dr.lin.lt j0 (List.mem_cons_self ..)) e1 e2] at hdj0; cases hdj0
                          have hno : ∀ e, e ∈ is → inM (pre arr j0) e = false := fun e he => by
                            cases hh : inM (pre arr j0) e with
                            | false => rfl
                            | true => exact absurd (List.mem_cons_of_mem _ he) (DrI.ahead A2.sd A2.dr hh).2
                          have pa : ∀ e o', e ∈ is → inM d1 e = true → arr[e]? = some o' → ∀ h', PendH E (cxOf E fn) arr h' o' L' := by
                            intro e o' he hde ho' h0
                            refine free_pendH A2 hpe (List.mem_cons_of_mem _ he) hde ho' ?_ h0
                            rw [inM_land]
                            rcases hj0 with e1 | e1 <;> subst e1 <;> rw [hno e he] <;> simp
                          rcases hj0 with e1 | e1
                          · subst e1
                            obtain ⟨fr2, w2, μ2, d2, k1, k2, k3⟩ := two_run hE A2 hdi hdj hij hallD ho hst.1 he1 hs1 hp hst.2 he2 hs2 pa
                            exact Good.of_steps k1 (dat_end k3)
                          · subst e1
                            have q1 : xStore m x' y' h' nx' L' = some (.mk undefA (F2 h') nx') := g2 h' nx' (f1.off _ _ (fun e => hne e.symm)).symm
                            have q2 : xStore n x y (F2 h') nx' L' = some (.mk undefA (F1 (F2 h')) nx') := g1 (F2 h') nx' (f2.off _ _ hne)
                            obtain ⟨fr2, w2, μ2, d2, k1, k2, k3⟩ := two_run hE A2 hdj hdi (Ne.symm hij) (fun e he h1 h2 => hallD e he h2 h1) hp hst.2 he2 q1 ho hst.1 he1 q2 pa
                            refine Good.of_steps k1 (dat_end (k3.same fun key => ?_))
                            by_cases e1 : key = f
                            · subst e1
                              rw [f2.off _ _ hne, f1.at' h' (F2 h') (f2.off _ _ hne)]
                            · by_cases e2 : key = f'
                              · subst e2
                                rw [f1.off _ _ e1, f2.at' h' (F1 h') (f1.off _ _ e1)]
                              · rw [f2.off _ _ e2, f1.off _ _ e1, f1.off _ _ e1, f2.off _ _ e2]
            · exact many
end
end
end Go.Ev

namespace Go.Ev
set_option linter.unusedVariables false
set_option linter.unusedSectionVars false
set_option linter.unusedSimpArgs false
noncomputable section
variable [Val] [Fk]
theorem drawn_ok {E : Env} {P : Program} (hE : EnvOk E P) {C : Call0} (hS : SumOk E P C) : DrawnOk E P C where
  start := by
    intro arr t rest fn ds dd rnd cs L h nx μ fr frs Fs w k hr hg he hf hs hk hkn htd ht
    unfold drawnIns
    simp only
    cases hb : (arr.toList.all fun o => okD (cxOf E fn).n o.dst && (resOk E (cxOf E fn).res o && dstOk E (opdW (cxOf E fn).nd (gl E) []) o)) && orderOk E arr (marked arr) with
    | false => trivial
    | true =>
      simp only [cond_true]
      simp only [Bool.and_eq_true] at hb
      have sd : DrSt E (cxOf E fn) arr := ⟨hb.1, hb.2⟩
      obtain ⟨l1, l2⟩ := lin_start (arr := arr) t (fun i o ho => (sd.ord1 ho).2.1)
      have hpk : (Region.schedule true arr t).filterMap (pk E (cxOf E fn) arr 0 L) = [] := by
        rw [List.filterMap_eq_nil_iff]
        intro i _
        exact pk_self sd (k := 0) (inM_zero i)
      refine plan_good hE hS (arr.size + 1) 0 [] (marked arr) _ μ L h nx fr w ds cs frs Fs ⟨marked_nodup arr, fun e => ⟨fun h => ⟨h, inM_zero _⟩, fun h => h.1⟩⟩
        ⟨sd, hr, hg, he, hf, hs, by rw [hpk]; simpa using hk, ht, htd, ⟨l1, fun i hi hn => absurd (l2 i hi) hn, fun i p _ h => ?_, fun i _ h => ?_, (fun e he => by cases he), fun t ht hX => hkn.need t ht (fun h => h), fun i o _ h => ?_⟩, fun i o _ h => ?_⟩
      all_goals (rw [inM_zero] at h; cases h)
  mid := by
    intro l rest fn ds dd rnd cs L h nx μ fr frs F Fs w hr hg he hf hs hk hb
    generalize ht : fr.todo = items at hb
    cases hb with
    | @mid arr i idxs fuel d qs td _ k sd htd hl hdr hp =>
      exact chk_good (plan_good hE hS fuel) sd hr hg he hf hs hk ht htd hdr hl hp
end
end Go.Ev

namespace Go.Ev
set_option linter.unusedVariables false
set_option linter.unusedSectionVars false
set_option linter.unusedSimpArgs false
noncomputable section
variable [Val] [Fk]
section
variable {E : Env} {P : Program} (hE : EnvOk E P) {C : Call0} (hS : SumOk E P C) (hD : DrawnOk E P C)
include hE hS hD in
theorem step_good {c : Cfg} {m : Machine} (hs : Sim E P C c m) : Good E P C (step E c) m := by
  cases hs with
  | @mk L todo fi cs h nx μ fr frs F Fs w hr hg he hf hst hk =>
    obtain ⟨fn, ds, md, dd, rnd⟩ := fi
    have hf' := hf
    cases hf with
    | mk hfi hb =>
      cases hfi with
      | mk g1 g2 g3 g4 g5 g6 g7 =>
        cases md with
        | run =>
          have g3 : fr.mode = .run := g3
          cases todo with
          | nil =>
            show Good E P C (leave E none [] L (.mk fn ds .run dd rnd) cs h nx) _
            have hfi2 : FiR E μ (.mk fn ds .run dd rnd) fr := .mk g1 g2 (show fr.mode = .run from g3) g4 g5 g6 g7
            generalize hit : fr.todo = items at hb
            cases hb with
            | out h0 h1 h2 => cases h0
            | drawn h1 => cases h1
            | plain hkn htd =>
              obtain ⟨cl', k', hcl, hhd, hsteps⟩ := htd.head (P := P) (isize items) (Nat.le_refl _)
              have hkn' : KnR (cxOf E fn).nd μ cl' L fr.tmps := by rcases hcl with h | h <;> subst h; (exact hkn); exact hkn.forget
              refine Good.of_steps (hsteps fr _ w g3 hit) ?_
              cases hhd
              exact leave_good (todo := []) (fr := Frame.to fr []) (F := []) hr hg he (.mk (hfi2.to _) (.plain hkn' (.nil _))) g3 hst (by simpa using hk) (.inl ⟨rfl, rfl⟩)
          | cons x rest => exact run_good hE hS hD hr hg he hf' g3 hst hk
        | returning =>
          have g3 : fr.mode = .returning := g3
          exact unwind_good hE hr hg he hf' (by rw [g3]; intro hh; cases hh) hst hk
        | panicking ch =>
          obtain ⟨_, g3, _⟩ := g3
          exact unwind_good hE hr hg he hf' (by rw [g3]; intro hh; cases hh) hst hk
theorem allB_all {f : Cfg → Bool} : ∀ {l : List Cfg}, allB f l = true → ∀ c ∈ l, f c = true
  | [], _, c, hc => by cases hc
  | [a], h, c, hc => by
    rw [List.mem_singleton] at hc
    subst hc
    exact h
  | a :: b :: l, h, c, hc => by
    have h : cnd (f a) (allB f (b :: l)) false = true := h
    cases hfa : f a with
    | false => rw [hfa] at h; cases h
    | true =>
      rw [hfa] at h
      rcases List.mem_cons.1 hc with rfl | hc
      · exact hfa
      · exact allB_all (l := b :: l) h c hc
theorem Done.of_steps {a : AV} {m m' : Machine} (h : Steps P m m') (g : Done E P C a m') : Done E P C a m := by
  obtain ⟨fr, w, v, μ, h1, h2⟩ := g
  exact ⟨fr, w, v, μ, h.trans h1, h2⟩
include hE hS hD in
theorem run_sound : ∀ (n : Nat) {c : Cfg} {m : Machine}, run E n c = true → Sim E P C c m → Done E P C (.bool true) m
  | 0, _, _, h, _ => by cases h
  | n + 1, c, m, h, hs => by
    have hg := step_good hE hS hD hs
    have h : (Sp.rec (motive := fun _ => Bool) (fun c' => back (run E n) c') (fun v => asBool v false fun b => b) (fun l => allB (run E n) l) false (step E c) : Bool) = true := h
    cases hc : step E c with
    | go c' =>
      rw [hc] at h hg
      obtain ⟨m', h1, h2⟩ := hg
      exact (run_sound n (c := c') h h2).of_steps h1
    | done v =>
      rw [hc] at h hg
      cases v with
      | bool b =>
        have h : b = true := h
        subst h
        exact hg
      | _ => cases h
    | br l =>
      rw [hc] at h hg
      obtain ⟨c', hm, m', h1, h2⟩ := hg
      exact (run_sound n (allB_all h c' hm) h2).of_steps h1
    | fail => rw [hc] at h; cases h
def startB (E : Env) (n : Nat) (f : Nat) (vs : List AV) (h : Hp) (nx : Key) : Bool :=
  Sp.rec (motive := fun _ => Bool) (fun c' => back (run E n) c') (fun _ => false) (fun _ => false) false (enter E f vs false [] h nx)
include hE in
theorem enter_good0 {f : Nat} {vs : List AV} {args : Array Value} {h : Hp} {nx : Key} {μ : Mu} {w : World}
    (hv : VRs μ vs args.toList) (hr : HR C.W.heap.size μ h w) (hg : GR E μ) (he : Ext C.W.heap.size C.W w) :
    Good E P C (enter E f vs false [] h nx) (lone (Frame.enter P f args .normal) C.cs0 w) := by
  unfold enter
  cases hc : compBody E f with
  | none => trivial
  | some b =>
    simp only [opt_some]
    cases hl : Nat.ble vs.length 24 with
    | false => trivial
    | true =>
      simp only [cnd_true]
      unfold compBody at hc
      split at hc
      · rename_i fn hfn
        split at hc
        · rename_i c hbody
          simp only [Option.some.injEq] at hc
          subst hc
          have hP := hE.fs _ _ hfn
          have hn : nOf E f = fn.ntmps := by simp only [nOf, hfn]
          have htm : (Frame.enter P f args .normal).tmps = args ++ Array.replicate (fn.ntmps - args.size) undef := by simp [Frame.enter, hP]
          have htd : (Frame.enter P f args .normal).todo = [.code c] := by simp [Frame.enter, hP, hbody]
          refine ⟨_, .refl _ _, ?_⟩
          refine Sim.mk (F := []) (Fs := []) (fr := Frame.enter P f args .normal) (frs := []) hr hg he ?_ .nil ⟨.nil, fun f hf => by cases hf⟩
          refine .mk (.mk rfl (by simp [Frame.enter, DfsR]) rfl rfl rfl ?_ ⟨fn, hfn⟩) ?_
          · rw [htm, hn]; simp; omega
          · rw [htm, htd]
            refine .plain (cl := []) ⟨fun t ht _ => ?_, (fun e he => by cases he), fun u d x hm => by cases hm⟩ ?_
            · rw [tm_mk]
              rcases fillT_get vs (inNd_lt ht) with h0 | h0
              · rw [h0]; simp only [VR]
              · rw [h0]
                cases hvt : vs[t]? with
                | none => simp only [Option.getD_none, VR]
                | some a =>
                  simp only [Option.getD_some]
                  obtain ⟨v, e1, e2⟩ := hv.get hvt
                  rw [Array.getElem?_toList] at e1
                  have hlt : t < args.size := (Array.getElem?_eq_some_iff.1 e1).1
                  rw [Array.getD_eq_getD_getElem?, Array.getElem?_append_left hlt, e1]
                  exact e2
            · have := TodoR.code (E := E) (x := cxOf E f) (μ := μ) (cl := []) (c := c) (.nil (aft (cxOf E f).nd [] c))
              rw [List.append_nil] at this
              exact this
        · cases hc
      · cases hc
end
theorem run_calls {E : Env} {P : Program} (hE : EnvOk E P) {W : World} (hS : ∀ cs, SumOk E P ⟨cs, W⟩) (hD : ∀ cs, DrawnOk E P ⟨cs, W⟩) {n : Nat} {vs : List AV} {args : Array Value} {h : Hp} {nx : Key} {μ : Mu}
    (hv : VRs μ vs args.toList) (hr : HR W.heap.size μ h W) (hg : GR E μ) (hrun : startB E n E.root vs h nx = true) :
    Calls P E.root args W (fun e w' => e = .returned (.bool true) ∧ Ext W.heap.size W w') := by
  intro cs
  have hgo := enter_good0 (E := E) (P := P) hE (C := ⟨cs, W⟩) (f := E.root) (nx := nx) hv hr hg (Ext.refl _ _)
  unfold startB at hrun
  cases hen : enter E E.root vs false [] h nx with
  | go c =>
    rw [hen] at hrun hgo
    obtain ⟨m', h1, h2⟩ := hgo
    have hrun : run E n c = true := hrun
    obtain ⟨fr, w, v, ν, k1, k2, k3, k4, k5⟩ := run_sound hE (hS cs) (hD cs) n hrun h2
    simp only [VR] at k3
    subst k3
    exact ⟨.returned (.bool true), w, fr, ⟨rfl, k4⟩, h1.trans k1, k5, k2⟩
  | _ => rw [hen] at hrun; cases hrun
end
end Go.Ev

namespace Go.Ev
noncomputable section
set_option linter.unusedSectionVars false
variable [Val] [Fk]
theorem ev_calls {E : Env} {P : Program} (hE : EnvOk E P) {W : World} (hS : ∀ cs, SumOk E P ⟨cs, W⟩) {n : Nat} {vs : List AV} {args : Array Value} {h : Hp} {nx : Key} {μ : Mu}
    (hv : VRs μ vs args.toList) (hr : HR W.heap.size μ h W) (hg : GR E μ) (hrun : startB E n E.root vs h nx = true) :
    Calls P E.root args W (fun e w' => e = .returned (.bool true) ∧ Ext W.heap.size W w') :=
  run_calls hE hS (fun cs => drawn_ok hE (hS cs)) hv hr hg hrun
end
end Go.Ev

namespace Go.Ev
noncomputable section
set_option linter.unusedSectionVars false
variable [Val] [Fk]
/-! ## the laid variables, as the first heap -/
def flatF (E : Env) (go : TypeId → DataW Unit → Option (List AV)) : Nat → List (TypeId × Nat) → List (DataW Unit) → Option (List AV)
  | _, [], [] => some []
  | at_, (t, o) :: fs, d :: ds => bif Nat.beq o at_ then (match E.size t, go t d with
      | some n, some l => bif Nat.beq l.length n then (match flatF E go (at_ + n) fs ds with
          | some r => some (l ++ r)
          | none => none) else none
      | _, _ => none) else none
  | _, _, _ => none
def flatT (E : Env) : Nat → TypeId → DataW Unit → Option (List AV)
  | 0, _, _ => none
  | n + 1, t, d =>
    match E.und t, d with
    | some .bool, .lit (.bool b) => some [.bool b]
    | some (.int _), .lit (.int k n) => some [.int k n]
    | some .string, .lit (.string s) => some [.str (s.map UInt8.toNat)]
    | some (.struct fs), .agg ps => (match E.size t, flatF E (flatT E n) 0 (fs.toList.map fun f => (f.type, f.offset)) ps with
        | some n, some l => bif Nat.beq l.length n then some l else none
        | _, _ => none)
    | some (.array k e), .agg ps => (match E.size t, flatF E (flatT E n) 0 ((List.range k).map fun i => (e, i * E.P.cellsOf e)) ps with
        | some n, some l => bif Nat.beq l.length n then some l else none
        | _, _ => none)
    | _, _ => none
theorem mapM_cons_some {α β : Type} {f : α → Option β} {a : α} {as : List α} {xs : List β} (h : (a :: as).mapM f = some xs) : ∃ x r, f a = some x ∧ as.mapM f = some r ∧ xs = x :: r := by
  simp only [List.mapM_cons] at h
  cases hx : f a with
  | none => rw [hx] at h; simp at h
  | some x =>
    cases hr : as.mapM f with
    | none => rw [hx, hr] at h; simp at h
    | some r => rw [hx, hr] at h; simp at h; exact ⟨x, r, rfl, rfl, h.symm⟩
section
variable {E : Env} {P : Program} (hE : EnvOk E P) {w : World} {μ : Mu}
include hE
theorem EnvOk.cellsOf {t : TypeId} {n : Nat} (h : E.size t = some n) : P.cellsOf t = n := by
  obtain ⟨i, h1, h2⟩ := hE.size h
  simp [Program.cellsOf, h1, h2]
theorem flatF_sound {fuel : Nat} {go : TypeId → DataW Unit → Option (List AV)} {cs : List Value}
    (ih : ∀ t c d p l, DataW.trod (fun _ => ()) P w 0 (fun _ => true) false fuel t c = some (d, p) → go t d = some l → VRs μ l c) {α : Type} (τ : α → TypeId × Nat) :
    ∀ (as : List α) (at_ : Nat) (xs : List (DataW Unit × List MemPlace)) (l : List AV),
      as.mapM (fun a => DataW.trod (fun _ => ()) P w 0 (fun _ => true) false fuel (τ a).1 ((cs.drop (τ a).2).take (P.cellsOf (τ a).1))) = some xs →
      flatF E go at_ (as.map τ) (xs.map (·.1)) = some l → VRs μ l ((cs.drop at_).take l.length)
  | [], at_, xs, l, h, hl => by
    simp only [List.mapM_nil] at h
    cases h
    simp only [List.map_nil, flatF] at hl
    cases hl
    simp only [List.length_nil, List.take_zero]
    exact .nil
  | a :: as, at_, xs, l, h, hl => by
    obtain ⟨x, r, hx, hr, rfl⟩ := mapM_cons_some h
    rcases ht : τ a with ⟨t, o⟩
    simp only [List.map_cons, ht] at hl
    rw [ht] at hx
    replace hl : (bif Nat.beq o at_ then (match E.size t, go t x.1 with
          | some n, some l => bif Nat.beq l.length n then (match flatF E go (at_ + n) (as.map τ) (r.map (·.1)) with
              | some r => some (l ++ r)
              | none => none) else none
          | _, _ => none) else none) = some l := hl
    cases hb : Nat.beq o at_ with
    | false => rw [hb] at hl; cases hl
    | true =>
      rw [hb] at hl
      have ho : o = at_ := Nat.eq_of_beq_eq_true hb
      subst ho
      simp only [cond_true] at hl
      split at hl
      · rename_i n l1 hn hg
        cases hb2 : Nat.beq l1.length n with
        | false => rw [hb2] at hl; cases hl
        | true =>
          rw [hb2] at hl
          have hln : l1.length = n := Nat.eq_of_beq_eq_true hb2
          simp only [cond_true] at hl
          split at hl
          · rename_i l2 hf
            cases hl
            have i1 := ih _ _ x.1 x.2 l1 hx hg
            have i2 := flatF_sound ih τ as (o + n) r l2 hr hf
            rw [hE.cellsOf hn] at i1
            rw [List.length_append, List.take_add, hln, List.drop_drop]
            exact i1.append i2
          · cases hl
      · cases hl
omit hE in
theorem trod_structM {fuel : Nat} {t : TypeId} {fs : Array Field} {cs : List Value} {x : DataW Unit × List MemPlace} (hu : P.underlying t = some (.struct fs))
    (h : DataW.trod (fun _ => ()) P w 0 (fun _ => true) false (fuel + 1) t cs = some x) : cs.length = P.cellsOf t ∧ ∃ xs : List (DataW Unit × List MemPlace),
      fs.toList.mapM (fun f => DataW.trod (fun _ => ()) P w 0 (fun _ => true) false fuel f.type ((cs.drop f.offset).take (P.cellsOf f.type))) = some xs ∧ x.1 = .agg (xs.map (·.1)) := by
  unfold DataW.trod at h
  rw [hu] at h
  split at h <;> simp_all
  obtain ⟨hl, xs, hp, hd⟩ := h
  exact ⟨xs, hp, by rw [← hd]⟩
omit hE in
theorem trod_arrayM {fuel : Nat} {t e : TypeId} {n : Nat} {cs : List Value} {x : DataW Unit × List MemPlace} (hu : P.underlying t = some (.array n e))
    (h : DataW.trod (fun _ => ()) P w 0 (fun _ => true) false (fuel + 1) t cs = some x) : cs.length = P.cellsOf t ∧ ∃ xs : List (DataW Unit × List MemPlace),
      (List.range n).mapM (fun i => DataW.trod (fun _ => ()) P w 0 (fun _ => true) false fuel e ((cs.drop (i * P.cellsOf e)).take (P.cellsOf e))) = some xs ∧ x.1 = .agg (xs.map (·.1)) := by
  unfold DataW.trod at h
  rw [hu] at h
  split at h <;> simp_all
  obtain ⟨hl, xs, hp, hd⟩ := h
  exact ⟨xs, hp, by rw [← hd]⟩
theorem flatT_sound : ∀ (fuel n : Nat) (t : TypeId) (cs : List Value) (d : DataW Unit) (p : List MemPlace) (l : List AV),
    DataW.trod (fun _ => ()) P w 0 (fun _ => true) false fuel t cs = some (d, p) → flatT E n t d = some l → VRs μ l cs
  | 0, _, _, _, _, _, _, h, _ => by simp [DataW.trod] at h
  | fuel + 1, 0, _, _, _, _, _, _, h => by simp [flatT] at h
  | fuel + 1, n + 1, t, cs, d, p, l, h, hl => by
    unfold flatT at hl
    split at hl
    · rename_i b hu
      cases hl
      obtain ⟨b', rfl, e⟩ := DataW.trod_bool (hE.und hu) h
      simp only [Prod.mk.injEq, DataW.lit.injEq, Lit.bool.injEq] at e
      obtain ⟨rfl, _⟩ := e
      exact .cons (by simp only [VR]) .nil
    · rename_i k' k n' hu
      cases hl
      obtain ⟨m, rfl, e, _⟩ := DataW.trod_int (hE.und hu) h
      simp only [Prod.mk.injEq, DataW.lit.injEq, Lit.int.injEq] at e
      obtain ⟨⟨rfl, rfl⟩, _⟩ := e
      exact .cons (by simp only [VR]) .nil
    · rename_i b hu
      cases hl
      obtain ⟨s, rfl, e, _⟩ := DataW.trod_string (hE.und hu) h
      simp only [Prod.mk.injEq, DataW.lit.injEq, Lit.string.injEq] at e
      obtain ⟨rfl, _⟩ := e
      exact .cons (by simp only [VR]; exact ⟨s, rfl, rfl⟩) .nil
    · rename_i fs ps hu
      obtain ⟨hlen, xs, hp, hd⟩ := trod_structM (hE.und hu) h
      simp only [DataW.agg.injEq] at hd
      subst hd
      split at hl
      · rename_i k l' hk hf
        cases hb : Nat.beq l'.length k with
        | false => rw [hb] at hl; cases hl
        | true =>
          rw [hb] at hl
          have hln : l'.length = k := Nat.eq_of_beq_eq_true hb
          obtain rfl : l' = l := Option.some.inj hl
          have := flatF_sound hE (μ := μ) (cs := cs) (fun t c d p l h1 h2 => flatT_sound fuel n t c d p l h1 h2) (fun f : Field => (f.type, f.offset)) _ 0 xs l' hp hf
          rw [hE.cellsOf hk] at hlen
          rw [List.drop_zero, hln, ← hlen, List.take_length] at this
          exact this
      · cases hl
    · rename_i k e ps hu
      obtain ⟨hlen, xs, hp, hd⟩ := trod_arrayM (hE.und hu) h
      simp only [DataW.agg.injEq] at hd
      subst hd
      split at hl
      · rename_i k' l' hk hf
        cases hb : Nat.beq l'.length k' with
        | false => rw [hb] at hl; cases hl
        | true =>
          rw [hb] at hl
          have hln : l'.length = k' := Nat.eq_of_beq_eq_true hb
          obtain rfl : l' = l := Option.some.inj hl
          have hf' : flatF E (flatT E n) 0 ((List.range k).map fun i => (e, i * P.cellsOf e)) (xs.map (·.1)) = some l' := by rw [← hE.prog]; exact hf
          have := flatF_sound hE (μ := μ) (cs := cs) (fun t c d p l h1 h2 => flatT_sound fuel n t c d p l h1 h2) (fun i : Nat => (e, i * P.cellsOf e)) _ 0 xs l' hp hf'
          rw [hE.cellsOf hk] at hlen
          rw [List.drop_zero, hln, ← hlen, List.take_length] at this
          exact this
      · cases hl
    · cases hl
end
/-! ## the known variables -/
structure Gv where
  g : Nat
  sz : Nat
  l : List AV
def Gv.ob (x : Gv) : Ob := .cells true 0 x.sz (depthFor (x.l.length / x.sz) 25 0) (x.l.length / x.sz) (Tr.ofList (depthFor (x.l.length / x.sz) 25 0) (chunks x.sz (x.l.length / x.sz) x.l))
def ini1 (E : Env) (laid : List (String × DataW Unit)) (i sz : Nat) : Option Gv :=
  match laid[i]? with
  | some (n, d) => (match E.P.globalNamed n with
    | some g => (match (E.P.globals[g]?).map (·.type) with
      | some t => (match flatT E 8 t d with
        | some l => bif d.handleName?.isNone && Nat.blt 0 l.length && Nat.beq l.length ((l.length / sz) * sz) then some ⟨g, sz, l⟩ else none
        | none => none)
      | none => none)
    | none => none)
  | none => none
def iniAll (E : Env) (laid : List (String × DataW Unit)) : List (Nat × Nat) → Option (List Gv)
  | [] => some []
  | (i, sz) :: r => match ini1 E laid i sz, iniAll E laid r with
    | some x, some l => some (x :: l)
    | _, _ => none
def initH : List Gv → Hp
  | [] => hp0
  | x :: l => hset (Key.ofNat x.g) x.ob (initH l)
def initMu (gs : List Gv) : Mu := fun f g => bif Nat.beq g 0 then (gs.find? fun x => Key.beq (Key.ofNat x.g) f).map fun x => (x.g, 0, x.l.length) else none
def IniR (gs : List Gv) (W : World) : Prop := ∀ x ∈ gs, x.l.length = (x.l.length / x.sz) * x.sz ∧ ∃ cs e, W.heap[x.g]? = some (.cells cs e (0, 0)) ∧ ∀ μ, VRs μ x.l cs.toList
theorem IniR.ext {gs : List Gv} {W w : World} (h : IniR gs W) (he : Ext W.heap.size W w) : IniR gs w := fun x hx => by
  obtain ⟨h1, cs, e, h2, h3⟩ := h x hx
  have hlt : x.g < W.heap.size := (Array.getElem?_eq_some_iff.1 h2).1
  exact ⟨h1, cs, e, by rw [he.block _ hlt]; exact h2, h3⟩
theorem initH_get (gs : List Gv) (f : Key) : hget f (initH gs) = match gs.find? (fun x => Key.beq (Key.ofNat x.g) f) with | some x => x.ob | none => .none := by
  induction gs with
  | nil => exact hget_hp0 f
  | cons x l ih =>
    simp only [initH, List.find?_cons]
    cases hb : Key.beq (Key.ofNat x.g) f with
    | true => rw [Key.beq_eq hb]; exact hget_hset _ _ _
    | false => rw [hget_hset_ne (Key.beq_ne hb)]; exact ih
theorem initMu_some {gs : List Gv} {f : Key} {g b s n : Nat} (h : initMu gs f g = some (b, s, n)) :
    ∃ x ∈ gs, gs.find? (fun x => Key.beq (Key.ofNat x.g) f) = some x ∧ g = 0 ∧ b = x.g ∧ s = 0 ∧ n = x.l.length ∧ f = Key.ofNat b := by
  unfold initMu at h
  cases hb : Nat.beq g 0 with
  | false => rw [hb] at h; cases h
  | true =>
    rw [hb] at h
    replace h : (gs.find? fun x => Key.beq (Key.ofNat x.g) f).map (fun x => (x.g, 0, x.l.length)) = some (b, s, n) := h
    rw [Option.map_eq_some_iff] at h
    obtain ⟨x, hx, e⟩ := h
    cases e
    have h1 := List.find?_some hx
    exact ⟨x, List.mem_of_find?_eq_some hx, hx, Nat.eq_of_beq_eq_true hb, rfl, rfl, rfl, (Key.beq_eq h1).symm⟩
theorem ini_HR {gs : List Gv} {W : World} (hF : FkOk) (h : IniR gs W) (B : Nat) : HR B (initMu gs) (initH gs) W := by
  refine ⟨fun f g b s n f' g' s' n' h1 h2 _ => ?_, fun f g b s n h1 => ?_, fun f => ?_, fun f g g' b s n s' n' h1 h2 hg => by
    obtain ⟨_, _, _, e1, _⟩ := initMu_some h1
    obtain ⟨_, _, _, e2, _⟩ := initMu_some h2
    omega, hF, fun f b s n h1 => by obtain ⟨_, _, _, _, _, e1, _⟩ := initMu_some h1; exact e1⟩
  · obtain ⟨x, _, hx, _, hb, hs, hn, hf⟩ := initMu_some h1
    obtain ⟨y, _, hy, _, hb', hs', hn', hf'⟩ := initMu_some h2
    have : f = f' := hf.trans hf'.symm
    subst this
    rw [hx] at hy
    cases hy
    exact ⟨rfl, by rw [hs, hs'], by rw [hn, hn']⟩
  · obtain ⟨x, hm, _, _, hb, _, _, _⟩ := initMu_some h1
    obtain ⟨_, cs, e, h2, _⟩ := h x hm
    rw [hb]
    exact (Array.getElem?_eq_some_iff.1 h2).1
  · rw [initH_get]
    cases hf : gs.find? (fun x => Key.beq (Key.ofNat x.g) f) with
    | none =>
      intro g
      unfold initMu
      rw [hf]
      cases Nat.beq g 0 <;> rfl
    | some x =>
      obtain ⟨h1, cs, e, h2, h3⟩ := h x (List.mem_of_find?_eq_some hf)
      refine ⟨⟨Tr.ofList_wf _ _, fun r hr => ?_⟩, ⟨fun g hg => ?_, fun r l gw hg => ?_⟩, fun g b s n hm => ?_⟩
      · cases hg : (Tr.ofList (depthFor (x.l.length / x.sz) 25 0) (chunks x.sz (x.l.length / x.sz) x.l)).get r with
        | none => rfl
        | some y =>
          have := Tr.ofList_some _ _ _ _ hg
          have := (List.getElem?_eq_some_iff.1 this).1
          rw [chunks_length] at this; omega
      · unfold initMu
        cases hb : Nat.beq g 0 with
        | false => rfl
        | true => have := Nat.eq_of_beq_eq_true hb; omega
      · rw [(chunks_get _ _ _ _ _ _ (Tr.ofList_some _ _ _ _ hg)).2.1]; exact Nat.zero_le _
      · obtain ⟨y, _, hy, hg0, hb, hs, hn, _⟩ := initMu_some hm
        rw [hf] at hy
        cases hy
        subst hb hs hn
        refine ⟨fun hh => (by cases hh), Nat.zero_mod _, cs, e, (0, 0), h2, Or.inl rfl, ?_, fun r l gw hr _ _ => ?_⟩
        · have := (h3 (initMu gs)).length; simpa using this.symm
        · exact chunk_row h1 (.of (h3 _)) (Tr.ofList_some _ _ _ _ hr)
def bitsOk (m : Nat) (gs : List Gv) : Bool := Nat.blt m (2 ^ 64) && (List.range 64).all fun g => bif inM m g then (match gs.find? fun x => Key.beq (Key.ofNat x.g) (Key.ofNat g) with | some x => Nat.beq x.g g | none => false) else true
theorem ini_GR {E : Env} {gs : List Gv} (h : bitsOk E.gm gs = true) : GR E (initMu gs) := by
  intro g hg
  unfold bitsOk at h
  simp only [Bool.and_eq_true, List.all_eq_true, List.mem_range] at h
  obtain ⟨h1, h2⟩ := h
  have hlt : g < 64 := by
    rcases Nat.lt_or_ge g 64 with h' | h'
    · exact h'
    · exfalso
      have e1 : Nat.land E.gm (Nat.pow 2 g) = Nat.pow 2 g := Nat.eq_of_beq_eq_true hg
      have e2 : E.gm &&& 2 ^ g ≤ E.gm := Nat.and_le_left
      have e3 : E.gm &&& 2 ^ g = 2 ^ g := e1
      have e4 : E.gm < 2 ^ 64 := by simpa [Nat.blt_eq] using h1
      have e5 : 2 ^ 64 ≤ 2 ^ g := Nat.pow_le_pow_right (by decide) h'
      omega
  have := h2 g hlt
  have hg' : inM E.gm g = true := hg
  rw [hg'] at this
  replace this : (match gs.find? fun x => Key.beq (Key.ofNat x.g) (Key.ofNat g) with | some x => Nat.beq x.g g | none => false) = true := this
  split at this
  · rename_i x hx
    have e := Nat.eq_of_beq_eq_true this
    refine ⟨x.l.length, ?_⟩
    unfold initMu
    rw [hx, ← e]
    rfl
  · cases this
section
variable {E : Env} {P : Program} (hE : EnvOk E P) {W : World}
include hE
omit hE in
theorem laidVars_mem {n : String} {d : DataW Unit} : ∀ {laid : List (String × DataW Unit)} {ps : List MemPlace}, DataW.LaidVars P W laid ps → (n, d) ∈ laid →
    ∃ g t cs fuel p, P.globalNamed n = some g ∧ (P.globals[g]?).map (·.type) = some t ∧ W.var? P n = some cs ∧ DataW.trod (fun _ => ()) P W 0 (fun _ => true) false fuel t cs.toList = some (d, p) ∧
      ∀ q ∈ MemPlace.row ⟨g, 0, none⟩ cs.size, q ∈ ps
  | [], _, _, h => by cases h
  | (m, d') :: r, ps, hl, h => by
    obtain ⟨g, t, cs, fuel, p, q, h1, h2, h3, h4, h5, e⟩ := hl
    rcases List.mem_cons.1 h with h | h
    · cases h
      exact ⟨g, t, cs, fuel, p, h1, h2, h3, h4, fun x hx => by rw [e]; simp [hx]⟩
    · obtain ⟨g', t', cs', fuel', p', a1, a2, a3, a4, a5⟩ := laidVars_mem h5 h
      exact ⟨g', t', cs', fuel', p', a1, a2, a3, a4, fun x hx => by rw [e]; simp [a5 x hx]⟩
omit hE in
theorem laidMetH_data {laid : List (String × DataW Unit)} (h : laidMetH P laid W) : laidMet P (laid.filter fun x => x.2.handleName?.isNone) W := by
  unfold laidMetH at h
  split at h
  · rename_i hn
    have : (laid.filter fun x => x.2.handleName?.isNone) = laid := by
      rw [List.filter_eq_self]
      intro x hx
      rw [List.filter_eq_nil_iff] at hn
      have := hn x hx
      cases hh : x.2.handleName? with
      | none => rfl
      | some y => rw [hh] at this; exact absurd rfl this
    rw [this]; exact h
  · exact h.1
theorem ini_met {laid : List (String × DataW Unit)} (h : laidMetH P laid W) : ∀ {ks : List (Nat × Nat)} {gs : List Gv}, iniAll E laid ks = some gs → IniR gs W
  | [], gs, hg => by simp only [iniAll] at hg; cases hg; intro x hx; cases hx
  | (i, sz) :: r, gs, hg => by
    simp only [iniAll] at hg
    split at hg
    · rename_i x l h1 h2
      cases hg
      have ih := ini_met h h2
      intro y hy
      rcases List.mem_cons.1 hy with rfl | hy
      · unfold ini1 at h1
        split at h1
        · rename_i n d hi
          split at h1
          · rename_i g hn
            split at h1
            · rename_i t ht
              split at h1
              · rename_i l' hl
                have key : ∀ b : Bool, (bif b then some (Gv.mk g sz l') else none) = some y → b = true ∧ y = ⟨g, sz, l'⟩ := fun b hb => by cases b with | false => cases hb | true => cases hb; exact ⟨rfl, rfl⟩
                obtain ⟨hb, rfl⟩ := key _ h1
                simp only [Bool.and_eq_true] at hb
                obtain ⟨⟨b1, b2⟩, b3⟩ := hb
                have hmem : (n, d) ∈ laid.filter fun x => x.2.handleName?.isNone := by
                  rw [List.mem_filter]
                  exact ⟨List.mem_of_getElem? hi, b1⟩
                obtain ⟨ps, m1, m2, m3⟩ := laidMetH_data h
                obtain ⟨g', t', cs, fuel, p, a1, a2, a3, a4, a5⟩ := laidVars_mem m1 hmem
                rw [hE.prog] at hn ht
                rw [hn] at a1
                cases a1
                rw [ht] at a2
                cases a2
                have hv : ∀ μ, VRs μ l' cs.toList := fun μ => flatT_sound hE _ _ _ _ _ _ _ a4 hl
                have hlen := (hv (fun _ _ => none)).length
                have hpos : 0 < l'.length := by simpa [Nat.blt_eq] using b2
                refine ⟨Nat.eq_of_beq_eq_true b3, ?_⟩
                have hcell : MemPlace.cell g 0 ∈ ps := a5 _ (by
                  simp only [Array.length_toList] at hlen
                  simp [MemPlace.row]
                  omega)
                obtain ⟨⟨c, e, hc⟩, _⟩ := m3 _ _ hcell
                unfold World.var? at a3
                rw [hn] at a3
                simp only [Option.bind_some, hc, Option.some.injEq] at a3
                subst a3
                exact ⟨_, e, hc, hv⟩
              · cases h1
            · cases h1
          · cases h1
        · cases h1
      · exact ih y hy
    · cases hg
end
/-! ## the environment -/
def namesOk (fs : List Func) : Bool := fs.all fun f => bif f.body.isSome then bnot (f.name == "runtime.NumGoroutine") else true
theorem envOk {P : Program} {sum gm root : Nat} (hn : namesOk P.funcs.toList = true) (hm : P.follows .mixedOrders = true) : EnvOk { Env.of P sum gm with root := root } P where
  prog := rfl
  ts := fun t i h => by
    have := Tr.ofList_some _ _ _ _ h
    have h1 : P.types[t]? = some i := by simpa using this
    have h2 : t < P.types.size := (Array.getElem?_eq_some_iff.1 h1).1
    show Tables.info? P.toTables t = some i
    unfold Tables.info?
    rw [if_pos h2]
    exact h1
  fs := fun f fn h => by
    have := Tr.ofList_some _ _ _ _ h
    simpa using this
  names := fun f fn h hb => by
    have := Tr.ofList_some _ _ _ _ h
    have hm := List.mem_of_getElem? this
    unfold namesOk at hn
    rw [List.all_eq_true] at hn
    have := hn _ hm
    rw [hb] at this
    replace this : bnot (fn.name == "runtime.NumGoroutine") = true := this
    cases h : fn.name == "runtime.NumGoroutine" with
    | true => rw [h] at this; cases this
    | false => rfl
  mixed := hm
def initHv (gs : List Gv) (ivs : List (Key × Int × Int)) : Hp := ivs.foldl (fun h x => hset x.1 (.iv x.2.1 x.2.2) h) (initH gs)
def ivsOk (gs : List Gv) (ivs : List (Key × Int × Int)) : Bool := ivs.all fun x => gs.all fun y => bnot (Key.beq (Key.ofNat y.g) x.1)
theorem ini_HRv {gs : List Gv} {W : World} (h : IniR gs W) {B : Nat} : ∀ {ivs : List (Key × Int × Int)} {h0 : Hp}, HR B (initMu gs) h0 W → ivsOk gs ivs = true → (∀ x ∈ ivs, x.2.1 ≤ Val.n x.1 ∧ Val.n x.1 ≤ x.2.2) →
    HR B (initMu gs) (ivs.foldl (fun h x => hset x.1 (.iv x.2.1 x.2.2) h) h0) W
  | [], h0, k, _, _ => k
  | x :: ivs, h0, k, hok, hv => by
    unfold ivsOk at hok
    rw [List.all_cons, Bool.and_eq_true] at hok
    refine ini_HRv h (ivs := ivs) ?_ hok.2 fun y hy => hv y (List.mem_cons_of_mem _ hy)
    refine ⟨k.inj, k.lt, fun f' => ?_, k.side, k.fk, k.start⟩
    by_cases e : x.1 = f'
    · subst e
      rw [hget_hset]
      refine ⟨fun g => ?_, hv x (List.mem_cons_self ..)⟩
      cases hm : initMu gs x.1 g with
      | none => rfl
      | some y =>
        obtain ⟨b, s, n⟩ := y
        obtain ⟨z, hz, _, _, e1, _, _, e⟩ := initMu_some hm
        have := List.all_eq_true.1 hok.1 z hz
        rw [e, e1, Key.beq_refl] at this
        cases this
    · rw [hget_hset_ne e]; exact k.obj f'
theorem ini_callsV {E : Env} {P : Program} (hF : FkOk) (hE : EnvOk E P) {gs : List Gv} {W : World} (hi : IniR gs W) (hb : bitsOk E.gm gs = true)
    (hS : hasBody E E.sum = true → ∀ w, IniR gs w → Calls P E.sum #[] w (fun e w' => e = .returned (.bool true) ∧ Ext w.heap.size w w')) (hsm : Fk.sm = [] := by rfl) {n : Nat} {vs : List AV} {args : Array Value} {nx : Key}
    {ivs : List (Key × Int × Int)} (hok : ivsOk gs ivs = true) (hiv : ∀ x ∈ ivs, x.2.1 ≤ Val.n x.1 ∧ Val.n x.1 ≤ x.2.2)
    (hv : ∀ μ, VRs μ vs args.toList) (hrun : startB E n E.root vs (initHv gs ivs) nx = true) :
    Calls P E.root args W (fun e w' => e = .returned (.bool true) ∧ Ext W.heap.size W w') :=
  ev_calls hE (fun cs => ⟨fun w he hbd => hS hbd w (hi.ext he), fun s hs => by rw [hsm] at hs; cases hs⟩) (hv _) (ini_HRv hi (ini_HR hF hi _) hok hiv) (ini_GR hb) hrun
theorem ini_calls {E : Env} {P : Program} (hF : FkOk) (hE : EnvOk E P) {gs : List Gv} {W : World} (hi : IniR gs W) (hb : bitsOk E.gm gs = true)
    (hS : hasBody E E.sum = true → ∀ w, IniR gs w → Calls P E.sum #[] w (fun e w' => e = .returned (.bool true) ∧ Ext w.heap.size w w')) (hsm : Fk.sm = [] := by rfl) {n : Nat} {vs : List AV} {args : Array Value} {nx : Key}
    (hv : ∀ μ, VRs μ vs args.toList) (hrun : startB E n E.root vs (initH gs) nx = true) :
    Calls P E.root args W (fun e w' => e = .returned (.bool true) ∧ Ext W.heap.size W w') :=
  ev_calls hE (fun cs => ⟨fun w he hbd => hS hbd w (hi.ext he), fun s hs => by rw [hsm] at hs; cases hs⟩) (hv _) (ini_HR hF hi _) (ini_GR hb) hrun
end
end Go.Ev

namespace Go.Ev
noncomputable section
set_option linter.unusedSectionVars false
variable [Fk]
/-! a long run in pieces: the states between them stand as text -/
def startC (E : Env) (n : Nat) (f : Nat) (vs : List AV) (h : Hp) (nx : Key) : Sp :=
  Sp.rec (motive := fun _ => Sp) (fun c => runC E n c) (fun v => .done v) (fun l => .br l) .fail (enter E f vs false [] h nx)
theorem run_succ (E : Env) (n : Nat) (c : Cfg) : run E (n + 1) c = match step E c with
    | .go c' => run E n c'
    | .done v => asBool v false fun b => b
    | .br l => allB (run E n) l
    | .fail => false := by
  show Sp.rec (motive := fun _ => Bool) _ _ _ _ (step E c) = _
  cases step E c <;> rfl
theorem runC_succ (E : Env) (n : Nat) (c : Cfg) : runC E (n + 1) c = match step E c with
    | .go c' => runC E n c'
    | s => s := by
  show Sp.rec (motive := fun _ => Sp) _ _ _ _ (step E c) = _
  cases step E c <;> rfl
theorem run_split {E : Env} : ∀ {n m : Nat} {c c' : Cfg}, runC E n c = .go c' → run E m c' = true → run E (n + m) c = true
  | 0, m, c, c', h, k => by
    have : c = c' := by
      have h' : Sp.go c = Sp.go c' := h
      cases h'; rfl
    subst this
    rw [Nat.zero_add]; exact k
  | n + 1, m, c, c', h, k => by
    rw [runC_succ] at h
    rw [show n + 1 + m = (n + m) + 1 from by omega, run_succ]
    split at h
    · rename_i c1 h1
      rw [h1]; exact run_split h k
    · rename_i s hs
      exact absurd h (hs c')
theorem startB_split {E : Env} {n m f : Nat} {vs : List AV} {h : Hp} {nx : Key} {c' : Cfg} (hs : startC E n f vs h nx = .go c') (k : run E m c' = true) : startB E (n + m) f vs h nx = true := by
  unfold startC at hs
  unfold startB
  cases hen : enter E f vs false [] h nx with
  | go c => rw [hen] at hs; exact run_split hs k
  | _ => rw [hen] at hs; cases hs
/-! short words for states that stand as text -/
def I (n : Nat) : AV := .int .i64 (.ofNat n)
def U (n : Nat) : AV := .int .u8 (.ofNat n)
def O1 : N Ob := N.all .none
def O2 : N (N Ob) := N.all O1
def O3 : N (N (N Ob)) := N.all O2
def O4 : N (N (N (N Ob))) := N.all O3
def T1 : N AV := N.all .top
def T2 : N (N AV) := N.all T1
def bodyL (E : Env) (f : Nat) : List Ci := opt (compBody E f) [] fun b => b
def nthC : List Ci → Nat → Ci
  | [], _ => .bad
  | c :: _, 0 => c
  | _ :: l, n + 1 => nthC l n
def inA : Ci → List Ci
  | .cond _ a _ => a
  | .block _ b => b
  | .loop b => b
  | _ => []
def inB : Ci → List Ci
  | .cond _ _ b => b
  | _ => []
def regL : Ci → List Ins
  | .reg l => l
  | .mid l => l
  | _ => []
def scC : Ci → Code
  | .scope c => c
  | _ => .ret
def inS (E : Env) (f : Nat) : Ci → List Ci
  | .scope c => compC E (cxOf E f) [] c
  | _ => []
def rfA : Ci → Code
  | .rangeF _ _ a _ => a
  | _ => .ret
def rfB : Ci → Code
  | .rangeF _ _ _ b => b
  | _ => .ret
def dropC : Nat → List Ci → List Ci
  | 0, l => l
  | _ + 1, [] => []
  | n + 1, _ :: l => dropC n l
def dropI : Nat → List Ins → List Ins
  | 0, l => l
  | _ + 1, [] => []
  | n + 1, _ :: l => dropI n l
end
end Go.Ev

namespace Go.Ev
set_option linter.unusedSectionVars false
variable [Val] [Fk]
/-! what a run that leaves what was there says of a row's post -/
theorem keptBut_of_ext {W W' : World} (he : Ext W.heap.size W W') (may : MemPlace → Prop) : W.keptBut W' may := by
  refine ⟨he.os, he.output, fun i hi => ?_⟩
  rw [he.block i hi]
  cases W.heap[i]? with
  | none => rfl
  | some o => cases o <;> first | exact ⟨rfl, rfl, rfl, fun _ _ => rfl⟩ | exact .inr ⟨rfl, rfl⟩ | rfl
theorem post_of_ext {H : Type} {enc : TypeId × Value → H} {P : Program} {f : Func} {s : ChangeSpec} {apart fresh handsOn : Bool} {W W' : World} {args : Array Value} {v : Value} {ds gs : List (DataW H)} {before pa pv : List MemPlace}
    (hW : DataW.Whole enc P f.params.toList s.vars apart W args.toList ds gs before)
    (hres : ∀ (b : Nat) (sp : Nat → Bool) (hd : Bool), DataW.TrodAll enc P W' b sp hd f.resultTypes.toList (v.resultList f.resultTypes.size) (s.fn H (ds ++ gs)).results [])
    (hargs : ∀ sp : Nat → Bool, (∀ p ∈ before, sp p.block = true) → DataW.TrodAll enc P W' 0 sp true f.params.toList args.toList (s.fn H (ds ++ gs)).args pa)
    (hvars : ∀ sp : Nat → Bool, (∀ p ∈ before, sp p.block = true) → DataW.TrodVars enc P W' sp s.vars (s.fn H (ds ++ gs)).vars pv)
    (he : Ext W.heap.size W W') : s.post enc P f apart fresh handsOn false W args v W' := by
  have hold : ∀ p ∈ before, (fun b => decide (b < W.heap.size)) p.block = true := fun p hp => by simpa using hW.lt p hp
  exact ⟨ds, gs, before, [], pa, pv, hW, hres _ _ _, hargs _ hold, hvars _ hold, keptBut_of_ext he _, fun h => by cases h⟩
end Go.Ev

namespace Go.Ev
noncomputable section
set_option linter.unusedVariables false
set_option linter.unusedSectionVars false
variable [Val] [Fk]
/-! what any argument of a plain type is -/
def absF (E : Env) (go : TypeId → Option (List AV)) : Nat → List (TypeId × Nat) → Option (List AV)
  | _, [] => some []
  | at_, (t, o) :: fs => bif Nat.beq o at_ then (match E.size t, go t with
      | some n, some l => bif Nat.beq l.length n then (match absF E go (at_ + n) fs with
          | some r => some (l ++ r)
          | none => none) else none
      | _, _ => none) else none
def absT (E : Env) : Nat → TypeId → Option (List AV)
  | 0, _ => none
  | n + 1, t =>
    match E.und t with
    | some .bool => some [.ub]
    | some (.int .i64) => some [.rng .i64 (-9223372036854775808) 9223372036854775807]
    | some (.int .u8) => some [.rng .u8 0 255]
    | some (.int _) => some [.any]
    | some .string => some [.any]
    | some (.slice _) => some [.sl 0 9223372036854775807]
    | some (.struct fs) => (match E.size t, absF E (absT E n) 0 (fs.toList.map fun f => (f.type, f.offset)) with
        | some n, some l => bif Nat.beq l.length n then some l else none
        | _, _ => none)
    | some (.array k e) => (match E.size t, absF E (absT E n) 0 ((List.range k).map fun i => (e, i * E.P.cellsOf e)) with
        | some n, some l => bif Nat.beq l.length n then some l else none
        | _, _ => none)
    | _ => none
section
variable {E : Env} {P : Program} (hE : EnvOk E P) {w : World} {μ : Mu} {H : Type} {enc : TypeId × Value → H} {base : Nat} {sp : Nat → Bool} {held : Bool}
include hE
theorem absF_sound {fuel : Nat} {go : TypeId → Option (List AV)} {cs : List Value}
    (ih : ∀ t c x l, DataW.trod enc P w base sp held fuel t c = some x → go t = some l → VRs μ l c) {α : Type} (τ : α → TypeId × Nat) :
    ∀ (as : List α) (at_ : Nat) (xs : List (DataW H × List MemPlace)) (l : List AV),
      as.mapM (fun a => DataW.trod enc P w base sp held fuel (τ a).1 ((cs.drop (τ a).2).take (P.cellsOf (τ a).1))) = some xs →
      absF E go at_ (as.map τ) = some l → VRs μ l ((cs.drop at_).take l.length)
  | [], at_, xs, l, h, hl => by
    simp only [List.map_nil, absF] at hl
    cases hl
    simp only [List.length_nil, List.take_zero]
    exact .nil
  | a :: as, at_, xs, l, h, hl => by
    obtain ⟨x, r, hx, hr, rfl⟩ := mapM_cons_some h
    rcases ht : τ a with ⟨t, o⟩
    simp only [List.map_cons, ht] at hl
    rw [ht] at hx
    replace hl : (bif Nat.beq o at_ then (match E.size t, go t with
          | some n, some l => bif Nat.beq l.length n then (match absF E go (at_ + n) (as.map τ) with
              | some r => some (l ++ r)
              | none => none) else none
          | _, _ => none) else none) = some l := hl
    cases hb : Nat.beq o at_ with
    | false => rw [hb] at hl; cases hl
    | true =>
      rw [hb] at hl
      have ho : o = at_ := Nat.eq_of_beq_eq_true hb
      subst ho
      simp only [cond_true] at hl
      split at hl
      · rename_i n l1 hn hg
        cases hb2 : Nat.beq l1.length n with
        | false => rw [hb2] at hl; cases hl
        | true =>
          rw [hb2] at hl
          have hln : l1.length = n := Nat.eq_of_beq_eq_true hb2
          simp only [cond_true] at hl
          split at hl
          · rename_i l2 hf
            cases hl
            have i1 := ih _ _ x l1 hx hg
            have i2 := absF_sound ih τ as (o + n) r l2 hr hf
            rw [hE.cellsOf hn] at i1
            rw [List.length_append, List.take_add, hln, List.drop_drop]
            exact i1.append i2
          · cases hl
      · cases hl
omit hE in
theorem trod_structG {fuel : Nat} {t : TypeId} {fs : Array Field} {cs : List Value} {x : DataW H × List MemPlace} (hu : P.underlying t = some (.struct fs))
    (h : DataW.trod enc P w base sp held (fuel + 1) t cs = some x) : cs.length = P.cellsOf t ∧ ∃ xs : List (DataW H × List MemPlace),
      fs.toList.mapM (fun f => DataW.trod enc P w base sp held fuel f.type ((cs.drop f.offset).take (P.cellsOf f.type))) = some xs := by
  unfold DataW.trod at h
  rw [hu] at h
  split at h <;> simp_all
  obtain ⟨hl, xs, hp, hd⟩ := h
  exact ⟨xs, hp⟩
omit hE in
theorem trod_arrayG {fuel : Nat} {t e : TypeId} {n : Nat} {cs : List Value} {x : DataW H × List MemPlace} (hu : P.underlying t = some (.array n e))
    (h : DataW.trod enc P w base sp held (fuel + 1) t cs = some x) : cs.length = P.cellsOf t ∧ ∃ xs : List (DataW H × List MemPlace),
      (List.range n).mapM (fun i => DataW.trod enc P w base sp held fuel e ((cs.drop (i * P.cellsOf e)).take (P.cellsOf e))) = some xs := by
  unfold DataW.trod at h
  rw [hu] at h
  split at h <;> simp_all
  obtain ⟨hl, xs, hp, hd⟩ := h
  exact ⟨xs, hp⟩
theorem absT_sound : ∀ (fuel n : Nat) (t : TypeId) (cs : List Value) (x : DataW H × List MemPlace) (l : List AV),
    DataW.trod enc P w base sp held fuel t cs = some x → absT E n t = some l → VRs μ l cs
  | 0, _, _, _, _, _, h, _ => by simp [DataW.trod] at h
  | fuel + 1, 0, _, _, _, _, _, h => by simp [absT] at h
  | fuel + 1, n + 1, t, cs, x, l, h, hl => by
    unfold absT at hl
    split at hl
    · rename_i hu
      cases hl
      obtain ⟨b', rfl, _⟩ := DataW.trod_bool (hE.und hu) h
      exact .cons (by simp only [VR]; exact ⟨_, rfl⟩) .nil
    · rename_i hu
      cases hl
      obtain ⟨m, rfl, _, hw⟩ := DataW.trod_int (hE.und hu) h
      simp only [Lit.wf, Bool.and_eq_true, decide_eq_true_eq] at hw
      exact .cons (by simp only [VR]; exact ⟨m, rfl, hw.1, hw.2⟩) .nil
    · rename_i hu
      cases hl
      obtain ⟨m, rfl, _, hw⟩ := DataW.trod_int (hE.und hu) h
      simp only [Lit.wf, Bool.and_eq_true, decide_eq_true_eq] at hw
      exact .cons (by simp only [VR]; exact ⟨m, rfl, hw.1, hw.2⟩) .nil
    · rename_i k hu
      cases hl
      obtain ⟨m, rfl, _, hw⟩ := DataW.trod_int (hE.und hu) h
      exact .cons (by simp only [VR]; exact trivial) .nil
    · rename_i hu
      cases hl
      obtain ⟨s, rfl, _⟩ := DataW.trod_string (hE.und hu) h
      exact .cons (by simp only [VR]; exact trivial) .nil
    · rename_i el hu
      cases hl
      rcases DataW.trod_slice (hE.und hu) h with ⟨rfl, _⟩ | ⟨a, len, cap, elems, rest, n', _, rfl, _, _, h1, h2, _⟩
      · exact .cons (by simp only [VR]; exact ⟨none, 0, 0, rfl, Nat.zero_le _, Nat.zero_le _⟩) .nil
      · have h3 : maxLen = 9223372036854775807 := by decide
        exact .cons (by simp only [VR]; exact ⟨some a, len, cap, rfl, Nat.zero_le _, by omega⟩) .nil
    · rename_i fs hu
      obtain ⟨hlen, xs, hp⟩ := trod_structG (hE.und hu) h
      split at hl
      · rename_i k l' hk hf
        cases hb : Nat.beq l'.length k with
        | false => rw [hb] at hl; cases hl
        | true =>
          rw [hb] at hl
          have hln : l'.length = k := Nat.eq_of_beq_eq_true hb
          obtain rfl : l' = l := Option.some.inj hl
          have := absF_sound hE (μ := μ) (cs := cs) (fun t c x l h1 h2 => absT_sound fuel n t c x l h1 h2) (fun f : Field => (f.type, f.offset)) _ 0 xs l' hp hf
          rw [hE.cellsOf hk] at hlen
          rw [List.drop_zero, hln, ← hlen, List.take_length] at this
          exact this
      · cases hl
    · rename_i k e hu
      obtain ⟨hlen, xs, hp⟩ := trod_arrayG (hE.und hu) h
      split at hl
      · rename_i k' l' hk hf
        cases hb : Nat.beq l'.length k' with
        | false => rw [hb] at hl; cases hl
        | true =>
          rw [hb] at hl
          have hln : l'.length = k' := Nat.eq_of_beq_eq_true hb
          obtain rfl : l' = l := Option.some.inj hl
          have hf' : absF E (absT E n) 0 ((List.range k).map fun i => (e, i * P.cellsOf e)) = some l' := by rw [← hE.prog]; exact hf
          have := absF_sound hE (μ := μ) (cs := cs) (fun t c x l h1 h2 => absT_sound fuel n t c x l h1 h2) (fun i : Nat => (e, i * P.cellsOf e)) _ 0 xs l' hp hf'
          rw [hE.cellsOf hk] at hlen
          rw [List.drop_zero, hln, ← hlen, List.take_length] at this
          exact this
      · cases hl
    · cases hl
theorem absV_sound {r : Reach} {b0 n : Nat} {t : TypeId} {v : Value} {d : DataW H} {ps : List MemPlace} {l : List AV} (ha : (match E.und t with | some td => isAggT td | none => false) = true)
    (hok : Value.okWide P w r b0 t v) (h : DataW.Trod enc P w base sp held t v d ps) (hl : absT E n t = some l) : VR μ (.agg l) v := by
  obtain ⟨fuel, hf⟩ := h
  obtain ⟨td, hu, ha⟩ : ∃ td, E.und t = some td ∧ isAggT td = true := by
    split at ha
    · rename_i td hu; exact ⟨td, hu, ha⟩
    · cases ha
  have hv : ∃ cs, v = .agg cs := by
    unfold Value.okWide at hok
    rw [hE.und hu] at hok
    cases td <;> first | (obtain ⟨cs, e, _⟩ := hok; exact ⟨cs, e⟩) | cases ha
  obtain ⟨cs, rfl⟩ := hv
  simp only [VR]
  exact ⟨cs, rfl, absT_sound hE _ _ _ _ _ _ hf hl⟩
end
theorem below_of_ext {B : Nat} {W W' : World} (he : Ext B W W') : Go.RowKit.Below B W W' := ⟨he.os, he.tape, he.output, he.size, he.block⟩
theorem post_of_ext' {H : Type} {enc : TypeId × Value → H} {P : Program} {f : Func} {s : ChangeSpec} {apart fresh handsOn : Bool} {W W' : World} {args : Array Value} {v : Value} {ds gs : List (DataW H)} {before pa pv : List MemPlace}
    (hW : DataW.Whole enc P f.params.toList s.vars apart W args.toList ds gs before)
    (hres : ∀ (b : Nat) (sp : Nat → Bool) (hd : Bool), DataW.TrodAll enc P W' b sp hd f.resultTypes.toList (v.resultList f.resultTypes.size) (s.fn H (ds ++ gs)).results [])
    (hargs : DataW.TrodAll enc P W' 0 (fun b => decide (b < W.heap.size)) true f.params.toList args.toList (s.fn H (ds ++ gs)).args pa)
    (hvars : DataW.TrodVars enc P W' (fun b => decide (b < W.heap.size)) s.vars (s.fn H (ds ++ gs)).vars pv)
    (he : Ext W.heap.size W W') : s.post enc P f apart fresh handsOn false W args v W' :=
  ⟨ds, gs, before, [], pa, pv, hW, hres _ _ _, hargs, hvars, keptBut_of_ext he _, fun h => by cases h⟩
end
end Go.Ev
