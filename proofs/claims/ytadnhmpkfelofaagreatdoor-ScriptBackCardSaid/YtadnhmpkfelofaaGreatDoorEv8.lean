/- THE EVALUATOR, part 8 of 13: EvCtl3 EvCtl4 EvCtl5 EvCtl6 EvCtl7 -/
import Derived.Test.YtadnhmpkfelofaaGreatDoorEv7
set_option linter.unusedVariables false
set_option linter.unusedSectionVars false
set_option linter.unusedSimpArgs false
namespace Go.Ev
set_option linter.unusedVariables false
set_option linter.unusedSectionVars false
set_option linter.unusedSimpArgs false
noncomputable section
variable [Val] [Fk]
/-! ## regions that draw: what may not be done yet -/
def qOf (E : Env) (x : Cx) : Operand → Opd := opdW x.nd (gl E) []
def pre (arr : Array Oper) (i : Nat) : Nat := (Region.before arr).getD i 0
structure LinR (arr : Array Oper) (idxs : List Nat) : Prop where
  lt : ∀ i ∈ idxs, i < arr.size
  nodup : idxs.Nodup
  ord : ∀ a j b, idxs = a ++ j :: b → ∀ p, inM (pre arr j) p = true → p < arr.size ∧ p ∉ j :: b
def guardOf (arr : Array Oper) (o : Oper) : Option (Operand × Bool) :=
  match o.guard with
  | none => none
  | some (j, want) => match arr[j]? with
    | some p => match p.dst with
      | some t => some (.tmp t, want)
      | none => none
    | none => none
def GOn (E : Env) (x : Cx) (arr : Array Oper) (o : Oper) (L : Lo) : Prop :=
  o.guard = none ∨ ∃ y want, guardOf arr o = some (y, want) ∧ getO (qOf E x y) L = .bool want
def GOff (E : Env) (x : Cx) (arr : Array Oper) (o : Oper) (L : Lo) : Prop :=
  ∃ y want, guardOf arr o = some (y, want) ∧ (getO (qOf E x y) L = .bool (!want) ∨ ∃ vs, getO (qOf E x y) L = .tuple vs)
def tgtV (L : Lo) (o : Oper) : AV := match o.dst with | some t => getT t L.tm | none => undefA
def keyOfA : AV → Option Key
  | .ptr f _ _ => some f
  | .slice f _ _ _ _ _ _ => some f
  | .map f => some f
  | _ => none
def pk (E : Env) (x : Cx) (arr : Array Oper) (d : Nat) (L : Lo) (i : Nat) : Option Key :=
  match arr[i]? with
  | some o => bif inM d i then (match insU (qOf E x) E .no o with | .al _ _ => keyOfA (tgtV L o) | _ => none) else none
  | none => none
def Agr (E : Env) (x : Cx) (o : Oper) (L0 L : Lo) : Prop := ∀ y ∈ o.op.operands.toList, getO (qOf E x y) L0 = getO (qOf E x y) L
def PendL (E : Env) (x : Cx) (arr : Array Oper) (o : Oper) (L : Lo) : Prop :=
  (GOff E x arr o L ∧ ∀ t, o.dst = some t → getT t L.tm = undefA) ∨
  (GOn E x arr o L ∧ match insU (qOf E x) E .no o with
    | .pu _ p => memP p = true ∨ ∃ L0, Agr E x o L0 L ∧ ∀ h, ∃ v, p.ev E h L0 = some v ∧ ∀ t, o.dst = some t → v = getT t L.tm
    | .al _ _ => True
    | _ => False)
def PendH (E : Env) (x : Cx) (arr : Array Oper) (h : Hp) (o : Oper) (L : Lo) : Prop :=
  GOff E x arr o L ∨ match insU (qOf E x) E .no o with
    | .pu _ p => memP p = true → ∃ L0, Agr E x o L0 L ∧ ∃ v, p.ev E h L0 = some v ∧ ∀ t, o.dst = some t → v = getT t L.tm
    | .al _ p => ∃ L0 f, Agr E x o L0 L ∧ keyOfA (tgtV L o) = some f ∧ (hget f h).isNone = false ∧ p.ev h f L0 = some (hget f h, tgtV L o)
    | _ => False
structure DrSt (E : Env) (x : Cx) (arr : Array Oper) : Prop where
  ops : (arr.toList.all fun o => okD x.n o.dst && (resOk E x.res o && dstOk E (opdW x.nd (gl E) []) o)) = true
  order : orderOk E arr (marked arr) = true
structure DrI (E : Env) (x : Cx) (arr : Array Oper) (d : Nat) (qs : List (Nat × Oper × Nat)) (idxs : List Nat) (μ : Mu) (L : Lo) (tmps : Array Value) : Prop where
  lin : LinR arr idxs
  cd : ∀ i, i < arr.size → i ∉ idxs → inM d i = true
  dcl : ∀ i p, i < arr.size → inM d i = true → inM (pre arr i) p = true → inM d p = true
  hqs : ∀ i ∈ idxs, inM d i = true → ∃ o m, (i, o, m) ∈ qs
  qsm : ∀ e ∈ qs, e ∈ marked arr ∧ isQ E e.2.1 = true
  need : NeedR x.nd (fun t => ∃ i ∈ idxs, inM d i = true ∧ ∃ o, arr[i]? = some o ∧ o.dst = some t) μ L.tm tmps
  pl : ∀ i o, i ∈ idxs → inM d i = true → arr[i]? = some o → PendL E x arr o L
/-! ## frames -/
def PEsR (μ : Mu) : List PE → List PanicEntry → Prop
  | [], l => l = []
  | .mk v r :: es, l => ∃ u l', l = { v := u, recovered := r, goexit := false } :: l' ∧ VR μ v u ∧ PEsR μ es l'
def MdR (μ : Mu) : Md → FrameMode → Prop
  | .run, m => m = .run
  | .returning, m => m = .returning
  | .panicking ch, m => ∃ ch', m = .panicking ch' ∧ PEsR μ ch ch'
def RndR (μ : Mu) : Option Key → Option Nat → Prop
  | none, r => r = none
  | some l, r => ∃ b, AtR μ l b ∧ r = some b
inductive FiR (E : Env) (μ : Mu) : FI → Frame → Prop where
  | mk {fn ds md dd rnd fr} : fr.fn = fn → DfsR μ ds fr.defers → MdR μ md fr.mode → fr.kind = (if dd then .deferred else .normal) → RndR μ rnd fr.roundOf → nOf E fn ≤ fr.tmps.size →
      (∃ f, E.fs.get fn = some f) → FiR E μ (.mk fn ds md dd rnd) fr
def Left (arr : Array Oper) (d : Nat) (td : List (Nat × Oper × Nat)) : Prop := td.Nodup ∧ ∀ e, e ∈ td ↔ e ∈ marked arr ∧ inM d e.1 = false
inductive DrawnB (E : Env) (x : Cx) (μ : Mu) (L : Lo) (tmps : Array Value) : List Ci → List Item → List Key → Prop where
  | wait {arr i o idxs fuel d qs td rest k} : DrSt E x arr → TodoR E x μ [] rest k → arr[i]? = some o → isQ E o = false → inM d i = false → Left arr (Nat.lor d (Nat.pow 2 i)) td →
      DrI E x arr d qs (i :: idxs) μ L tmps →
      DrawnB E x μ L tmps (.wait (dst o.dst) (.chk (pend E (qOf E x) arr (pre arr i) qs) :: plan E (qOf E x) arr fuel (Nat.lor d (Nat.pow 2 i)) (qs.filter fun e => !inM (pre arr i) e.1) td) :: rest)
        (.inRegion arr (i :: idxs) :: k) (idxs.filterMap (pk E x arr d L))
  | mid {arr i idxs fuel d qs td rest k} : DrSt E x arr → TodoR E x μ [] rest k → Left arr d td →
      DrI E x arr d qs idxs μ L tmps → (∀ p, inM (pre arr i) p = true → p ∉ idxs) →
      DrawnB E x μ L tmps (.mid (.chk (pend E (qOf E x) arr (pre arr i) qs) :: plan E (qOf E x) arr fuel d (qs.filter fun e => !inM (pre arr i) e.1) td) :: rest)
        (.inRegion arr idxs :: k) (idxs.filterMap (pk E x arr d L))
inductive BodyR (E : Env) (fn : Nat) (μ : Mu) (L : Lo) (tmps : Array Value) : Md → List Ci → List Item → List Key → Prop where
  | plain {cl l k} : KnR (cxOf E fn).nd μ cl L tmps → TodoR E (cxOf E fn) μ cl l k → BodyR E fn μ L tmps .run l k []
  | waitP {cl : Cl} {arr : Array Oper} {i n l k} {o : Oper} : KnR (cxOf E fn).nd μ cl L tmps → i + 1 + n = arr.size → arr[i]? = some o → okD (cxOf E fn).n o.dst = true →
      TodoR E (cxOf E fn) μ (aftOs (cxOf E fn).nd (pushCl o.dst cl) (arr.toList.drop (i + 1))) l k →
      BodyR E fn μ L tmps .run (.wait (dstN (cxOf E fn).nd o.dst) (compOs E arr (cxOf E fn) (pushCl o.dst cl) (arr.toList.drop (i + 1))) :: l) (.inRegion arr (List.range' i (n + 1)) :: k) []
  | inRFP {l b rest k} : KnR (cxOf E fn).nd μ [] L tmps → AtR μ l b → TodoR E (cxOf E fn) μ [] rest k → BodyR E fn μ L tmps .run (.inRF l :: rest) (.inRangeFunc b :: k) []
  | drawn {l k F} : DrawnB E (cxOf E fn) μ L tmps l k F → BodyR E fn μ L tmps .run l k F
  | out {md l k X} : (match md with | .run => False | _ => True) → NeedR (cxOf E fn).nd X μ L.tm tmps → (∀ t, inM (cxOf E fn).res t = true → ¬ X t) → BodyR E fn μ L tmps md l k []
inductive FrR (E : Env) (μ : Mu) : Lo → List Ci → FI → Frame → List Key → Prop where
  | mk {L todo fn ds md dd rnd fr F} : FiR E μ (.mk fn ds md dd rnd) fr → BodyR E fn μ L fr.tmps md todo fr.todo F → FrR E μ L todo (.mk fn ds md dd rnd) fr F
inductive StR (E : Env) (μ : Mu) : List Fr → List Frame → List Key → Prop where
  | nil : StR E μ [] [] []
  | cons {L todo fi fr cs frs F Fs} : FrR E μ L todo fi fr F → StR E μ cs frs Fs → StR E μ (.mk L todo fi :: cs) (fr :: frs) (F ++ Fs)
def Kept1 (μ : Mu) (h : Hp) (F : List Key) : Prop := F.Nodup ∧ ∀ f ∈ F, (hget f h).isNone = false ∧ ∀ g, μ f g = none
structure Call0 where
  cs0 : List Frame
  W : World
inductive Sim (E : Env) (P : Program) (C : Call0) : Cfg → Machine → Prop where
  | mk {L todo fi cs h nx μ fr frs F Fs w} : HR C.W.heap.size μ h w → GR E μ → Ext C.W.heap.size C.W w → FrR E μ L todo fi fr F → StR E μ cs frs Fs → Kept1 μ h (F ++ Fs) →
      Sim E P C (.mk L todo fi cs h nx) (lone fr (frs ++ C.cs0) w)
def Done (E : Env) (P : Program) (C : Call0) (a : AV) (m : Machine) : Prop := ∃ fr w v μ, Steps P m (lone fr C.cs0 w) ∧ fr.leaving P w (.returned v) ∧ VR μ a v ∧ Ext C.W.heap.size C.W w ∧ fr.fn = E.root
def Good (E : Env) (P : Program) (C : Call0) : Sp → Machine → Prop
  | .go c, m => ∃ m', Steps P m m' ∧ Sim E P C c m'
  | .br l, m => ∃ c ∈ l, ∃ m', Steps P m m' ∧ Sim E P C c m'
  | .done a, m => Done E P C a m
  | .fail, _ => True
theorem Good.of_steps {E : Env} {P : Program} {C : Call0} {s : Sp} {m m' : Machine} (h : Steps P m m') (g : Good E P C s m') : Good E P C s m := by
  cases s with
  | go c => obtain ⟨m2, h1, h2⟩ := g; exact ⟨m2, h.trans h1, h2⟩
  | br l => obtain ⟨c, hc, m2, h1, h2⟩ := g; exact ⟨c, hc, m2, h.trans h1, h2⟩
  | done a => obtain ⟨fr, w, v, μ, h1, h2⟩ := g; exact ⟨fr, w, v, μ, h.trans h1, h2⟩
  | fail => trivial
/-! mono -/
theorem PEsR.mono {μ ν : Mu} (h : μ.le ν) : ∀ {a : List PE} {b : List PanicEntry}, PEsR μ a b → PEsR ν a b
  | [], b, k => k
  | .mk v r :: a, b, k => by obtain ⟨u, l', e, h1, h2⟩ := k; exact ⟨u, l', e, VR.mono h _ _ h1, PEsR.mono h h2⟩
theorem MdR.mono {μ ν : Mu} (h : μ.le ν) : ∀ {a : Md} {b : FrameMode}, MdR μ a b → MdR ν a b
  | .run, b, k => k
  | .returning, b, k => k
  | .panicking ch, b, k => by obtain ⟨ch', e, h1⟩ := k; exact ⟨ch', e, h1.mono h⟩
theorem RndR.mono {μ ν : Mu} (h : μ.le ν) : ∀ {a : Option Key} {b : Option Nat}, RndR μ a b → RndR ν a b
  | none, b, k => k
  | some l, b, k => by obtain ⟨b', h1, h2⟩ := k; exact ⟨b', h1.mono h, h2⟩
theorem FiR.mono {E : Env} {μ ν : Mu} (h : μ.le ν) {fi : FI} {fr : Frame} (k : FiR E μ fi fr) : FiR E ν fi fr := by
  cases k with
  | mk h1 h2 h3 h4 h5 h6 h7 => exact .mk h1 (h2.mono h) (h3.mono h) h4 (h5.mono h) h6 h7
theorem DrI.mono {E : Env} {x : Cx} {arr : Array Oper} {d : Nat} {qs : List (Nat × Oper × Nat)} {idxs : List Nat} {μ ν : Mu} {L : Lo} {tmps : Array Value} (h : μ.le ν) (k : DrI E x arr d qs idxs μ L tmps) :
    DrI E x arr d qs idxs ν L tmps := ⟨k.lin, k.cd, k.dcl, k.hqs, k.qsm, k.need.mono h, k.pl⟩
theorem DrawnB.mono {E : Env} {x : Cx} {μ ν : Mu} (h : μ.le ν) {L : Lo} {tmps : Array Value} {l : List Ci} {k : List Item} {F : List Key} (b : DrawnB E x μ L tmps l k F) : DrawnB E x ν L tmps l k F := by
  cases b with
  | wait h1 h2 h3 h4 h5 h6 h7 => exact .wait h1 (h2.mono h) h3 h4 h5 h6 (h7.mono h)
  | mid h1 h2 h3 h4 h5 => exact .mid h1 (h2.mono h) h3 (h4.mono h) h5
theorem BodyR.mono {E : Env} {fn : Nat} {μ ν : Mu} (h : μ.le ν) {L : Lo} {tmps : Array Value} {md : Md} {l : List Ci} {k : List Item} {F : List Key} (b : BodyR E fn μ L tmps md l k F) : BodyR E fn ν L tmps md l k F := by
  cases b with
  | plain h1 h2 => exact .plain (h1.mono h) (h2.mono h)
  | waitP h1 h2 h3 h4 h5 => exact .waitP (h1.mono h) h2 h3 h4 (h5.mono h)
  | inRFP h1 h2 h3 => exact .inRFP (h1.mono h) (h2.mono h) (h3.mono h)
  | drawn h1 => exact .drawn (h1.mono h)
  | out h0 h1 h2 => exact .out h0 (h1.mono h) h2
theorem FrR.mono {E : Env} {μ ν : Mu} (h : μ.le ν) {L : Lo} {l : List Ci} {fi : FI} {fr : Frame} {F : List Key} (b : FrR E μ L l fi fr F) : FrR E ν L l fi fr F := by
  cases b with
  | mk h1 h2 => exact .mk (h1.mono h) (h2.mono h)
theorem StR.mono {E : Env} {μ ν : Mu} (h : μ.le ν) {cs : List Fr} {frs : List Frame} {F : List Key} (b : StR E μ cs frs F) : StR E ν cs frs F := by
  induction b with
  | nil => exact .nil
  | cons h1 _ ih => exact .cons (h1.mono h) ih
theorem GR.mono {E : Env} {μ ν : Mu} (h : μ.le ν) (k : GR E μ) : GR E ν := fun g hg => by obtain ⟨n, hn⟩ := k g hg; exact ⟨n, h _ _ _ hn⟩
theorem Kept1.kp {μ ν : Mu} {h h' : Hp} {F : List Key} (k : Kept1 μ h F) (hk : Kp h μ h' ν) : Kept1 ν h' F := ⟨k.1, fun f hf => by
  obtain ⟨h1, h2⟩ := k.2 f hf
  obtain ⟨h3, h4⟩ := hk f h1
  exact ⟨h3, h4 h2⟩⟩
end
end Go.Ev

namespace Go.Ev
set_option linter.unusedVariables false
set_option linter.unusedSectionVars false
set_option linter.unusedSimpArgs false
noncomputable section
variable [Val] [Fk]
section
variable {E : Env} {P : Program} (hE : EnvOk E P) {C : Call0}
structure At (E : Env) (P : Program) (C : Call0) (ih : Ko) (l : List Ins) (rest : List Ci) (fn : Nat) (ds : List Df) (dd : Bool) (rnd : Option Key) (cs : List Fr) (d : Dst) (L : Lo) (h : Hp) (nx : Key)
    (μ : Mu) (fr : Frame) (frs : List Frame) (F Fs : List Key) (w : World) (arr : Array Oper) (i : Nat) (is : List Nat) (k : List Item) (o : Oper) : Prop where
  hr : HR C.W.heap.size μ h w
  gr : GR E μ
  ext : Ext C.W.heap.size C.W w
  fi : FiR E μ (.mk fn ds .run dd rnd) fr
  st : StR E μ cs frs Fs
  kept : Kept1 μ h (F ++ Fs)
  todo : fr.todo = .inRegion arr (i :: is) :: k
  op : arr[i]? = some o
  wait : ∀ ν, μ.le ν → BodyR E fn ν L fr.tmps .run (.wait d l :: rest) fr.todo F
  mid : ∀ ν a v, μ.le ν → VR ν a v → BodyR E fn ν (put d a L) (fr.finish v).tmps .run (.mid l :: rest) (fr.finish v).todo F
  out : ∃ X, NeedR (cxOf E fn).nd X μ L.tm fr.tmps ∧ ∀ t, inM (cxOf E fn).res t = true → ¬ X t
  go : ∀ ν a v h' nx' w' ds' fr' cs' frs', μ.le ν → VR ν a v → HR C.W.heap.size ν h' w' → GR E ν → Ext C.W.heap.size C.W w' → FiR E ν (.mk fn ds' .run dd rnd) fr' → fr'.tmps = fr.tmps → fr'.todo = fr.todo →
    StR E ν cs' frs' Fs → Kept1 ν h' (F ++ Fs) → Good E P C (ih (.mk rest (.mk fn ds' .run dd rnd) cs') (put d a L) h' nx') (lone (fr'.finish v) (frs' ++ C.cs0) w')
variable {ih : Ko} {l : List Ins} {rest : List Ci} {fn : Nat} {ds : List Df} {dd : Bool} {rnd : Option Key} {cs : List Fr} {d : Dst} {L : Lo} {h : Hp} {nx : Key}
    {μ : Mu} {fr : Frame} {frs : List Frame} {F Fs : List Key} {w : World} {arr : Array Oper} {i : Nat} {is : List Nat} {k : List Item} {o : Oper}
theorem At.mode (a : At E P C ih l rest fn ds dd rnd cs d L h nx μ fr frs F Fs w arr i is k o) : fr.mode = .run := by
  cases a.fi with
  | mk h1 h2 h3 h4 h5 h6 h7 => exact h3
theorem At.size (a : At E P C ih l rest fn ds dd rnd cs d L h nx μ fr frs F Fs w arr i is k o) : C.W.heap.size ≤ w.heap.size := a.ext.size
theorem finish_todo (fr : Frame) (v : Value) (ht : fr.todo = .inRegion arr (i :: is) :: k) : (fr.finish v).todo = .inRegion arr is :: k := by
  obtain ⟨fn, tmps, todo, ds, md, kd, rnd⟩ := fr
  simp only at ht; subst ht
  rfl
theorem finish_tmps (fr : Frame) (v : Value) (ht : fr.todo = .inRegion arr (i :: is) :: k) (ho : arr[i]? = some o) : (fr.finish v).tmps = match o.dst with | some t => fr.tmps.setIfInBounds t v | none => fr.tmps := by
  obtain ⟨fn, tmps, todo, ds, md, kd, rnd⟩ := fr
  simp only at ht; subst ht
  simp only [Frame.finish, ho, Option.bind_some]
  cases o.dst <;> rfl
theorem finish_rest (fr : Frame) (v : Value) (ht : fr.todo = .inRegion arr (i :: is) :: k) : (fr.finish v).fn = fr.fn ∧ (fr.finish v).defers = fr.defers ∧ (fr.finish v).mode = fr.mode ∧ (fr.finish v).kind = fr.kind ∧ (fr.finish v).roundOf = fr.roundOf := by
  obtain ⟨fn, tmps, todo, ds, md, kd, rnd⟩ := fr
  simp only at ht; subst ht
  exact ⟨rfl, rfl, rfl, rfl, rfl⟩
theorem FiR.finish {fi : FI} (hf : FiR E μ fi fr) (v : Value) (ht : fr.todo = .inRegion arr (i :: is) :: k) (ho : arr[i]? = some o) : FiR E μ fi (fr.finish v) := by
  obtain ⟨e1, e2, e3, e4, e5⟩ := finish_rest fr v ht
  have e6 := finish_tmps fr v ht ho
  cases hf with
  | mk h1 h2 h3 h4 h5 h6 h7 =>
    refine .mk (e1.trans h1) (e2 ▸ h2) (e3 ▸ h3) (e4.trans h4) (e5 ▸ h5) ?_ h7
    rw [e6]; cases o.dst <;> simpa using h6
theorem exec_step {nxt : Next} {v : Value} {w' : World} (hm : fr.mode = .run) (ht : fr.todo = .inRegion arr (i :: is) :: k) (ho : arr[i]? = some o) (hw : Region.wanted o (yielded arr fr.tmps) = true) (hd : ∀ c, o.op ≠ .defer c)
    (hr : (execOp fr.eval o).run P w = .ok nxt w') (hv : nextV nxt = some v) (cs : List Frame) : Steps P (lone fr cs w) (lone (fr.finish v) cs w') := by
  have hs := stepG_oper (P := P) (cs := cs) (w := w) hm ht ho hw (.inr hd)
  cases nxt <;> first | (cases hv; done) | skip
  · cases hv
    exact .one (next_of (by rw [hs]; exact apply_value hr))
  · cases hv
    exact .one (next_of (by rw [hs]; exact apply_skip hr))
include hE in
theorem u_good {q : Operand → Opd} (hq : ∀ x, VR μ (getO (q x) L) (fr.eval x)) (a : At E P C ih l rest fn ds dd rnd cs d L h nx μ fr frs F Fs w arr i is k o)
    (hw : Region.wanted o (yielded arr fr.tmps) = true)
    (hct : ∀ c, insU q E d o = .ct d c → Good E P C (c.run E d l ih (.mk rest (.mk fn ds .run dd rnd) cs) L h nx) (lone fr (frs ++ C.cs0) w)) :
    Good E P C ((insU q E d o).run E l ih (.mk rest (.mk fn ds .run dd rnd) cs) L h nx) (lone fr (frs ++ C.cs0) w) := by
  obtain ⟨dst, op, ty, pos, af, gd⟩ := o
  have hm := a.mode
  have hB := a.size
  have notD : kindOf E op ≠ 3 → ∀ c, (⟨dst, op, ty, pos, af, gd⟩ : Oper).op ≠ .defer c := fun hk c hh => by
    simp only at hh; subst hh; exact hk rfl
  unfold insU at hct ⊢
  simp only at hct ⊢
  split
  · -- quiet
    rename_i hk
    show Good E P C (opt ((pureI q E op).ev E h L) .fail fun v => ih _ (put d v L) h nx) _
    cases hev : (pureI q E op).ev E h L with
    | none => trivial
    | some x =>
      simp only [opt_some]
      obtain ⟨v, hr, hv⟩ := pure_sound (d := dst) (ty := ty) (pos := pos) (af := af) (gd := gd) hE a.hr a.gr hq hev
      refine Good.of_steps (exec_step hm a.todo a.op hw (notD (by rw [hk]; decide)) hr rfl _) ?_
      exact a.go μ x v h nx w ds fr cs frs (Mu.le_refl _) hv a.hr a.gr a.ext a.fi rfl rfl a.st a.kept
  · -- makes an object
    rename_i hk
    show Good E P C (opt ((allocI q E op).ev h nx L) .fail fun r => Prod.rec (motive := fun _ => Sp) (fun o v => cnd (hget nx h).isNone (ih _ (put d v L) (hset nx o h) nx.next) .fail) r) _
    cases hev : (allocI q E op).ev h nx L with
    | none => trivial
    | some r =>
      obtain ⟨ob, x⟩ := r
      simp only [opt_some]
      cases hnx : (hget nx h).isNone with
      | false => trivial
      | true =>
        simp only [cnd_true]
        obtain ⟨v, w', ν, hr, hv, hle, hh, he, hkp⟩ := alloc_sound (d := dst) (ty := ty) (pos := pos) (af := af) (gd := gd) hE a.hr hnx hB hq hev
        refine Good.of_steps (exec_step hm a.todo a.op hw (notD (by rw [hk]; decide)) hr rfl _) ?_
        exact a.go ν x v _ _ w' ds fr cs frs hle hv hh (a.gr.mono hle) (a.ext.trans he) (a.fi.mono hle) rfl rfl (a.st.mono hle) (a.kept.kp hkp)
  · -- turns memory
    rename_i hk
    show Good E P C (opt ((effI q E op).ev E h nx L) .fail fun r => Tn.rec (motive := fun _ => Sp) (fun v h nx => ih _ (put d v L) h nx) r) _
    cases hev : (effI q E op).ev E h nx L with
    | none => trivial
    | some r =>
      obtain ⟨x, h', nx'⟩ := r
      simp only [opt_some]
      obtain ⟨v, nxt, w', ν, hr, hnv, hv, hle, hh, he, hkp⟩ := eff_sound (d := dst) (ty := ty) (pos := pos) (af := af) (gd := gd) hE a.hr hB hq (fun f => rfl) hev
      refine Good.of_steps (exec_step hm a.todo a.op hw (notD (by rw [hk]; decide)) hr hnv _) ?_
      exact a.go ν x v _ _ w' ds fr cs frs hle hv hh (a.gr.mono hle) (a.ext.trans he) (a.fi.mono hle) rfl rfl (a.st.mono hle) (a.kept.kp hkp)
  · rename_i hk
    exact hct _ (by simp only [hk])
  · trivial
omit hE in
theorem HR.refine {B : Nat} {μ : Mu} {h : Hp} {w : World} (k : HR B μ h w) {f : Key} {lo hi lo' hi' : Int} (ho : hget f h = .iv lo hi) (h1 : lo' ≤ Val.n f) (h2 : Val.n f ≤ hi') : HR B μ (hset f (.iv lo' hi') h) w :=
  ⟨k.inj, k.lt, fun f' => by
    by_cases e : f = f'
    · subst e
      rw [hget_hset]
      have := k.obj f
      rw [ho] at this
      exact ⟨this.1, h1, h2⟩
    · rw [hget_hset_ne e]; exact k.obj f', k.side, k.fk, k.start⟩
omit hE in
theorem Kept1.refine {μ : Mu} {h : Hp} {F : List Key} {f : Key} {lo hi : Int} (k : Kept1 μ h F) : Kept1 μ (hset f (.iv lo hi) h) F := ⟨k.1, fun g hg => by
  by_cases e : f = g
  · subst e; rw [hget_hset]; exact ⟨rfl, (k.2 f hg).2⟩
  · rw [hget_hset_ne e]; exact k.2 g hg⟩
omit hE in
theorem pureI_ibin {q : Operand → Opd} {op : Op} {b : BinOp} {x y : Opd} (h : pureI q E op = .ibin b x y) : ∃ t xo yo yt, op = .binOp b t xo yo yt ∧ x = q xo ∧ y = q yo := by
  cases op with
  | binOp b' t xo yo yt =>
    have h : binI q E b' t xo yo = .ibin b x y := h
    unfold binI at h
    split at h
    · cases hb : isIntOrStr E t with
      | true => rw [hb] at h; cases h; exact ⟨_, _, _, _, rfl, rfl, rfl⟩
      | false => rw [hb] at h; cases h
    · cases hb : isIntOrStr E t with
      | true => rw [hb] at h; cases h; exact ⟨_, _, _, _, rfl, rfl, rfl⟩
      | false => rw [hb] at h; cases h
    · cases h; exact ⟨_, _, _, _, rfl, rfl, rfl⟩
  | _ =>
    exfalso
    simp only [pureI, convP, sliceP, lookupP, assertP, buildP, callP, lenP, cond_eq_ite] at h
    repeat' (first | (cases h; done) | split at h)
include hE in
theorem u_goodB {q : Operand → Opd} (hq : ∀ x, VR μ (getO (q x) L) (fr.eval x)) (a : At E P C ih l rest fn ds dd rnd cs d L h nx μ fr frs F Fs w arr i is k o)
    (hw : Region.wanted o (yielded arr fr.tmps) = true)
    (hct : ∀ c, insU q E d o = .ct d c → Good E P C (c.run E d l ih (.mk rest (.mk fn ds .run dd rnd) cs) L h nx) (lone fr (frs ++ C.cs0) w)) :
    Good E P C ((brk (insU q E d o)).run E l ih (.mk rest (.mk fn ds .run dd rnd) cs) L h nx) (lone fr (frs ++ C.cs0) w) := by
  have base := u_good hE hq a hw hct
  cases hi : insU q E d o with
  | pu d' p =>
    rw [hi] at base
    cases p with
    | ibin b x' y' =>
      show Good E P C ((bif isCmp b then Ins.pb d' b x' y' else Ins.pu d' (.ibin b x' y')).run E l ih (.mk rest (.mk fn ds .run dd rnd) cs) L h nx) _
      cases hc : isCmp b with
      | false => exact base
      | true =>
        simp only [cond_true]
        have hk : kindOf E o.op = 0 ∧ d' = d ∧ PI.ibin b x' y' = pureI q E o.op := by
          unfold insU at hi
          split at hi <;> first | (cases hi; done) | skip
          rename_i hk
          simp only [Ins.pu.injEq] at hi
          exact ⟨hk, hi.1.symm, hi.2.symm⟩
        obtain ⟨hk, rfl, hp⟩ := hk
        obtain ⟨t, xo, yo, yt, hop, rfl, rfl⟩ := pureI_ibin hp.symm
        obtain ⟨dst, op, ty, pos, af, gd⟩ := o
        simp only at hop
        subst hop
        show Good E P C (opt (xIbinH b (q xo) (q yo) h L) .fail fun v => asBool v (ubV v d' l ih (.mk rest (.mk fn ds .run dd rnd) cs) L h nx) fun _ => ih (.mk rest (.mk fn ds .run dd rnd) cs) (put d' v L) h nx) _
        cases hev : xIbinH b (q xo) (q yo) h L with
        | none => trivial
        | some x =>
          simp only [opt_some]
          obtain ⟨v, hr, hv⟩ := p_ibinH (P := P) (d := dst) (ty := ty) (pos := pos) (af := af) (gd := gd) (t := t) (yt := yt) a.hr hq hev
          have hs := exec_step (cs := frs ++ C.cs0) a.mode a.todo a.op hw (fun c hh => by cases hh) hr rfl
          have cont : Good E P C (ih (.mk rest (.mk fn ds .run dd rnd) cs) (put d' x L) h nx) (lone fr (frs ++ C.cs0) w) :=
            Good.of_steps hs (a.go μ x v h nx w ds fr cs frs (Mu.le_refl _) hv a.hr a.gr a.ext a.fi rfl rfl a.st a.kept)
          have sim : ∀ (b' : Bool) (h' : Hp), v = .bool b' → HR C.W.heap.size μ h' w → Kept1 μ h' (F ++ Fs) → ∃ m', Steps P (lone fr (frs ++ C.cs0) w) m' ∧ Sim E P C (.mk (put d' (.bool b') L) (.mid l :: rest) (.mk fn ds .run dd rnd) cs h' nx) m' := by
            intro b' h' e h1 h2
            exact ⟨_, hs, .mk h1 a.gr a.ext (.mk (a.fi.finish _ a.todo a.op) (a.mid μ (.bool b') v (Mu.le_refl _) (by simp only [VR]; exact e))) a.st h2⟩
          cases x with
          | ub =>
            simp only [VR] at hv
            obtain ⟨b1, rfl⟩ := hv
            show Good E P C (.br [.mk (put d' (.bool false) L) (.mid l :: rest) (.mk fn ds .run dd rnd) cs h nx, .mk (put d' (.bool true) L) (.mid l :: rest) (.mk fn ds .run dd rnd) cs h nx]) _
            cases b1 with
            | false => exact ⟨_, List.mem_cons_self .., sim false h rfl a.hr a.kept⟩
            | true => exact ⟨_, List.mem_cons_of_mem _ (List.mem_cons_self ..), sim true h rfl a.hr a.kept⟩
          | le f t neg =>
            simp only [VR] at hv
            show Good E P C (asIv (hget f h) .fail fun lo hi => .br [.mk (put d' (.bool neg) L) (.mid l :: rest) (.mk fn ds .run dd rnd) cs (hset f (.iv (iadd t 1) hi) h) nx, .mk (put d' (.bool (bnot neg)) L) (.mid l :: rest) (.mk fn ds .run dd rnd) cs (hset f (.iv lo t) h) nx]) _
            cases ho : hget f h <;> first | trivial | skip
            rename_i lo hi
            obtain ⟨g1, g2⟩ := a.hr.ivOf ho
            by_cases hle : Val.n f ≤ t
            · exact ⟨_, List.mem_cons_of_mem _ (List.mem_cons_self ..), sim _ _ (by rw [hv, decide_eq_true hle, bnot_eq]; cases neg <;> rfl) (a.hr.refine ho g1 hle) a.kept.refine⟩
            · exact ⟨_, List.mem_cons_self .., sim _ _ (by rw [hv, decide_eq_false hle]; cases neg <;> rfl) (a.hr.refine ho (by rw [iadd_eq]; omega) g2) a.kept.refine⟩
          | eqv f t neg =>
            simp only [VR] at hv
            show Good E P C (asIv (hget f h) .fail fun lo hi => .br (.mk (put d' (.bool (bnot neg)) L) (.mid l :: rest) (.mk fn ds .run dd rnd) cs (hset f (.iv t t) h) nx ::
              (cnd (ilt lo t) [.mk (put d' (.bool neg) L) (.mid l :: rest) (.mk fn ds .run dd rnd) cs (hset f (.iv lo (isub t 1)) h) nx] [] ++ cnd (ilt t hi) [.mk (put d' (.bool neg) L) (.mid l :: rest) (.mk fn ds .run dd rnd) cs (hset f (.iv (iadd t 1) hi) h) nx] []))) _
            cases ho : hget f h <;> first | trivial | skip
            rename_i lo hi
            obtain ⟨g1, g2⟩ := a.hr.ivOf ho
            by_cases he : Val.n f = t
            · exact ⟨_, List.mem_cons_self .., sim _ _ (by rw [hv, decide_eq_true he, bnot_eq]; cases neg <;> rfl) (a.hr.refine ho (by omega) (by omega)) a.kept.refine⟩
            · have hv' : v = .bool neg := by rw [hv, decide_eq_false he]; cases neg <;> rfl
              by_cases hlt : Val.n f < t
              · refine ⟨_, List.mem_cons_of_mem _ (List.mem_append_left _ ?_), sim neg (hset f (.iv lo (isub t 1)) h) hv' (a.hr.refine ho g1 (by rw [isub_eq]; omega)) a.kept.refine⟩
                have : ilt lo t = true := by rw [ilt_eq]; exact decide_eq_true (by omega)
                rw [this]; exact List.mem_cons_self ..
              · refine ⟨_, List.mem_cons_of_mem _ (List.mem_append_right _ ?_), sim neg (hset f (.iv (iadd t 1) hi) h) hv' (a.hr.refine ho (by rw [iadd_eq]; omega) g2) a.kept.refine⟩
                have : ilt t hi = true := by rw [ilt_eq]; exact decide_eq_true (by omega)
                rw [this]; exact List.mem_cons_self ..
          | _ => exact cont
    | _ => exact base
  | _ => rw [hi] at base; exact base
theorem g_goodG {i0 : Ins} {q : Operand → Opd} (hq : ∀ x, VR μ (getO (q x) L) (fr.eval x)) (a : At E P C ih l rest fn ds dd rnd cs d L h nx μ fr frs F Fs w arr i is k o)
    (hu : Region.wanted o (yielded arr fr.tmps) = true → Good E P C (i0.run E l ih (.mk rest (.mk fn ds .run dd rnd) cs) L h nx) (lone fr (frs ++ C.cs0) w)) :
    Good E P C ((insG q arr d o i0).run E l ih (.mk rest (.mk fn ds .run dd rnd) cs) L h nx) (lone fr (frs ++ C.cs0) w) := by
  have skip : Region.wanted o (yielded arr fr.tmps) = false → Good E P C (ih (.mk rest (.mk fn ds .run dd rnd) cs) (put d undefA L) h nx) (lone fr (frs ++ C.cs0) w) := fun hw =>
    Good.of_steps (.one (s_opSkip a.mode a.todo a.op hw)) (a.go μ undefA undef h nx w ds fr cs frs (Mu.le_refl _) vr_undef a.hr a.gr a.ext a.fi rfl rfl a.st a.kept)
  unfold insG
  cases hg : o.guard with
  | none => simp only; exact hu (by simp [Region.wanted, hg])
  | some p =>
    obtain ⟨j, want⟩ := p
    simp only
    cases hj : arr[j]? with
    | none => trivial
    | some p =>
      simp only
      cases hd : p.dst with
      | none => trivial
      | some t =>
        simp only
        have hqt := hq (.tmp t)
        have hev : fr.eval (.tmp t) = fr.tmps.getD t undef := rfl
        rw [hev] at hqt
        show Good E P C (asBool (getO (q (.tmp t)) L) (asTuple (getO (q (.tmp t)) L) .fail fun _ => ih _ (put d undefA L) h nx)
          fun b => cnd (cnd b want (bnot want)) (i0.run E l ih _ L h nx) (ih _ (put d undefA L) h nx)) _
        cases hv : getO (q (.tmp t)) L with
        | bool b =>
          rw [hv] at hqt
          simp only [VR] at hqt
          have hy : yielded arr fr.tmps j = some b := by
            have hin : fr.tmps[t]? = some (.bool b) := by
              rw [Array.getD_eq_getD_getElem?] at hqt
              cases hh : fr.tmps[t]? with
              | none => rw [hh] at hqt; cases hqt
              | some u => rw [hh] at hqt; simp only [Option.getD_some] at hqt; rw [hqt]
            simp [yielded, hj, hd, hin]
          have hw : Region.wanted o (yielded arr fr.tmps) = (b == want) := by
            simp only [Region.wanted, hg, hy]
            cases b <;> cases want <;> rfl
          show Good E P C (cnd (cnd b want (bnot want)) _ _) _
          have e1 : cnd b want (bnot want) = (b == want) := by cases b <;> cases want <;> rfl
          rw [e1]
          cases hbw : b == want with
          | true => exact hu (hw.trans hbw)
          | false => exact skip (hw.trans hbw)
        | tuple vs =>
          rw [hv] at hqt
          simp only [VR] at hqt
          obtain ⟨us, hus, _⟩ := hqt
          have hy : yielded arr fr.tmps j = none := by
            simp only [yielded, hj, Option.bind_some, hd]
            rw [Array.getD_eq_getD_getElem?] at hus
            cases hh : fr.tmps[t]? with
            | none => rfl
            | some u => rw [hh] at hus; simp only [Option.getD_some] at hus; rw [hus]
          have hw : Region.wanted o (yielded arr fr.tmps) = false := by simp [Region.wanted, hg, hy]
          exact skip hw
        | _ => trivial
theorem g_good {q : Operand → Opd} (hq : ∀ x, VR μ (getO (q x) L) (fr.eval x)) (a : At E P C ih l rest fn ds dd rnd cs d L h nx μ fr frs F Fs w arr i is k o)
    (hu : Region.wanted o (yielded arr fr.tmps) = true → Good E P C ((insU q E d o).run E l ih (.mk rest (.mk fn ds .run dd rnd) cs) L h nx) (lone fr (frs ++ C.cs0) w)) :
    Good E P C ((insOf q E arr d o).run E l ih (.mk rest (.mk fn ds .run dd rnd) cs) L h nx) (lone fr (frs ++ C.cs0) w) := g_goodG hq a hu
end
end
end Go.Ev

namespace Go.Ev
set_option linter.unusedVariables false
set_option linter.unusedSectionVars false
set_option linter.unusedSimpArgs false
noncomputable section
variable [Val] [Fk]
/-! ## frames that begin -/
theorem hd_get (l : List AV) : hd l = l[0]?.getD .top := by cases l <;> rfl
theorem tl_drop (l : List AV) : tl l = l.drop 1 := by cases l <;> rfl
theorem leaf8_sel (l : List AV) (c : D) : N.sel c (leaf8 l) = (l[c.toNat]?).getD .top := by
  cases c <;> simp only [leaf8, N.sel, hd_get, tl_drop, List.drop_drop, List.getElem?_drop, D.toNat] <;> rfl
theorem tl8_drop (l : List AV) : tl8 l = l.drop 8 := by simp only [tl8, tl_drop, List.drop_drop]
theorem toNat_ofNat {n : Nat} (h : n < 8) : (D.ofNat n).toNat = n := by
  match n, h with
  | 0, _ => rfl
  | 1, _ => rfl
  | 2, _ => rfl
  | 3, _ => rfl
  | 4, _ => rfl
  | 5, _ => rfl
  | 6, _ => rfl
  | 7, _ => rfl
theorem fillT_get (l : List AV) {t : Nat} (h : t < 512) : getT t (fillT l) = .top ∨ getT t (fillT l) = (l[t]?).getD .top := by
  show tget (D.ofNat (t / 64 % 8)) (D.ofNat (t / 8 % 8)) (D.ofNat (t % 8)) (fillT l) = .top ∨ tget (D.ofNat (t / 64 % 8)) (D.ofNat (t / 8 % 8)) (D.ofNat (t % 8)) (fillT l) = _
  have h2 : ∀ b c : D, N.sel c (N.sel b tl2) = .top := fun b c => by simp only [tl2, tl1, N.sel_all]
  have h1 : ∀ c : D, N.sel c tl1 = .top := fun c => by simp only [tl1, N.sel_all]
  rw [tget_eq]
  by_cases ht : t < 24
  · have e0 : t / 64 % 8 = 0 := by omega
    rw [e0]
    right
    have hc : t % 8 < 8 := Nat.mod_lt _ (by omega)
    have hb : t / 8 % 8 = 0 ∨ t / 8 % 8 = 1 ∨ t / 8 % 8 = 2 := by omega
    rcases hb with hb | hb | hb
    · rw [hb]
      show N.sel _ (leaf8 l) = _
      rw [leaf8_sel, toNat_ofNat hc]; congr 2; omega
    · rw [hb]
      show N.sel _ (leaf8 (tl8 l)) = _
      rw [leaf8_sel, toNat_ofNat hc, tl8_drop, List.getElem?_drop]; congr 2; omega
    · rw [hb]
      show N.sel _ (leaf8 (tl8 (tl8 l))) = _
      rw [leaf8_sel, toNat_ofNat hc, tl8_drop, tl8_drop, List.drop_drop, List.getElem?_drop]; congr 2; omega
  · left
    by_cases ha : t / 64 % 8 = 0
    · rw [ha]
      have hb : t / 8 % 8 = 3 ∨ t / 8 % 8 = 4 ∨ t / 8 % 8 = 5 ∨ t / 8 % 8 = 6 ∨ t / 8 % 8 = 7 := by omega
      rcases hb with hb | hb | hb | hb | hb <;> (rw [hb]; exact h1 _)
    · have ha' : t / 64 % 8 = 1 ∨ t / 64 % 8 = 2 ∨ t / 64 % 8 = 3 ∨ t / 64 % 8 = 4 ∨ t / 64 % 8 = 5 ∨ t / 64 % 8 = 6 ∨ t / 64 % 8 = 7 := by omega
      rcases ha' with ha' | ha' | ha' | ha' | ha' | ha' | ha' <;> (rw [ha']; exact h2 _ _)
section
variable {E : Env} {P : Program} (hE : EnvOk E P) {C : Call0}
include hE in
theorem enter_good {f : Nat} {vs : List AV} {args : Array Value} {dfd : Bool} {L' : Lo} {todo' : List Ci} {fi' : FI} {cs : List Fr} {h : Hp} {nx : Key} {μ : Mu} {fr : Frame} {frs : List Frame} {F Fs : List Key} {w : World}
    (hv : VRs μ vs args.toList) (hr : HR C.W.heap.size μ h w) (hg : GR E μ) (he : Ext C.W.heap.size C.W w) (hf : FrR E μ L' todo' fi' fr F) (hs : StR E μ cs frs Fs) (hk : Kept1 μ h (F ++ Fs)) :
    Good E P C (enter E f vs dfd (.mk L' todo' fi' :: cs) h nx) (lone (Frame.enter P f args (if dfd then .deferred else .normal)) (fr :: (frs ++ C.cs0)) w) := by
  unfold enter
  cases hc : compBody E f with
  | none => trivial
  | some b =>
    simp only [opt_some]
    cases hl : Nat.ble vs.length 24 with
    | false => trivial
    | true =>
      simp only [cnd_true]
      unfold compBody at hc
      split at hc
      · rename_i fn hfn
        split at hc
        · rename_i c hbody
          simp only [Option.some.injEq] at hc
          subst hc
          have hP := hE.fs _ _ hfn
          have hn : nOf E f = fn.ntmps := by simp only [nOf, hfn]
          have htm : (Frame.enter P f args (if dfd then .deferred else .normal)).tmps = args ++ Array.replicate (fn.ntmps - args.size) undef := by simp [Frame.enter, hP]
          have htd : (Frame.enter P f args (if dfd then .deferred else .normal)).todo = [.code c] := by simp [Frame.enter, hP, hbody]
          refine ⟨_, .refl _ _, ?_⟩
          have hst : StR E μ (.mk L' todo' fi' :: cs) (fr :: frs) (F ++ Fs) := .cons hf hs
          refine Sim.mk (F := []) (Fs := F ++ Fs) (fr := Frame.enter P f args (if dfd then .deferred else .normal)) (frs := fr :: frs) hr hg he ?_ hst (by simpa using hk)
          refine .mk (.mk rfl (by simp [Frame.enter, DfsR]) rfl (by cases dfd <;> rfl) rfl ?_ ⟨fn, hfn⟩) ?_
          · rw [htm, hn]; simp; omega
          · rw [htm, htd]
            refine .plain (cl := []) ⟨fun t ht _ => ?_, (fun e he => by cases he), fun u d x hm => by cases hm⟩ ?_
            · rw [tm_mk]
              rcases fillT_get vs (inNd_lt ht) with h0 | h0
              · rw [h0]; simp only [VR]
              · rw [h0]
                cases hvt : vs[t]? with
                | none => simp only [Option.getD_none, VR]
                | some a =>
                  simp only [Option.getD_some]
                  obtain ⟨v, e1, e2⟩ := hv.get hvt
                  rw [Array.getElem?_toList] at e1
                  have hlt : t < args.size := (Array.getElem?_eq_some_iff.1 e1).1
                  rw [Array.getD_eq_getD_getElem?, Array.getElem?_append_left hlt, e1]
                  exact e2
            · have := TodoR.code (E := E) (x := cxOf E f) (μ := μ) (cl := []) (c := c) (.nil (aft (cxOf E f).nd [] c))
              rw [List.append_nil] at this
              exact this
        · cases hc
      · cases hc
include hE in
theorem callFunc_run {f : Nat} {b : List Ci} (hc : compBody E f = some b) (args : Array Value) (w : World) : (callFunc f args).run P w = .ok (.enter f args) w := by
  unfold compBody at hc
  split at hc
  · rename_i fn hfn
    split at hc
    · rename_i c hbody
      have hP := hE.fs _ _ hfn
      have hnm := hE.names _ _ hfn (by rw [hbody]; rfl)
      simp only [callFunc, Sem.run_bind, run_program, Result.andThen_ok, hP, hnm, Bool.false_eq_true, if_false, hbody, Option.isNone_some, Sem.run_pure]
    · cases hc
  · cases hc
theorem enter_none {f : Nat} {vs : List AV} {dfd : Bool} {cs : List Fr} {h : Hp} {nx : Key} (hc : compBody E f = none) : enter E f vs dfd cs h nx = .fail := by
  unfold enter; rw [hc]; rfl
theorem VRs.headTail {μ : Mu} {x : AV} {rest : List AV} {args : Array Value} (h : VRs μ (x :: rest) args.toList) : ∃ v vs, args = (v :: vs).toArray ∧ VR μ x v ∧ VRs μ rest vs := by
  obtain ⟨v, r, e, h1, h2⟩ := h.cons_inv
  exact ⟨v, r, by apply Array.toList_inj.1; rw [e], h1, h2⟩
include hE in
theorem loadVar1_sound {μ : Mu} {h : Hp} {w : World} {B : Nat} (hr : HR B μ h w) {el : TypeId} {n : Nat} (hz : E.szA el = some (n, false)) {p : Key} {g o b s m : Nat} (hm : μ p g = some (b, s, m)) (hs : s ≤ o) {a : AV}
    (hg : getCell h p g o = some a) : ∃ v, (loadVar el ⟨b, o - s, none⟩).run P w = .ok v w ∧ VR μ a v := by
  obtain ⟨v, hv, hvr⟩ := getCell_sound hr hm hs hg
  obtain ⟨ds, hu, hsz, hag⟩ := szA_some hz
  refine ⟨v, ?_, hvr⟩
  simp only [loadVar, Sem.run_bind, Result.andThen_ok, hE.runAgg hu, hag, Bool.false_eq_true, if_false, run_load, hv]
include hE in
theorem loadVarN_sound {μ : Mu} {h : Hp} {w : World} {B : Nat} (hr : HR B μ h w) {el : TypeId} {n : Nat} (hz : E.szA el = some (n, true)) {p : Key} {g o b s m : Nat} (hm : μ p g = some (b, s, m)) (hs : s ≤ o) {l : List AV}
    (hg : getCells h p g o n = some l) : ∃ v, (loadVar el ⟨b, o - s, none⟩).run P w = .ok v w ∧ VR μ (.agg l) v := by
  obtain ⟨hlen, vs, hvs, hcell⟩ := getCells_sound hr hm hs hg
  obtain ⟨ds, hu, hsz, hag⟩ := szA_some hz
  refine ⟨.agg vs.toArray, ?_, by simp only [VR]; exact ⟨_, rfl, by simpa using hvs⟩⟩
  have hlen' : vs.length = n := by rw [← hvs.length, hlen]
  have hrun := run_loadCells_list (P := P) w ⟨b, o - s, none⟩ vs (fun j v hj => by
    have := hcell j v hj
    unfold Addr.add
    split
    · rename_i h0; subst h0; simpa using this
    · exact this)
  rw [hlen'] at hrun
  simp only [loadVar, Sem.run_bind, Sem.run_pure, Result.andThen_ok, hE.runAgg hu, hag, if_true, hE.runSize hsz, hrun]
include hE in
theorem callMethod_good {μ : Mu} {h : Hp} {x : AV} {v : Value} {name : String} {args : List AV} {vs : List Value} {k : Nat → List AV → Sp} {m : Machine} {w : World} {s : Sem Next} (hr : HR C.W.heap.size μ h w) (hx : VR μ x v) (ha : VRs μ args vs)
    (hs : s.run P w = (Go.callMethod v name vs.toArray).run P w)
    (hk : ∀ f avs (args' : Array Value), VRs μ avs args'.toList → s.run P w = (callFunc f args').run P w → Good E P C (k f avs) m) : Good E P C (Go.Ev.callMethod E h x name args k) m := by
  unfold Go.Ev.callMethod
  split
  · rename_i t a
    simp only [VR] at hx
    obtain ⟨y, rfl, hy⟩ := hx
    split
    · rename_i i hi
      have hinfo := hE.ts _ _ hi
      split
      · rename_i me hme
        cases hp : me.path.isEmpty with
        | false => trivial
        | true =>
          have hpath : me.path.toList = [] := by
            have : me.path = #[] := Array.isEmpty_iff.1 hp
            rw [this]
          have hfind : i.methods.find? (fun m => m.name == name) = some me := by rw [← Array.find?_toList]; exact hme
          simp only [cond_true]
          have fuel : ∃ n, P.types.size + Made.depth = n + 1 := ⟨P.types.size + 99, rfl⟩
          have run1 : ∀ {f : Nat} {b : Bool} {d : TypeDesc}, me.func = some (f, b) → E.und t = some d → ((∃ el, d = .pointer el) ∧ b = true ∨ (∀ el, d ≠ .pointer el) ∧ b = false) →
              (Go.callMethod (.iface t y) name vs.toArray).run P w = (callFunc f (#[y] ++ vs.toArray)).run P w := by
            intro f b d h1 h2 h3
            obtain ⟨n, hn⟩ := fuel
            unfold Go.callMethod
            simp only [Sem.run_bind, run_program, Result.andThen_ok, hn]
            have hmeth : (Go.method (n + 1) t y name).run P w = .ok (f, y) w := by
              unfold Go.method
              simp only [Sem.run_bind, typeInfo, run_program, Result.andThen_ok, hinfo, Sem.run_pure, hfind, hpath, Go.follow, h1]
              unfold Go.receiverAt
              simp only [Sem.run_bind, hE.runUnd h2, Result.andThen_ok]
              rcases h3 with ⟨⟨el, rfl⟩, rfl⟩ | ⟨h3, rfl⟩
              · simp [Go.Place.get]
              · cases d <;> first | exact absurd rfl (h3 _) | simp [Go.Place.get]
            rw [hmeth]
            simp only [Result.andThen_ok]
          have run2 : ∀ {f : Nat} {el : TypeId} {b : Addr} {z : Value}, me.func = some (f, false) → E.und t = some (.pointer el) → y = .pointer (some b) → (loadVar el b).run P w = .ok z w →
              (Go.callMethod (.iface t y) name vs.toArray).run P w = (callFunc f (#[z] ++ vs.toArray)).run P w := by
            intro f el b z h1 h2 h3 h4
            obtain ⟨n, hn⟩ := fuel
            unfold Go.callMethod
            simp only [Sem.run_bind, run_program, Result.andThen_ok, hn]
            have hmeth : (Go.method (n + 1) t y name).run P w = .ok (f, z) w := by
              unfold Go.method
              simp only [Sem.run_bind, typeInfo, run_program, Result.andThen_ok, hinfo, Sem.run_pure, hfind, hpath, Go.follow, h1]
              unfold Go.receiverAt
              simp only [Sem.run_bind, hE.runUnd h2, Result.andThen_ok]
              subst h3
              have hw : ∀ nm : String, Builtin.ssaWrapNilChk_ #[t] t #[.pointer (some b), strVal "", strVal nm] = pure (.pointer (some b)) := fun _ => rfl
              have ha' : asAddr (.pointer (some b)) = pure b := rfl
              simp only [Go.Place.get, Sem.run_bind, Sem.run_pure, Result.andThen_ok, hp, if_true, hw, ha', h4]
            rw [hmeth]
            simp only [Result.andThen_ok]
          split
          · rename_i f el h1 h2
            refine hk f _ (#[y] ++ vs.toArray) ?_ (hs.trans (run1 h1 h2 (.inl ⟨⟨el, rfl⟩, rfl⟩)))
            simp only [List.append_toArray, List.cons_append, List.nil_append]; exact .cons hy ha
          · rename_i f el h1 h2
            cases a with
            | ptr p g o =>
              simp only [VR] at hy
              obtain ⟨b, s', m', hm, hso, rfl⟩ := hy
              show Good E P C (match E.szA el with
                | some (_, false) => opt (getCell h p g o) .fail fun a => k f (a :: args)
                | some (n, true) => opt (getCells h p g o n) .fail fun l => k f (.agg l :: args)
                | none => .fail) m
              split
              · rename_i n' hz
                cases hc : getCell h p g o with
                | none => trivial
                | some c =>
                  obtain ⟨z, hz1, hz2⟩ := loadVar1_sound hE hr hz hm hso hc
                  refine hk f _ (#[z] ++ vs.toArray) ?_ (hs.trans (run2 h1 h2 rfl hz1))
                  simp only [List.append_toArray, List.cons_append, List.nil_append]; exact .cons hz2 ha
              · rename_i n' hz
                cases hc : getCells h p g o n' with
                | none => trivial
                | some l =>
                  obtain ⟨z, hz1, hz2⟩ := loadVarN_sound hE hr hz hm hso hc
                  refine hk f _ (#[z] ++ vs.toArray) ?_ (hs.trans (run2 h1 h2 rfl hz1))
                  simp only [List.append_toArray, List.cons_append, List.nil_append]; exact .cons hz2 ha
              · trivial
            | _ => trivial
          · rename_i f ds h3 h1 h2
            refine hk f _ (#[y] ++ vs.toArray) ?_ (hs.trans (run1 h1 h2 (.inr ⟨fun el hh => h3 el hh, rfl⟩)))
            simp only [List.append_toArray, List.cons_append, List.nil_append]; exact .cons hy ha
          · trivial
      · trivial
    · trivial
  · trivial
theorem putPs_sound {nd : Nat} {μ : Mu} : ∀ (ps : List Nat) (avs : List AV) (vs : List Value) (tm tm' : Tm) (tmps : Array Value), putPs tm ps avs = some tm' → VRs μ avs vs → NeedR nd NoX μ tm tmps → (∀ t ∈ ps, t < tmps.size ∧ t < 512) →
    ps.length = vs.length ∧ NeedR nd NoX μ tm' ((ps.zip vs).foldl (fun (tmps : Array Value) (p : Nat × Value) => tmps.setIfInBounds p.1 p.2) tmps) ∧ ((ps.zip vs).foldl (fun (tmps : Array Value) (p : Nat × Value) => tmps.setIfInBounds p.1 p.2) tmps).size = tmps.size
  | [], avs, vs, tm, tm', tmps, h, hv, hn, hp => by
    cases avs with
    | nil => cases h; rw [hv.nil_inv]; exact ⟨rfl, hn, rfl⟩
    | cons a avs => cases h
  | t :: ps, avs, vs, tm, tm', tmps, h, hv, hn, hp => by
    cases avs with
    | nil => cases h
    | cons a avs =>
      obtain ⟨v, vs, rfl, h1, h2⟩ := hv.cons_inv
      obtain ⟨p1, p2⟩ := hp t (by simp)
      have hh : NeedR nd NoX μ (setT t a tm) (tmps.setIfInBounds t v) := by
        intro u hu _
        rw [getD_set p1]
        by_cases htu : t = u
        · subst htu; rw [if_pos rfl, getT_setT]; exact h1
        · rw [if_neg htu, getT_setT_ne p2 (inNd_lt hu) htu]; exact hn u hu (fun h => h)
      obtain ⟨e1, e2, e3⟩ := putPs_sound ps avs vs (setT t a tm) tm' (tmps.setIfInBounds t v) h h2 hh (fun t' ht' => by simpa using hp t' (by simp [ht']))
      refine ⟨by simp [e1], e2, ?_⟩
      simp only [List.zip_cons_cons, List.foldl_cons]
      rw [e3]; simp
include hE in
theorem invokeFn_good {μ : Mu} {h : Hp} {w : World} (hr : HR C.W.heap.size μ h w) {fn : AFn} {F : Fn} {cap args : List AV} {caps argv : Array Value} {k : Nat → List AV → Sp} {r : Key → Nat → Tm → Code → Code → Sp} {m : Machine} {s : Sem Next}
    (hf : FnR μ fn F) (hc : VRs μ cap caps.toList) (ha : VRs μ args argv.toList) (hs : s.run P w = (invoke (.fn F caps) argv).run P w)
    (hk : ∀ f avs (args' : Array Value), VRs μ avs args'.toList → s.run P w = (callFunc f args').run P w → Good E P C (k f avs) m)
    (hrd : ∀ l b f tm tmps asg body, AtR μ l b → s.run P w = .ok (.round b f tmps asg body) w → NeedR (cxOf E f).nd NoX μ tm tmps → nOf E f ≤ tmps.size → (∃ fu, E.fs.get f = some fu) → Good E P C (r l f tm asg body) m) :
    Good E P C (invokeFn E h fn cap args k r) m := by
  unfold invokeFn
  split
  · rename_i f
    have hf : F = .func f := hf
    subst hf
    refine hk f _ (argv ++ caps) (by rw [Array.toList_append]; exact ha.append hc) ?_
    rw [hs]; rfl
  · rename_i name
    have hf : F = .method name := hf
    subst hf
    split
    · rename_i x rest
      obtain ⟨v, vs, rfl, h1, h2⟩ := ha.headTail
      refine callMethod_good hE (name := name) hr h1 h2 (s := s) ?_ hk
      rw [hs]
      simp only [invoke]
      have e1 : (v :: vs).toArray[0]? = some v := by simp
      have e2 : (v :: vs).toArray.extract 1 (v :: vs).toArray.size = vs.toArray := by simp
      simp only [e1, e2]
    · trivial
  · rename_i t path f pointer
    have hf : F = .via t path f pointer := hf
    subst hf
    split
    · rename_i x rest
      obtain ⟨v, vs, rfl, h1, h2⟩ := ha.headTail
      cases hp : path.isEmpty with
      | false => trivial
      | true =>
        have hpath : path.toList = [] := by
          have : path = #[] := Array.isEmpty_iff.1 hp
          rw [this]
        simp only [cond_true]
        have run1 : ∀ {d : TypeDesc}, E.und t = some d → ((∃ el, d = .pointer el) ∧ pointer = true ∨ (∀ el, d ≠ .pointer el) ∧ pointer = false) →
            (invoke (.fn (.via t path f pointer) caps) (v :: vs).toArray).run P w = (callFunc f (#[v] ++ vs.toArray)).run P w := by
          intro d h2 h3
          have e1 : (v :: vs).toArray[0]? = some v := by simp
          have e2 : (v :: vs).toArray.extract 1 (v :: vs).toArray.size = vs.toArray := by simp
          simp only [invoke, e1, e2]
          have hrv : (Go.receiverVia t v path pointer).run P w = .ok v w := by
            unfold Go.receiverVia
            simp only [hpath, Go.follow, Sem.run_bind, Sem.run_pure, Result.andThen_ok]
            unfold Go.receiverAt
            simp only [Sem.run_bind, hE.runUnd h2, Result.andThen_ok]
            rcases h3 with ⟨⟨el, rfl⟩, rfl⟩ | ⟨h3, rfl⟩
            · simp [Go.Place.get]
            · cases d <;> first | exact absurd rfl (h3 _) | simp [Go.Place.get]
          simp only [Sem.run_bind, hrv, Result.andThen_ok]
        have hva : VRs μ (x :: rest) (#[v] ++ vs.toArray).toList := by
          simp only [List.append_toArray, List.cons_append, List.nil_append]; exact .cons h1 h2
        split
        · rename_i el hu
          exact hk f _ _ hva (hs.trans (run1 hu (.inl ⟨⟨el, rfl⟩, rfl⟩)))
        · trivial
        · rename_i ds h3 hu
          exact hk f _ _ hva (hs.trans (run1 hu (.inr ⟨fun el hh => h3 el hh, rfl⟩)))
        · trivial
    · trivial
  · rename_i l
    obtain ⟨b, s0, n0, hm, hF⟩ := hf
    subst hF
    split
    · rename_i st pend f t ps asg body df x ho
      cases hx1 : Nat.beq x.nd (cxOf E f).nd with
      | false => trivial
      | true =>
        simp only [cnd_true]
        have hx1 := Nat.eq_of_beq_eq_true hx1
        cases hx2 : Nat.beq x.n (nOf E f) with
        | false => trivial
        | true =>
          simp only [cnd_true]
          have hx2 := Nat.eq_of_beq_eq_true hx2
          cases hfs : E.fs.get f with
          | none => trivial
          | some fu =>
            simp only [opt_some]
            cases hpp : putPs t ps args with
            | none => trivial
            | some t' =>
              simp only [opt_some]
              have hO := hr.obj l
              rw [ho] at hO
              obtain ⟨_, hO⟩ := hO
              obtain ⟨_, tmps, dfb, s', n', hheap, ⟨k1, k2, k3⟩, _⟩ := hO b s0 n0 hm
              obtain ⟨e1, e2, e3⟩ := putPs_sound ps args argv.toList t t' tmps hpp ha k1 (fun t ht => ⟨by have := (k3 t ht).1; omega, (k3 t ht).2⟩)
              have hfold : (ps.toArray.zip argv).foldl (fun (tmps : Array Value) (t, a) => tmps.setIfInBounds t a) tmps = (ps.zip argv.toList).foldl (fun (tmps : Array Value) (p : Nat × Value) => tmps.setIfInBounds p.1 p.2) tmps := by
                rw [← Array.foldl_toList, Array.toList_zip]
              refine hrd l b f t' ((ps.zip argv.toList).foldl (fun (tmps : Array Value) (p : Nat × Value) => tmps.setIfInBounds p.1 p.2) tmps) asg body ⟨s0, n0, hm⟩ ?_ (by rw [← hx1]; exact e2) (by rw [e3, ← hx2]; exact k2) ⟨fu, hfs⟩
              rw [hs]
              have hg : (Instr.getLoop b).run P w = .ok { state := st, pending := pend, fn := f, tmps := tmps, params := ps.toArray, assign := asg, body := body, defers := dfb } w := by
                simp only [Instr.getLoop, getObj, Sem.run_bind, Sem.run, hheap, Result.andThen_ok, Sem.run_pure]
              show (Instr.yield b argv).run P w = _
              simp only [Instr.yield, Sem.run_bind, hg, Result.andThen_ok]
              have hsz : argv.size = ps.toArray.size := by simpa using e1.symm
              simp only [hsz, ne_eq, not_true_eq_false, if_false, Sem.run_pure, hfold]
    · trivial
  · trivial
theorem round_good {l : Key} {b f : Nat} {tm : Tm} {tmps : Array Value} {asg body : Code} {L' : Lo} {todo' : List Ci} {fi' : FI} {cs : List Fr} {h : Hp} {nx : Key} {μ : Mu} {fr : Frame} {frs : List Frame} {F Fs : List Key} {w : World}
    (hl : AtR μ l b) (hn : NeedR (cxOf E f).nd NoX μ tm tmps) (hsz : nOf E f ≤ tmps.size) (hfu : ∃ fu, E.fs.get f = some fu) (hr : HR C.W.heap.size μ h w) (hg : GR E μ) (he : Ext C.W.heap.size C.W w) (hf : FrR E μ L' todo' fi' fr F) (hs : StR E μ cs frs Fs) (hk : Kept1 μ h (F ++ Fs)) :
    Good E P C (roundCfg E l f tm asg body (.mk L' todo' fi' :: cs) h nx) (lone (Frame.round b f tmps asg body .normal) (fr :: (frs ++ C.cs0)) w) := by
  refine ⟨_, .refl _ _, ?_⟩
  have hst : StR E μ (.mk L' todo' fi' :: cs) (fr :: frs) (F ++ Fs) := .cons hf hs
  refine Sim.mk (F := []) (Fs := F ++ Fs) (fr := Frame.round b f tmps asg body .normal) (frs := fr :: frs) hr hg he ?_ hst (by simpa using hk)
  refine .mk (.mk rfl (by simp [Frame.round, DfsR]) rfl rfl ⟨b, hl, rfl⟩ hsz hfu) ?_
  refine .plain (cl := []) ⟨fun t ht hx => hn t ht hx, (fun e he => by cases he), fun u d x hm => by cases hm⟩ ?_
  rw [ciAppend_eq]
  have h2 := TodoR.code (E := E) (x := cxOf E f) (μ := μ) (cl := []) (c := body) (.nil (aft (cxOf E f).nd [] body))
  rw [List.append_nil] at h2
  exact .code (.forget (.beginRound h2))
end
end
end Go.Ev

namespace Go.Ev
set_option linter.unusedVariables false
set_option linter.unusedSectionVars false
set_option linter.unusedSimpArgs false
noncomputable section
variable [Val] [Fk]
theorem HR.ext {B : Nat} {μ : Mu} {h : Hp} {w w' : World} (hH : HR B μ h w) (he : Ext w.heap.size w w') : HR B μ h w' :=
  ⟨hH.inj, fun f g b s n hm => Nat.lt_of_lt_of_le (hH.lt f g b s n hm) he.size, fun f => OR.mono (Mu.le_refl μ) (fun _ => rfl) (fun g b s n hm => he.block b (hH.lt f g b s n hm)) (hH.obj f), hH.side, hH.fk, hH.start⟩
theorem Ext.weaken {A B : Nat} {w w' : World} (h : Ext A w w') (hab : B ≤ A) : Ext B w w' := ⟨h.os, h.tape, h.output, h.size, fun k hk => h.block k (Nat.lt_of_lt_of_le hk hab)⟩
def SumOk (E : Env) (P : Program) (C : Call0) : Prop := ∀ w, Ext C.W.heap.size C.W w → hasBody E E.sum = true → Calls P E.sum #[] w (fun e w' => e = .returned (.bool true) ∧ Ext w.heap.size w w')
section
variable {E : Env} {P : Program} (hE : EnvOk E P) {C : Call0} (hS : SumOk E P C)
variable {ih : Ko} {l : List Ins} {rest : List Ci} {fn : Nat} {ds : List Df} {dd : Bool} {rnd : Option Key} {cs : List Fr} {d : Dst} {L : Lo} {h : Hp} {nx : Key}
    {μ : Mu} {fr : Frame} {frs : List Frame} {F Fs : List Key} {w : World} {arr : Array Oper} {i : Nat} {is : List Nat} {k : List Item} {o : Oper}
theorem At.plainTop (a : At E P C ih l rest fn ds dd rnd cs d L h nx μ fr frs F Fs w arr i is k o) : plainTop fr.todo := by
  intro d b r s k' hh; rw [a.todo] at hh; cases hh
theorem At.waits (a : At E P C ih l rest fn ds dd rnd cs d L h nx μ fr frs F Fs w arr i is k o) : FrR E μ L (.wait d l :: rest) (.mk fn ds .run dd rnd) fr F :=
  .mk a.fi (a.wait μ (Mu.le_refl _))
theorem Good.next {s : Sp} {m m' : Machine} (h : Go.step P m = .next m') (g : Good E P C s m') : Good E P C s m := .of_steps (.one h) g
include hE in
theorem call_good (a : At E P C ih l rest fn ds dd rnd cs d L h nx μ fr frs F Fs w arr i is k o) {s : Sem Next}
    (hs : stepG P true (gor fr (frs ++ C.cs0)) w = stepG.apply P true fr (frs ++ C.cs0) none s w) :
    (∀ f avs (args' : Array Value), VRs μ avs args'.toList → s.run P w = (callFunc f args').run P w → Good E P C (enter E f avs false (.mk L (.wait d l :: rest) (.mk fn ds .run dd rnd) :: cs) h nx) (lone fr (frs ++ C.cs0) w)) ∧
    (∀ l' b f tm tmps asg body, AtR μ l' b → s.run P w = .ok (.round b f tmps asg body) w → NeedR (cxOf E f).nd NoX μ tm tmps → nOf E f ≤ tmps.size → (∃ fu, E.fs.get f = some fu) →
      Good E P C (roundCfg E l' f tm asg body (.mk L (.wait d l :: rest) (.mk fn ds .run dd rnd) :: cs) h nx) (lone fr (frs ++ C.cs0) w)) := by
  refine ⟨fun f avs args' hv hr => ?_, fun l' b f tm tmps asg body hl hr hn hsz hfu => ?_⟩
  · cases hc : compBody E f with
    | none => rw [enter_none hc]; trivial
    | some b =>
      have h1 := callFunc_run hE hc args' w
      refine Good.next (next_of (by rw [hs]; exact apply_enter a.plainTop (hr.trans h1))) ?_
      exact enter_good hE (dfd := false) hv a.hr a.gr a.ext a.waits a.st a.kept
  · refine Good.next (next_of (by rw [hs]; exact apply_round hr)) ?_
    exact round_good hl hn hsz hfu a.hr a.gr a.ext a.waits a.st a.kept
theorem resolve_value {ρ : Operand → Value} {f : Operand} {xs : Array Operand} {ats : Array TypeId} {ty : TypeId} {F : Fn} {fs cs : Array Value} (hf : ρ f = .func F fs cs) :
    resolve ρ { callee := .value f, args := xs, argTypes := ats } ty = pure { target := .fn F cs, args := fs ++ xs.map ρ } := by
  simp only [resolve, hf, Deferred.ofValue]
theorem panic_good {q : Operand → Opd} {x : Operand} (hq : ∀ x, VR μ (getO (q x) L) (fr.eval x)) (a : At E P C ih l rest fn ds dd rnd cs d L h nx μ fr frs F Fs w arr i is k o)
    (hs : stepG P true (gor fr (frs ++ C.cs0)) w = stepG.apply P true fr (frs ++ C.cs0) none (execOp fr.eval o) w)
    (hrun : ∀ y t, fr.eval x = .iface t y → (execOp fr.eval o).run P w = .halt (.panic (.iface t y)) w) :
    Good E P C ((CI.panic (q x)).run E d l ih (.mk rest (.mk fn ds .run dd rnd) cs) L h nx) (lone fr (frs ++ C.cs0) w) := by
  show Good E P C (asIface (getO (q x) L) .fail fun t v => .go (.mk L (.wait d l :: rest) (raise1 (.mk fn ds .run dd rnd) (.iface t v)) cs h nx)) _
  cases hv : getO (q x) L with
  | iface t v =>
    obtain ⟨y, hy, hvy⟩ := q_iface hq hv
    refine ⟨_, .one (next_of (by rw [hs]; exact apply_panic (hrun y t hy))), ?_⟩
    refine Sim.mk (F := []) (Fs := Fs) a.hr a.gr a.ext ?_ a.st ⟨(List.nodup_append.1 a.kept.1).2.1, fun f hf => a.kept.2 f (List.mem_append_right _ (by simpa using hf))⟩
    have hfi := a.fi
    cases hfi with
    | mk h1 h2 h3 h4 h5 h6 h7 =>
      have hmd : fr.mode = .run := h3
      have hraise : fr.raise [{ v := .iface t y, recovered := false }] = { fr with mode := .panicking [{ v := .iface t y, recovered := false }] } := by simp [Frame.raise, hmd]
      rw [hraise]
      obtain ⟨X, x1, x2⟩ := a.out
      exact .mk (.mk h1 h2 ⟨_, rfl, .iface t y, [], rfl, by simp only [VR]; exact ⟨_, rfl, hvy⟩, rfl⟩ h4 h5 h6 h7) (.out trivial x1 x2)
  | _ => trivial
theorem later_good {x : Df} {dv : Deferred} (a : At E P C ih l rest fn ds dd rnd cs d L h nx μ fr frs F Fs w arr i is k o)
    (hs : rnd = none → stepG P true (gor fr (frs ++ C.cs0)) w = stepG.apply P true fr (frs ++ C.cs0) none (execOp fr.eval o) w)
    (hx : DfR μ x dv) (hrun : (execOp fr.eval o).run P w = .ok (.defer dv) w) :
    Good E P C (later d ih x (.mk rest (.mk fn ds .run dd rnd) cs) L h nx) (lone fr (frs ++ C.cs0) w) := by
  unfold later
  simp only [inK]
  cases rnd with
  | some l' => trivial
  | none =>
    show Good E P C (ih (.mk rest (.mk fn (x :: ds) .run dd none) cs) (put d undefA L) h nx) _
    refine Good.next (next_of (by rw [hs rfl]; exact apply_defer hrun)) ?_
    refine a.go μ undefA undef h nx w (x :: ds) { fr with defers := dv :: fr.defers } cs frs (Mu.le_refl _) vr_undef a.hr a.gr a.ext ?_ rfl rfl a.st a.kept
    have hfi := a.fi
    cases hfi with
    | mk h1 h2 h3 h4 h5 h6 h7 => exact .mk h1 (by simp only [DfsR]; exact ⟨dv, _, rfl, hx, h2⟩) h3 h4 h5 h6 h7
theorem leftE_sound {seen : List Nat} {since : Nat} : ∀ (es : List En) (xs : List MapEntry) (lf : List En), EnsR μ es xs → leftE seen since es = some lf →
    EnsR μ lf (xs.filter fun e => !seen.contains e.born) ∧ ∀ x ∈ xs.filter (fun e => !seen.contains e.born), x.born < since
  | [], xs, lf, he, h => by
    simp only [EnsR] at he; subst he
    cases h
    exact ⟨by simp [EnsR], by simp⟩
  | e :: es, xs, lf, he, h => by
    simp only [EnsR] at he
    obtain ⟨x, r, rfl, h1, h2⟩ := he
    unfold leftE at h
    have hno : ∀ (s : List Nat) (n : Nat), notIn s n = !s.contains n := by
      intro s n
      induction s with
      | nil => rfl
      | cons a s ih =>
        show cnd (Nat.beq a n) false (notIn s n) = _
        rw [cnd_eq, ih]
        by_cases hh : a = n
        · subst hh; simp
        · have : Nat.beq a n = false := Bool.eq_false_iff.2 fun h => hh (Nat.eq_of_beq_eq_true h)
          rw [this]
          simp only [Bool.false_eq_true, if_false, List.contains_cons, Bool.not_or]
          have : (n == a) = false := by simpa using Ne.symm hh
          rw [this]; rfl
    split at h
    · rename_i l' hl'
      obtain ⟨i1, i2⟩ := leftE_sound es r l' h2 hl'
      rw [cnd_eq, hno, h1.2.2] at h
      split at h
      · rename_i hc
        rw [cnd_eq] at h
        split at h
        · rename_i hlt
          cases h
          rw [List.filter_cons, if_pos hc]
          refine ⟨by simp only [EnsR]; exact ⟨x, _, rfl, h1, i1⟩, fun y hy => ?_⟩
          rcases List.mem_cons.1 hy with rfl | hy
          · exact Nat.le_of_ble_eq_true hlt
          · exact i2 y hy
        · cases h
      · rename_i hc
        cases h
        rw [List.filter_cons, if_neg hc]
        exact ⟨i1, i2⟩
    · cases h
theorem noneLeft_sound {last : Nat} : ∀ (es : List En) (xs : List MapEntry), EnsR μ es xs → noneLeft es last = xs.all (fun x => decide (x.born ≥ last))
  | [], xs, he => by simp only [EnsR] at he; subst he; rfl
  | e :: es, xs, he => by
    simp only [EnsR] at he
    obtain ⟨x, r, rfl, h1, h2⟩ := he
    show cnd (Nat.ble last e.b) (noneLeft es last) false = _
    rw [cnd_eq, noneLeft_sound es r h2, h1.2.2, List.all_cons]
    by_cases hh : last ≤ x.born
    · rw [if_pos (Nat.ble_eq_true_of_le hh)]; simp [hh]
    · rw [if_neg (fun h => hh (Nat.le_of_ble_eq_true h))]; simp [hh]
theorem EnsR.mem {es : List En} {xs : List MapEntry} (he : EnsR μ es xs) {i : Nat} {x : MapEntry} (hx : xs[i]? = some x) : ∃ e, es[i]? = some e ∧ EnR μ e x := by
  induction es generalizing xs i with
  | nil => simp only [EnsR] at he; subst he; simp at hx
  | cons e es ih =>
    simp only [EnsR] at he
    obtain ⟨y, r, rfl, h1, h2⟩ := he
    cases i with
    | zero => simp at hx; subst hx; exact ⟨e, rfl, h1⟩
    | succ i => simp at hx; obtain ⟨e', e1, e2⟩ := ih h2 hx; exact ⟨e', by simpa using e1, e2⟩
theorem next_good {q : Operand → Opd} {s : Bool} {x : Operand} (hq : ∀ x, VR μ (getO (q x) L) (fr.eval x)) (a : At E P C ih l rest fn ds dd rnd cs d L h nx μ fr frs F Fs w arr i is k o)
    (hs : stepG P true (gor fr (frs ++ C.cs0)) w = stepG.apply P true fr (frs ++ C.cs0) none (execOp fr.eval o) w) (hop : o.op = .next x s) :
    Good E P C ((CI.next s (q x)).run E d l ih (.mk rest (.mk fn ds .run dd rnd) cs) L h nx) (lone fr (frs ++ C.cs0) w) := by
  -- any of the steps that the iterator may take
  have main : ∀ ps, nextA h s (getO (q x) L) = some ps → ∃ p ∈ ps, ∃ v w', (execOp fr.eval o).run P w = .ok (.value v) w' ∧ VR μ p.1 v ∧ HR C.W.heap.size μ p.2 w' ∧ Ext C.W.heap.size w w' ∧ Kp h μ p.2 μ := by
    intro ps hps
    obtain ⟨dst, op, ty, pos, af, gd⟩ := o
    simp only at hop; subst hop
    have hrv : ∀ {v w'}, (Instr.next (fr.eval x) s ty).run P w = .ok v w' → (execOp fr.eval ⟨dst, .next x s, ty, pos, af, gd⟩).run P w = .ok (.value v) w' := fun hr => run_val hr
    have hxv := hq x
    unfold nextA at hps
    split at hps
    · rename_i f g e
      rw [e] at hxv
      simp only [VR] at hxv
      obtain ⟨b, st, n, hm, hst, hx⟩ := hxv
      have hst : st = 0 := by omega
      subst hst
      have hO := a.hr.obj f
      have zero : (∀ g, 0 < g → μ f g = none) → g = 0 := fun hh => by
        rcases Nat.eq_zero_or_pos g with h0 | h0
        · exact h0
        · rw [hh g h0] at hm; cases hm
      split at hps
      · -- a string
        rename_i str pos' ho
        rw [ho] at hO
        obtain ⟨hO1, hO2⟩ := hO
        have := zero hO1; subst this
        obtain ⟨hB, _, bs, hheap, hbs⟩ := hO2 b 0 n hm
        have hg : (getObj b).run P w = .ok (.stringIter bs pos') w := by simp only [getObj, Sem.run, hheap]
        have hlen : str.length = bs.size := by rw [← hbs]; simp
        have hbb : (⟨(str.map UInt8.ofNat).toArray⟩ : ByteArray) = bs := by
          cases bs with
          | mk dt =>
            simp only [ByteArray.mk.injEq]
            apply Array.toList_inj.1
            rw [← hbs]
            simp only [List.map_map]
            rw [show (UInt8.ofNat ∘ UInt8.toNat) = id from by funext x; simp]
            simp
        rw [cnd_eq] at hps
        split at hps
        · rename_i hlt
          have hlt : pos' < bs.size := by rw [← hlen]; exact Nat.le_of_ble_eq_true hlt
          rw [hbb] at hps
          generalize hdec : Utf8.decode bs pos' = cw at hps
          obtain ⟨c, width⟩ := cw
          cases hps
          have hso : (setObj b (.stringIter bs (pos' + width))).run P w = .ok () (World.put w b (.stringIter bs (pos' + width))) := by
            simp only [setObj, Sem.run, hheap]; rfl
          refine ⟨_, List.mem_singleton.2 rfl, .tuple #[.bool true, goInt pos', .int .i32 c], World.put w b (.stringIter bs (pos' + width)), hrv ?_, ?_, ?_, Ext.put hB, Kp.set rfl⟩
          · rw [hx]
            simp only [Instr.next, Sem.run_bind, hg, Result.andThen_ok, hlt, if_true, hdec, hso, Sem.run_pure]
          · simp only [VR]; exact ⟨_, rfl, .cons (by simp only [VR]) (.cons (by simp only [VR]; rfl) (.cons (by simp only [VR]) .nil))⟩
          · refine a.hr.turn hm hB rfl ⟨hO1, fun b1 s1 n1 hm1 => ?_⟩
            rw [hm] at hm1
            simp only [Option.some.injEq, Prod.mk.injEq] at hm1
            obtain ⟨rfl, rfl, rfl⟩ := hm1
            exact ⟨hB, rfl, bs, put_get (a.hr.lt _ _ _ _ _ hm), hbs⟩
        · rename_i hlt
          have hlt : ¬ pos' < bs.size := fun hh => hlt (by rw [← hlen] at hh; exact Nat.ble_eq_true_of_le hh)
          cases hps
          refine ⟨_, List.mem_singleton.2 rfl, .tuple #[.bool false], w, hrv ?_, ?_, a.hr, Ext.refl _ _, Kp.refl _ _⟩
          · rw [hx]
            simp only [Instr.next, Sem.run_bind, hg, Result.andThen_ok, hlt, if_false, Sem.run_pure]
          · simp only [VR]; exact ⟨_, rfl, .cons (by simp only [VR]) .nil⟩
      · -- a map that is nil
        rename_i since seen last ho
        rw [ho] at hO
        obtain ⟨hO1, hO2⟩ := hO
        have := zero hO1; subst this
        obtain ⟨hB, _, m', hheap, hm'⟩ := hO2 b 0 n hm
        have hm' : m' = none := hm'
        subst hm'
        have hg : (getObj b).run P w = .ok (.mapIter none since seen.toArray last) w := by simp only [getObj, Sem.run, hheap]
        cases hps
        refine ⟨_, List.mem_singleton.2 rfl, .tuple #[.bool false], w, hrv ?_, ?_, a.hr, Ext.refl _ _, Kp.refl _ _⟩
        · rw [hx]
          simp only [Instr.next, Sem.run_bind, hg, Result.andThen_ok, Sem.run_pure]
        · simp only [VR]; exact ⟨_, rfl, .cons (by simp only [VR]) .nil⟩
      · -- a map
        rename_i mk since seen last ho
        rw [ho] at hO
        obtain ⟨hO1, hO2⟩ := hO
        have := zero hO1; subst this
        obtain ⟨hB, _, m', hheap, cm, sm, nm, hmm, hm'⟩ := hO2 b 0 n hm
        subst hm'
        obtain ⟨es, clock, hmo, hps⟩ := asMapO_some hps
        obtain ⟨hBm, xs, hxs, hR⟩ := a.hr.mapOb hmo hmm
        have hg : (getObj b).run P w = .ok (.mapIter (some cm) since seen.toArray last) w := by simp only [getObj, Sem.run, hheap]
        have hg2 := MapKept.run_getObj_map (P := P) hxs
        cases hnl : (!seen.isEmpty && !es.isEmpty && noneLeft es last) with
        | true => rw [hnl] at hps; cases hps
        | false =>
          rw [hnl] at hps
          simp only [cond_false] at hps
          have hg0 : (!seen.toArray.isEmpty && !xs.isEmpty && xs.all (fun x => decide (x.born ≥ last))) = false := by
            rw [← hnl, noneLeft_sound es xs.toList hR]
            congr 1
            · congr 1
              · simp
              · have : es.isEmpty = xs.isEmpty := by
                  rw [← Array.isEmpty_toList]
                  cases es with
                  | nil => have := hR; simp only [EnsR] at this; rw [this]; rfl
                  | cons e es => have := hR; simp only [EnsR] at this; obtain ⟨y, r, e1, _⟩ := this; rw [e1]; rfl
                rw [this]
            · rw [← Array.all_toList]
          cases hle : leftE seen since es with
          | none => rw [hle] at hps; cases hps
          | some lf =>
            rw [hle] at hps
            obtain ⟨k1, k2⟩ := leftE_sound es xs.toList lf hR hle
            have hleft : (xs.filter fun e => !seen.toArray.contains e.born).toList = xs.toList.filter fun e => !seen.contains e.born := by
              rw [Array.toList_filter]; simp
            have hold : ((xs.filter fun e => !seen.toArray.contains e.born).filter fun e => decide (e.born < since)) = xs.filter fun e => !seen.toArray.contains e.born := by
              apply Array.toList_inj.1
              rw [Array.toList_filter, hleft]
              exact List.filter_eq_self.2 fun x hx => by simpa using k2 x hx
            have hnew : ((xs.filter fun e => !seen.toArray.contains e.born).filter fun e => decide (e.born ≥ since)) = #[] := by
              apply Array.toList_inj.1
              rw [Array.toList_filter, hleft]
              exact List.filter_eq_nil_iff.2 fun x hx => by have := k2 x hx; simp; omega
            generalize hlfa : (xs.filter fun e => !seen.toArray.contains e.born) = lfa at *
            cases lf with
            | nil =>
              cases hps
              have hlfa0 : lfa = #[] := by
                apply Array.toList_inj.1; rw [hleft]
                simp only [EnsR] at k1; exact k1
              refine ⟨_, List.mem_singleton.2 rfl, .tuple #[.bool false], w, hrv ?_, ?_, a.hr, Ext.refl _ _, Kp.refl _ _⟩
              · rw [hx]
                simp only [Instr.next, Sem.run_bind, hg, Result.andThen_ok, hg2, hg0, Bool.false_eq_true, if_false, hlfa, hold, hnew]
                rw [hlfa0]
                have e1 : ((if (#[] : Array MapEntry).isEmpty = true then #[none] else #[]) ++ Array.map some (#[] ++ #[]) : Array (Option MapEntry)) = #[none] := by simp
                rw [e1]
                simp [run_choose_drew, Question.forced]
              · simp only [VR]; exact ⟨_, rfl, .cons (by simp only [VR]) .nil⟩
            | cons e0 lf =>
              cases hps
              have hne : lfa.isEmpty = false := by
                simp only [EnsR] at k1
                obtain ⟨y, r, e1, _⟩ := k1
                rw [← Array.isEmpty_toList, hleft, e1]; rfl
              -- the draw
              generalize hcand : ((if lfa.isEmpty = true then #[none] else #[]) ++ (lfa ++ #[]).map some : Array (Option MapEntry)) = cand
              have hcs : cand = lfa.map some := by rw [← hcand, hne]; simp
              have hsz : 0 < lfa.size := by
                rcases Nat.eq_zero_or_pos lfa.size with h0 | h0
                · rw [Array.size_eq_zero_iff.1 h0] at hne; cases hne
                · exact h0
              have hdraw : ∃ j w1, (choose (.mapNext cand.size)).run P w = .ok j w1 ∧ j < lfa.size ∧ (w1 = w ∨ w1 = w.drew) := by
                rw [run_choose_drew, hcs]
                split
                · exact ⟨0, w, rfl, hsz, .inl rfl⟩
                · refine ⟨_, w.drew, rfl, ?_, .inr rfl⟩
                  simp only [Question.cut, Array.size_map]
                  exact Nat.mod_lt _ hsz
              obtain ⟨j, w1, hch, hj, hw1⟩ := hdraw
              have hheap1 : w1.heap = w.heap := by rcases hw1 with rfl | rfl <;> rfl
              have hxj : lfa[j]? = some lfa[j] := Array.getElem?_eq_getElem hj
              obtain ⟨en, he1, he2⟩ := k1.mem (i := j) (x := lfa[j]) (by rw [← hleft, Array.getElem?_toList, hxj])
              have hso : (setObj b (.mapIter (some cm) since (seen.toArray.push lfa[j].born) clock)).run P w1 = .ok () (World.put w1 b (.mapIter (some cm) since (seen.toArray.push lfa[j].born) clock)) := by
                have hheap' : w1.heap[b]? = some (.mapIter (some cm) since seen.toArray last) := by rw [hheap1]; exact hheap
                simp only [setObj, Sem.run, hheap']; rfl
              refine ⟨(.tuple [.bool true, en.k, en.v], hset f (.mapIter (some mk) since (seen ++ [en.b]) clock) h), ?_, .tuple #[.bool true, lfa[j].key, lfa[j].val], World.put w1 b (.mapIter (some cm) since (seen.toArray.push lfa[j].born) clock), hrv ?_, ?_, ?_, ?_, Kp.set rfl⟩
              · rw [List.mem_map]
                exact ⟨en, List.mem_of_getElem? he1, rfl⟩
              · rw [hx]
                simp only [Instr.next, Sem.run_bind, hg, Result.andThen_ok, hg2, hg0, Bool.false_eq_true, if_false, hlfa, hold, hnew, hcand, hch]
                have hcj : cand[j]? = some (some lfa[j]) := by rw [hcs, Array.getElem?_map, hxj]; rfl
                simp only [hcj, Sem.run_bind, hso, Result.andThen_ok, Sem.run_pure]
              · simp only [VR]; exact ⟨_, rfl, .cons (by simp only [VR]) (.cons he2.1 (.cons he2.2.1 .nil))⟩
              · refine (a.hr.world hheap1).turn hm hB rfl ⟨hO1, fun b1 s1 n1 hm1 => ?_⟩
                rw [hm] at hm1
                simp only [Option.some.injEq, Prod.mk.injEq] at hm1
                obtain ⟨rfl, rfl, rfl⟩ := hm1
                refine ⟨hB, rfl, some cm, ?_, cm, sm, nm, hmm, rfl⟩
                rw [put_get (by rw [hheap1]; exact a.hr.lt _ _ _ _ _ hm), he2.2.2]
                simp
              · refine Ext.trans ?_ (Ext.put hB)
                rcases hw1 with rfl | rfl
                · exact Ext.refl _ _
                · exact ⟨rfl, rfl, rfl, Nat.le_refl _, fun _ _ => rfl⟩
      · cases hps
    · cases hps
  show Good E P C (match nextA h s (getO (q x) L) with
    | some [(v, h')] => ih (.mk rest (.mk fn ds .run dd rnd) cs) (put d v L) h' nx
    | some ps => .br (ps.map fun p => .mk (put d p.1 L) (.mid l :: rest) (.mk fn ds .run dd rnd) cs p.2 nx)
    | none => .fail) _
  cases hps : nextA h s (getO (q x) L) with
  | none => trivial
  | some ps =>
    obtain ⟨p, hp, v, w', hrun, hv, hh, he, hkp⟩ := main ps hps
    have hstep := next_of (P := P) (cs' := frs ++ C.cs0) (g := fr.finish v) (w' := w') (by rw [hs]; exact apply_value hrun)
    have branch : Good E P C (.br (ps.map fun p => .mk (put d p.1 L) (.mid l :: rest) (.mk fn ds .run dd rnd) cs p.2 nx)) (lone fr (frs ++ C.cs0) w) := by
      refine ⟨_, List.mem_map.2 ⟨p, hp, rfl⟩, _, .one hstep, ?_⟩
      exact Sim.mk hh a.gr (a.ext.trans he) (.mk (a.fi.finish v a.todo a.op) (a.mid μ p.1 v (Mu.le_refl _) hv)) a.st (a.kept.kp hkp)
    match ps, hp, branch with
    | [(v1, h1)], hp, _ =>
      simp only [List.mem_singleton] at hp
      subst hp
      exact Good.next hstep (a.go μ v1 v h1 nx w' ds fr cs frs (Mu.le_refl _) hv hh a.gr (a.ext.trans he) a.fi rfl rfl a.st (a.kept.kp hkp))
    | [], hp, _ => cases hp
    | _ :: _ :: _, _, hb => exact hb
include hE hS in
theorem ct_good {q : Operand → Opd} (hq : ∀ x, VR μ (getO (q x) L) (fr.eval x)) (a : At E P C ih l rest fn ds dd rnd cs d L h nx μ fr frs F Fs w arr i is k o)
    (hw : Region.wanted o (yielded arr fr.tmps) = true) : Good E P C ((ctlI q E o.op).run E d l ih (.mk rest (.mk fn ds .run dd rnd) cs) L h nx) (lone fr (frs ++ C.cs0) w) := by
  obtain ⟨dst, op, ty, pos, af, gd⟩ := o
  have hm := a.mode
  have hoper : (∀ c, op ≠ .defer c) → stepG P true (gor fr (frs ++ C.cs0)) w = stepG.apply P true fr (frs ++ C.cs0) none (execOp fr.eval ⟨dst, op, ty, pos, af, gd⟩) w :=
    fun hn => stepG_oper hm a.todo a.op hw (.inr hn)
  cases op with
  | call c =>
    obtain ⟨callee, args, ats⟩ := c
    have hs := hoper (fun c hh => by cases hh)
    cases callee with
    | builtin b =>
      cases b <;> first | trivial | skip
      · -- panic
        show Good E P C ((match args.toList with | x :: _ => CI.panic (q x) | [] => .bad).run E d l ih _ L h nx) _
        cases hx : args.toList with
        | nil => trivial
        | cons x xs =>
          refine panic_good (x := x) hq a hs (fun y t hy => ?_)
          show (do let d ← resolve fr.eval { callee := .builtin .panic, args := args, argTypes := ats } ty; invoke d.target d.args).run P w = _
          have : resolve fr.eval { callee := .builtin .panic, args := args, argTypes := ats } ty = pure { target := .builtin .panic ats ty (args.map fun | .const _ => true | _ => false), args := args.map fr.eval } := rfl
          rw [this]
          have h0 : (args.map fr.eval).getD 0 .nilIface = .iface t y := by
            rw [Array.getD_eq_getD_getElem?, head_args hx, Option.getD_some, hy]
          simp only [Sem.run_bind, Sem.run_pure, Result.andThen_ok, invoke, builtin, h0, Instr.panic, run_goPanic, Result.andThen_halt]
      · -- recover
        have hrun : (execOp fr.eval ⟨dst, .call { callee := .builtin .recover, args := args, argTypes := ats }, ty, pos, af, gd⟩).run P w = .ok .recover w := rfl
        show Good E P C (cRecover d l ih (.mk rest (.mk fn ds .run dd rnd) cs) L h nx) _
        unfold cRecover
        simp only [inK]
        cases hfi : a.fi with
        | mk h1 h2 h3 h4 h5 h6 h7 =>
          cases rnd with
          | some l' => trivial
          | none =>
            have hrn : fr.roundOf = none := h5
            have hap := apply_recover (P := P) (fr := fr) (cs := frs ++ C.cs0) hrn hrun
            rw [← hs] at hap
            -- nobody to recover from
            have plain : tryRecover fr (frs ++ C.cs0) = none → Good E P C (ih (.mk rest (.mk fn ds .run dd none) cs) (put d .nilIface L) h nx) (lone fr (frs ++ C.cs0) w) := fun hn => by
              rw [hn] at hap
              exact Good.next (next_of hap) (a.go μ .nilIface .nilIface h nx w ds fr cs frs (Mu.le_refl _) (by simp only [VR]) a.hr a.gr a.ext a.fi rfl rfl a.st a.kept)
            cases dd with
            | false =>
              have hk : fr.kind = .normal := h4
              have hn : tryRecover fr (frs ++ C.cs0) = none := by unfold tryRecover; rw [hk]
              cases cs <;> exact plain hn
            | true =>
              have hk : fr.kind = .deferred := h4
              cases hst : a.st with
              | nil => trivial
              | @cons L1 todo1 fi1 fr1 cs1 frs1 F1 Fs1 hfr1 hst1 =>
                obtain ⟨fn1, ds1, md1, dd1, rnd1⟩ := fi1
                cases hfr1 with
                | mk hfi1 hb1 =>
                  cases hfi1 with
                  | mk g1 g2 g3 g4 g5 g6 g7 =>
                    have hno : (∀ v older, md1 ≠ .panicking (.mk v false :: older)) → tryRecover fr (fr1 :: frs1 ++ C.cs0) = none := by
                      intro hh
                      simp only [tryRecover, hk, List.cons_append]
                      cases md1 with
                      | run => have g3 : fr1.mode = .run := g3; rw [g3]
                      | returning => have g3 : fr1.mode = .returning := g3; rw [g3]
                      | panicking ch =>
                        obtain ⟨ch', e1, e2⟩ := g3
                        rw [e1]
                        cases ch with
                        | nil => have e2 : ch' = [] := e2; subst e2; rfl
                        | cons e ch =>
                          obtain ⟨v, r⟩ := e
                          obtain ⟨u, l', e3, e4, e5⟩ := e2
                          subst e3
                          cases r with
                          | true => rfl
                          | false => exact absurd rfl (hh _ _)
                    cases md1 with
                    | run => exact plain (hno (fun v o hh => by cases hh))
                    | returning => exact plain (hno (fun v o hh => by cases hh))
                    | panicking ch =>
                      cases ch with
                      | nil => exact plain (hno (fun v o hh => by cases hh))
                      | cons e ch =>
                        obtain ⟨v, r⟩ := e
                        cases r with
                        | true => exact plain (hno (fun v o hh => by cases hh))
                        | false =>
                          obtain ⟨ch', e1, e2⟩ := g3
                          obtain ⟨u, l', e3, e4, e5⟩ := e2
                          subst e3
                          have htr : tryRecover fr (fr1 :: frs1 ++ C.cs0) = some (u, { fr1 with mode := .panicking ({ v := u, recovered := true } :: l') } :: (frs1 ++ C.cs0)) := by
                            simp only [tryRecover, hk, List.cons_append, e1]
                          rw [htr] at hap
                          refine Good.next (next_of hap) ?_
                          have hout : BodyR E fn1 μ L1 fr1.tmps (.panicking (.mk v true :: ch)) todo1 fr1.todo F1 := by
                            cases hb1 with
                            | out z1 z2 z3 => exact .out trivial z2 z3
                          have hst' : StR E μ (.mk L1 todo1 (.mk fn1 ds1 (.panicking (.mk v true :: ch)) dd1 rnd1) :: cs1) ({ fr1 with mode := .panicking ({ v := u, recovered := true } :: l') } :: frs1) (F1 ++ Fs1) :=
                            .cons (.mk (.mk g1 g2 ⟨_, rfl, u, l', rfl, e4, e5⟩ g4 g5 g6 g7) hout) hst1
                          exact a.go μ v u h nx w ds fr _ _ (Mu.le_refl _) e4 a.hr a.gr a.ext a.fi rfl rfl hst' a.kept
    | invoke recv name =>
      show Good E P C (Go.Ev.callMethod E h (getO (q recv) L) name (getOs (args.toList.map q) L) fun f vs => enter E f vs false (.mk L (.wait d l :: rest) (.mk fn ds .run dd rnd) :: cs) h nx) _
      refine callMethod_good hE a.hr (hq recv) (getOs_sound hq args.toList) (s := execOp fr.eval ⟨dst, .call { callee := .invoke recv name, args := args, argTypes := ats }, ty, pos, af, gd⟩) ?_ (call_good hE a hs).1
      have hres : resolve fr.eval { callee := .invoke recv name, args := args, argTypes := ats } ty = pure { target := .fn (.method name) #[], args := #[fr.eval recv] ++ args.map fr.eval } := rfl
      show (do let d ← resolve fr.eval { callee := .invoke recv name, args := args, argTypes := ats } ty; invoke d.target d.args).run P w = _
      rw [hres]
      simp only [Sem.run_bind, Sem.run_pure, Result.andThen_ok, invoke]
      have e1 : (#[fr.eval recv] ++ args.map fr.eval)[0]? = some (fr.eval recv) := by rw [Array.getElem?_append_left (by simp)]; rfl
      have e2 : (#[fr.eval recv] ++ args.map fr.eval).extract 1 (#[fr.eval recv] ++ args.map fr.eval).size = (args.toList.map fr.eval).toArray := by
        apply Array.toList_inj.1
        simp
        exact List.take_of_length_le (by simp)
      simp only [e1, e2]
    | value f =>
      -- a function value, or a function by its name
      have dyn : Good E P C (asFunc (getO (q f) L) .fail fun g first cap => invokeFn E h g cap (first ++ getOs (args.toList.map q) L)
          (fun f vs => enter E f vs false (.mk L (.wait d l :: rest) (.mk fn ds .run dd rnd) :: cs) h nx)
          (fun k fn' t x y => roundCfg E k fn' t x y (.mk L (.wait d l :: rest) (.mk fn ds .run dd rnd) :: cs) h nx)) (lone fr (frs ++ C.cs0) w) := by
        have hqf := hq f
        cases hv : getO (q f) L with
        | func g first cap =>
          rw [hv] at hqf
          simp only [VR] at hqf
          obtain ⟨G, fs, cps, hfe, hG, h1, h2⟩ := hqf
          refine invokeFn_good hE a.hr hG h2 (argv := fs ++ args.map fr.eval) (by rw [Array.toList_append, Array.toList_map]; exact h1.append (getOs_sound hq args.toList)) (s := execOp fr.eval ⟨dst, .call { callee := .value f, args := args, argTypes := ats }, ty, pos, af, gd⟩) ?_ (call_good hE a hs).1 (call_good hE a hs).2
          show (do let d ← resolve fr.eval { callee := .value f, args := args, argTypes := ats } ty; invoke d.target d.args).run P w = _
          rw [resolve_value hfe]
          simp only [Sem.run_bind, Sem.run_pure, Result.andThen_ok]
        | _ => trivial
      cases f with
      | func g =>
        show Good E P C ((bif Nat.beq g E.sum && (args.toList.isEmpty && hasBody E g) then CI.sum else .callF g (args.toList.map q)).run E d l ih _ L h nx) _
        have hrunc : (execOp fr.eval ⟨dst, .call { callee := .value (.func g), args := args, argTypes := ats }, ty, pos, af, gd⟩).run P w = (callFunc g (args.map fr.eval)).run P w := by
          show (do let d ← resolve fr.eval { callee := .value (.func g), args := args, argTypes := ats } ty; invoke d.target d.args).run P w = _
          rw [resolve_value (F := .func g) (fs := #[]) (cs := #[]) rfl]
          simp only [Sem.run_bind, Sem.run_pure, Result.andThen_ok, invoke, Array.append_empty, Array.empty_append]
        cases hb : Nat.beq g E.sum && (args.toList.isEmpty && hasBody E g) with
        | false =>
          simp only [cond_false]
          refine (call_good hE a hs).1 g _ (args.map fr.eval) ?_ hrunc
          rw [Array.toList_map]; exact getOs_sound hq args.toList
        | true =>
          simp only [cond_true]
          simp only [Bool.and_eq_true] at hb
          obtain ⟨hb1, hb2, hb3⟩ := hb
          have hgs := Nat.eq_of_beq_eq_true hb1
          subst hgs
          have hargs : args = #[] := by apply Array.toList_inj.1; exact List.isEmpty_iff.1 hb2
          subst hargs
          have hb4 := hb3
          unfold hasBody at hb4
          split at hb4
          · rename_i fu hfu
            have hPf := hE.fs _ _ hfu
            obtain ⟨c, hbody⟩ := Option.isSome_iff_exists.1 hb4
            have hnm := hE.names _ _ hfu hb4
            obtain ⟨e, w', fr', ⟨he, hext⟩, hcomes, hfn', hleave⟩ := hS w a.ext hb3 (fr :: (frs ++ C.cs0))
            subst he
            show Good E P C (ih (.mk rest (.mk fn ds .run dd rnd) cs) (put d (.bool true) L) h nx) _
            have hcf : (callFunc E.sum (#[].map fr.eval)).run P w = .ok (.enter E.sum #[]) w := by
              simp only [callFunc, Sem.run_bind, run_program, Result.andThen_ok, hPf, hnm, Bool.false_eq_true, if_false, hbody, Option.isNone_some, Sem.run_pure, Array.map_empty]
            refine Good.next (next_of (by rw [hs]; exact apply_enter a.plainTop (hrunc.trans hcf))) ?_
            refine Good.of_steps hcomes ?_
            refine Good.next (step_leave_returned hleave) ?_
            have hh := a.hr.ext hext
            exact a.go μ (.bool true) (.bool true) h nx w' ds fr cs frs (Mu.le_refl _) (by simp only [VR]) hh a.gr (a.ext.trans (hext.weaken a.size)) a.fi rfl rfl a.st a.kept
          · cases hb4
      | tmp t => exact dyn
      | const v => exact dyn
      | global g => exact dyn
  | panic x =>
    refine panic_good (x := x) hq a (hoper (fun c hh => by cases hh)) (fun y t hy => ?_)
    show (do pure (Next.value (← Instr.panic (fr.eval x))) : Sem Next).run P w = _
    rw [hy]
    simp only [Instr.panic, Sem.run_bind, run_goPanic, Result.andThen_halt]
  | next it s => exact next_good hq a (hoper (fun c hh => by cases hh)) rfl
  | defer c =>
    obtain ⟨callee, args, ats⟩ := c
    have hsd : rnd = none → stepG P true (gor fr (frs ++ C.cs0)) w = stepG.apply P true fr (frs ++ C.cs0) none (execOp fr.eval ⟨dst, .defer { callee := callee, args := args, argTypes := ats }, ty, pos, af, gd⟩) w := by
      intro hn
      refine stepG_oper hm a.todo a.op hw (.inl ?_)
      have hfi := a.fi
      cases hfi with
      | mk h1 h2 h3 h4 h5 h6 h7 => subst hn; exact h5
    have hargs : VRs μ (getOs (args.toList.map q) L) (args.map fr.eval).toList := by rw [Array.toList_map]; exact getOs_sound hq args.toList
    cases callee with
    | builtin b =>
      cases b <;> first | trivial | skip
      all_goals
        show Good E P C ((match ats.toList, args.toList with | t :: _, m :: k :: _ => CI.deferD t (q m) (q k) | _, _ => .bad).run E d l ih _ L h nx) _
        split
        · rename_i t ts m k' r h1 h2
          show Good E P C (later d ih (.del t (getO (q m) L) (getO (q k') L)) (.mk rest (.mk fn ds .run dd rnd) cs) L h nx) _
          refine later_good (dv := { target := .builtin .delete ats ty (args.map fun | .const _ => true | _ => false), args := args.map fr.eval }) a hsd ?_ rfl
          simp only [DfR]
          refine ⟨_, _, _, _, fr.eval m, fr.eval k', rfl, ?_, ?_, ?_, hq m, hq k'⟩
          · rw [← Array.getElem?_toList, Array.toList_map, h2]; rfl
          · rw [← Array.getElem?_toList, Array.toList_map, h2]; rfl
          · rw [← Array.getElem?_toList, h1]; rfl
        · trivial
    | invoke recv name =>
      show Good E P C ((CI.deferI (q recv) name (args.toList.map q)).run E d l ih _ L h nx) _
      show Good E P C (later d ih (.fn (.fn (.method name)) [] (getO (q recv) L :: getOs (args.toList.map q) L)) (.mk rest (.mk fn ds .run dd rnd) cs) L h nx) _
      refine later_good (dv := { target := .fn (.method name) #[], args := #[fr.eval recv] ++ args.map fr.eval }) a hsd ?_ rfl
      simp only [DfR]
      exact ⟨_, _, _, rfl, rfl, .nil, by simp only [Array.toList_append]; exact .cons (hq recv) hargs⟩
    | value f =>
      show Good E P C (asFunc (getO (q f) L) .fail fun g first cap => later d ih (.fn g cap (first ++ getOs (args.toList.map q) L)) _ L h nx) _
      have hqf := hq f
      cases hv : getO (q f) L with
      | func g first cap =>
        rw [hv] at hqf
        simp only [VR] at hqf
        obtain ⟨G, fs, cps, hfe, hG, h1, h2⟩ := hqf
        refine later_good (dv := { target := .fn G cps, args := fs ++ args.map fr.eval }) a hsd ?_ ?_
        · simp only [DfR]
          exact ⟨_, _, _, rfl, hG, h2, by rw [Array.toList_append]; exact h1.append hargs⟩
        · show (do pure (.defer (← resolve fr.eval { callee := .value f, args := args, argTypes := ats } ty)) : Sem Next).run P w = _
          rw [resolve_value hfe]
          simp only [Sem.run_bind, Sem.run_pure, Result.andThen_ok]
      | _ => trivial
  | _ => trivial
end
end
end Go.Ev

namespace Go.Ev
set_option linter.unusedVariables false
set_option linter.unusedSectionVars false
set_option linter.unusedSimpArgs false
noncomputable section
variable [Val] [Fk]
section
variable {E : Env} {P : Program} (hE : EnvOk E P) {C : Call0} (hS : SumOk E P C)
theorem insU_ct {q : Operand → Opd} {d : Dst} {o : Oper} {c : CI} (h : insU q E d o = .ct d c) : c = ctlI q E o.op := by
  unfold insU at h
  split at h <;> first | (cases h; done) | skip
  cases h; rfl
include hE hS in
theorem ins_good {ih : Ko} {l : List Ins} {rest : List Ci} {fn : Nat} {ds : List Df} {dd : Bool} {rnd : Option Key} {cs : List Fr} {d : Dst} {L : Lo} {h : Hp} {nx : Key}
    {μ : Mu} {fr : Frame} {frs : List Frame} {F Fs : List Key} {w : World} {arr : Array Oper} {i : Nat} {is : List Nat} {k : List Item} {o : Oper}
    {q : Operand → Opd} (hq : ∀ x, VR μ (getO (q x) L) (fr.eval x)) (a : At E P C ih l rest fn ds dd rnd cs d L h nx μ fr frs F Fs w arr i is k o) :
    Good E P C ((insOf q E arr d o).run E l ih (.mk rest (.mk fn ds .run dd rnd) cs) L h nx) (lone fr (frs ++ C.cs0) w) :=
  g_good hq a fun hw => u_good hE hq a hw fun c hc => by rw [insU_ct hc]; exact ct_good hE hS hq a hw
include hE hS in
theorem ins_goodB {ih : Ko} {l : List Ins} {rest : List Ci} {fn : Nat} {ds : List Df} {dd : Bool} {rnd : Option Key} {cs : List Fr} {d : Dst} {L : Lo} {h : Hp} {nx : Key}
    {μ : Mu} {fr : Frame} {frs : List Frame} {F Fs : List Key} {w : World} {arr : Array Oper} {i : Nat} {is : List Nat} {k : List Item} {o : Oper}
    {q : Operand → Opd} (hq : ∀ x, VR μ (getO (q x) L) (fr.eval x)) (a : At E P C ih l rest fn ds dd rnd cs d L h nx μ fr frs F Fs w arr i is k o) :
    Good E P C ((insOfB q E arr d o).run E l ih (.mk rest (.mk fn ds .run dd rnd) cs) L h nx) (lone fr (frs ++ C.cs0) w) :=
  g_goodG hq a fun hw => u_goodB hE hq a hw fun c hc => by rw [insU_ct hc]; exact ct_good hE hS hq a hw
theorem isMv_some {o : Oper} {t : Nat} {x : Operand} (h : isMv o = some (t, x)) : o.guard = none ∧ o.dst = some t ∧ o.op = .move x := by
  unfold isMv at h
  split at h
  · rename_i h1 h2 h3; cases h; exact ⟨h1, h2, h3⟩
  · cases h
include hE hS in
theorem ops_good {rest : List Ci} {fn : Nat} {dd : Bool} {rnd : Option Key} {arr : Array Oper} {k : List Item} {Fs : List Key} :
    ∀ (n i : Nat) (cl : Cl) (L : Lo) (h : Hp) (nx : Key) (μ : Mu) (fr : Frame) (w : World) (ds : List Df) (cs : List Fr) (frs : List Frame), i + n = arr.size → fr.todo = .inRegion arr (List.range' i n) :: k →
    FiR E μ (.mk fn ds .run dd rnd) fr → KnR (cxOf E fn).nd μ cl L fr.tmps → TodoR E (cxOf E fn) μ (aftOs (cxOf E fn).nd cl (arr.toList.drop i)) rest k →
    HR C.W.heap.size μ h w → GR E μ → Ext C.W.heap.size C.W w → StR E μ cs frs Fs → Kept1 μ h Fs →
    Good E P C (ops E (compOs E arr (cxOf E fn) cl (arr.toList.drop i)) (.mk rest (.mk fn ds .run dd rnd) cs) L h nx) (lone fr (frs ++ C.cs0) w)
  | 0, i, cl, L, h, nx, μ, fr, w, ds, cs, frs, hi, ht, hf, hk, htd, hr, hg, he, hs, hkp => by
    have hd : arr.toList.drop i = [] := List.drop_eq_nil_of_le (by simp; omega)
    rw [hd] at htd ⊢
    have hmode : fr.mode = .run := by cases hf with | mk h1 h2 h3 h4 h5 h6 h7 => exact h3
    refine ⟨_, .one (s_regionEnd hmode ht), ?_⟩
    refine Sim.mk (F := []) (Fs := Fs) hr hg he ?_ hs (by simpa using hkp)
    cases hf with
    | mk h1 h2 h3 h4 h5 h6 h7 => exact .mk (.mk h1 h2 h3 h4 h5 h6 h7) (.plain hk htd)
  | n + 1, i, cl, L, h, nx, μ, fr, w, ds, cs, frs, hi, ht, hf, hk, htd, hr, hg, he, hs, hkp => by
    have hil : i < arr.toList.length := by simp; omega
    have hd : arr.toList.drop i = arr.toList[i] :: arr.toList.drop (i + 1) := List.drop_eq_getElem_cons hil
    have ho : arr[i]? = some arr.toList[i] := by rw [← Array.getElem?_toList, List.getElem?_eq_getElem hil]
    generalize arr.toList[i] = o at hd ho
    rw [hd] at htd ⊢
    rw [List.range'_succ] at ht
    have hmode : fr.mode = .run := by cases hf with | mk h1 h2 h3 h4 h5 h6 h7 => exact h3
    have hsz : (cxOf E fn).n ≤ fr.tmps.size := by cases hf with | mk h1 h2 h3 h4 h5 h6 h7 => exact h6
    have hq : ∀ x, VR μ (getO (opdW (cxOf E fn).nd (gl E) cl x) L) (fr.eval x) := by rw [eval_evT]; exact hk.q hg
    unfold compOs
    cases hok : okD (cxOf E fn).n o.dst with
    | false => trivial
    | true =>
      simp only [cond_true]
      cases hmv : isMv o with
      | some p =>
        obtain ⟨t, y⟩ := p
        obtain ⟨g1, g2, g3⟩ := isMv_some hmv
        have hstep : Steps P (lone fr (frs ++ C.cs0) w) (lone (fr.finish (fr.eval y)) (frs ++ C.cs0) w) := by
          refine exec_step hmode ht ho (by simp [Region.wanted, g1]) (fun c hh => by rw [g3] at hh; cases hh) (nxt := .value (fr.eval y)) ?_ rfl _
          obtain ⟨dst, op, ty, pos, af, gd⟩ := o
          simp only at g3; subst g3; rfl
        have htm := finish_tmps fr (fr.eval y) ht ho
        rw [g2] at htm hok
        simp only at htm
        have hal := hk.alias hg (x := y) hok hsz
        have haft : aftOs (cxOf E fn).nd cl (o :: arr.toList.drop (i + 1)) = aftOs (cxOf E fn).nd (aliasCl (cxOf E fn).nd t y cl) (arr.toList.drop (i + 1)) := by
          show aftOs _ (aftO _ cl o) _ = _
          unfold aftO; rw [hmv]
        rw [haft] at htd
        have ih := ops_good n (i + 1) (aliasCl (cxOf E fn).nd t y cl) (bif inNd (cxOf E fn).nd t then Go.Ev.put (slot t .o) (getO (opdW (cxOf E fn).nd (gl E) cl y) L) L else L) h nx μ (fr.finish (fr.eval y)) w ds cs frs (by omega)
          (finish_todo fr _ ht) (hf.finish _ ht ho) (by rw [htm, eval_evT]; exact hal) htd hr hg he hs hkp
        refine Good.of_steps hstep ?_
        simp only
        cases hnd : inNd (cxOf E fn).nd t with
        | true =>
          rw [hnd] at ih
          simp only [cond_true] at ih ⊢
          show Good E P C (opt (getO (opdW (cxOf E fn).nd (gl E) cl y) L).some .fail fun v => ops E _ _ (put (slot t .o) v L) h nx) _
          rw [AV.some_eq, opt_some]
          exact ih
        | false =>
          rw [hnd] at ih
          simp only [cond_false] at ih ⊢
          exact ih
      | none =>
        simp only
        have haft : aftOs (cxOf E fn).nd cl (o :: arr.toList.drop (i + 1)) = aftOs (cxOf E fn).nd (pushCl o.dst cl) (arr.toList.drop (i + 1)) := by
          show aftOs _ (aftO _ cl o) _ = _
          unfold aftO; rw [hmv]
        rw [haft] at htd
        -- what is known behind it
        have kput : ∀ ν a v, μ.le ν → VR ν a v → KnR (cxOf E fn).nd ν (pushCl o.dst cl) (put (dstN (cxOf E fn).nd o.dst) a L) (fr.finish v).tmps := by
          intro ν a v hle hv
          rw [finish_tmps fr v ht ho]
          cases hdst : o.dst with
          | none => exact (hk.mono hle).putNone a
          | some t => rw [hdst] at hok; exact (hk.mono hle).put hok hsz hv
        refine ins_goodB hE hS (F := []) (Fs := Fs) hq (is := List.range' (i + 1) n) (k := k) (arr := arr) (i := i) ⟨hr, hg, he, hf, hs, by simpa using hkp, ht, ho, fun ν hle => ?_, fun ν a v hle hv => ?_, ⟨NoX, hk.need, fun _ _ h => h⟩, ?_⟩
        · rw [ht, ← List.range'_succ]
          exact .waitP (hk.mono hle) (by omega) ho hok (htd.mono hle)
        · rw [finish_todo fr v ht]
          exact .plain (kput ν a v hle hv) (.mid (by omega) (htd.mono hle))
        · intro ν a v h' nx' w' ds' fr' cs' frs' hle hv hr' hg' he' hf' htm' htd' hs' hkp'
          have ht' : fr'.todo = .inRegion arr (i :: List.range' (i + 1) n) :: k := by rw [htd', ht]
          have htm2 : (fr'.finish v).tmps = (fr.finish v).tmps := by rw [finish_tmps fr' v ht' ho, finish_tmps fr v ht ho, htm']
          exact ops_good n (i + 1) _ _ h' nx' ν (fr'.finish v) w' ds' cs' frs' (by omega) (finish_todo fr' v ht') (hf'.finish v ht' ho) (by rw [htm2]; exact kput ν a v hle hv) (htd.mono hle) hr' hg' he' hs' (by simpa using hkp')
end
end
end Go.Ev
