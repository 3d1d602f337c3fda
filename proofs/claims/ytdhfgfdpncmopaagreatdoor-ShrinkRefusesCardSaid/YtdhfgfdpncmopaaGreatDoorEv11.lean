/- THE EVALUATOR, part 11 of 12: EvGc EvRen EvRen2 EvRen3 EvRen4 EvRen5 EvRen6 EvTurn -/
import Derived.Test.YtdhfgfdpncmopaaGreatDoorEv10
set_option linter.unusedVariables false
set_option linter.unusedSectionVars false
set_option linter.unusedSimpArgs false
namespace Go.Ev
set_option linter.unusedVariables false
set_option linter.unusedSectionVars false
set_option linter.unusedSimpArgs false
noncomputable section
variable [Fk]
/-! ## memory that is left behind: objects that nothing leads to are dropped -/
def okK (h : Hp) (k : Key) : Bool := bnot (hget k h).isNone
def okFn (h : Hp) : AFn → Bool
  | .yield l => okK h l
  | .fn _ => true
mutual
def okA (h : Hp) : AV → Bool
  | .ptr f _ _ => okK h f
  | .slice f _ _ _ _ _ _ => okK h f
  | .nsl f _ _ _ _ _ _ _ => okK h f
  | .nix f _ _ _ _ _ => okK h f
  | .map f => okK h f
  | .func fn a b => cnd (okFn h fn) (cnd (okAs h a) (okAs h b) false) false
  | .iface _ v => okA h v
  | .agg l => okAs h l
  | .tuple l => okAs h l
  | .stx l => okAs h l
  | _ => true
def okAs (h : Hp) : List AV → Bool
  | [] => true
  | a :: l => cnd (okA h a) (okAs h l) false
end
def N.allB {α : Type} (f : α → Bool) (n : N α) : Bool :=
  N.rec (motive := fun _ => Bool) (fun a b c d e g i j => cnd (f a) (cnd (f b) (cnd (f c) (cnd (f d) (cnd (f e) (cnd (f g) (cnd (f i) (f j) false) false) false) false) false) false) false) n
def okTm (h : Hp) (t : Tm) : Bool := N.allB (N.allB (N.allB (okA h))) t
def okLo (h : Hp) : Lo → Bool
  | .mk tm a b c => cnd (okTm h tm) (cnd (okA h a) (cnd (okA h b) (okA h c) false) false) false
def okTr (h : Hp) : Tr Row → Bool
  | .e => true
  | .lf (.mk l _) => okAs h l
  | .n a b => cnd (okTr h a) (okTr h b) false
def okEs (h : Hp) : List En → Bool
  | [] => true
  | .mk k v _ :: l => cnd (okA h k) (cnd (okA h v) (okEs h l) false) false
def okDf (h : Hp) : Df → Bool
  | .fn f a b => cnd (okFn h f) (cnd (okAs h a) (okAs h b) false) false
  | .bi _ _ => true
  | .del _ m k => cnd (okA h m) (okA h k) false
  | .collected r => okK h r
def okDfs (h : Hp) : List Df → Bool
  | [] => true
  | d :: l => cnd (okDf h d) (okDfs h l) false
def okRows (h : Hp) : List (List AV) → Bool
  | [] => true
  | a :: l => cnd (okAs h a) (okRows h l) false
def okOb (h : Hp) : Ob → Bool
  | .lst _ _ _ _ sfx => okRows h sfx
  | .cells _ _ _ _ _ c => okTr h c
  | .map es _ => okEs h es
  | .mapu es => okEs h es
  | .mapIter (some m) _ _ _ => okK h m
  | .loop _ _ _ tm _ _ _ df _ => cnd (okTm h tm) (okK h df) false
  | .deferred (some l) => okDfs h l
  | _ => true
def okPEs (h : Hp) : List PE → Bool
  | [] => true
  | .mk v _ :: l => cnd (okA h v) (okPEs h l) false
def okMd (h : Hp) : Md → Bool
  | .panicking l => okPEs h l
  | _ => true
def okFI (h : Hp) : FI → Bool
  | .mk _ ds md _ none => cnd (okDfs h ds) (okMd h md) false
  | .mk _ ds md _ (some l) => cnd (okK h l) (cnd (okDfs h ds) (okMd h md) false) false
def okTd (h : Hp) : List Ci → Bool
  | [] => true
  | .inRF l :: k => cnd (okK h l) (okTd h k) false
  | .endRF l :: k => cnd (okK h l) (okTd h k) false
  | _ :: k => okTd h k
def okFrs (h : Hp) : List Fr → Bool
  | [] => true
  | .mk L td fi :: l => cnd (okLo h L) (cnd (okTd h td) (cnd (okFI h fi) (okFrs h l) false) false) false
def gcH (ks : List Key) (h : Hp) : Hp :=
  List.rec (motive := fun _ => Hp → Hp) (fun h' => h') (fun k _ ih h' => ih (hset k (hget k h) h')) ks hp0
def okObs (h : Hp) : List Key → Bool
  | [] => true
  | k :: l => cnd (okOb h (hget k h)) (okObs h l) false
def okGm (gm : Nat) (h : Hp) : Nat → Bool
  | 0 => true
  | n + 1 => cnd (inM gm n) (cnd (okK h (Key.ofNat n)) (okGm gm h n) false) (okGm gm h n)
def gcOk (E : Env) (ks : List Key) (h' : Hp) : Cfg → Bool
  | .mk L td fi cs _ _ => cnd (okLo h' L) (cnd (okTd h' td) (cnd (okFI h' fi) (cnd (okFrs h' cs) (cnd (okObs h' ks) (cnd (Nat.blt E.gm (2 ^ 64)) (okGm E.gm h' 64) false) false) false) false) false) false
def gcRun (E : Env) (ks : List Key) (n : Nat) (c : Cfg) : Option Cfg :=
  Sp.rec (motive := fun _ => Option Cfg) (fun c => Cfg.rec (motive := fun _ => Option Cfg) (fun L td fi cs h nx => cnd (gcOk E ks (gcH ks h) (.mk L td fi cs h nx)) (some (.mk L td fi cs (gcH ks h) nx)) none) c) (fun _ => none) (fun _ => none) none (runC E n c)
def gcStart (E : Env) (ks : List Key) (n : Nat) (f : Nat) (vs : List AV) (h : Hp) (nx : Key) : Option Cfg :=
  Sp.rec (motive := fun _ => Option Cfg) (fun c => gcRun E ks n c) (fun _ => none) (fun _ => none) none (enter E f vs false [] h nx)
inductive Ok (E : Env) : Cfg → Prop where
  | run {n c} : run E n c = true → Ok E c
  | gc {n ks c c'} : gcRun E ks n c = some c' → Ok E c' → Ok E c
  | br {n c l} : runC E n c = .br l → (∀ c' ∈ l, Ok E c') → Ok E c
variable [Val]
def res (h : Hp) (μ : Mu) : Mu := fun f g => cnd (hget f h).isNone none (μ f g)
theorem res_some {h : Hp} {μ : Mu} {f : Key} {g : Nat} {x : Nat × Nat × Nat} (k : res h μ f g = some x) : (hget f h).isNone = false ∧ μ f g = some x := by
  unfold res at k
  cases hn : (hget f h).isNone with
  | true => rw [hn] at k; cases k
  | false => rw [hn] at k; exact ⟨rfl, k⟩
theorem okK_inv {h : Hp} {k : Key} (e : okK h k = true) : (hget k h).isNone = false := by
  unfold okK at e
  cases hn : (hget k h).isNone with
  | true => rw [hn] at e; cases e
  | false => rfl
theorem res_of {h : Hp} {μ : Mu} {f : Key} {g : Nat} (e : okK h f = true) : res h μ f g = μ f g := by
  unfold res; rw [okK_inv e]; rfl
theorem res_none {h : Hp} {μ : Mu} {f : Key} {g : Nat} (e : μ f g = none) : res h μ f g = none := by
  unfold res
  cases (hget f h).isNone with
  | true => rfl
  | false => exact e
theorem and2 {a b : Bool} (h : cnd a b false = true) : a = true ∧ b = true := by
  cases a with
  | false => cases h
  | true => exact ⟨rfl, h⟩
theorem okFn_r {h : Hp} {μ : Mu} : ∀ {f : AFn} {F : Fn}, okFn h f = true → FnR μ f F → FnR (res h μ) f F
  | .fn f, F, _, hf => hf
  | .yield l, F, e, ⟨b, s, n, hm, hF⟩ => ⟨b, s, n, by rw [res_of e]; exact hm, hF⟩
mutual
theorem okA_r {h : Hp} {μ : Mu} : ∀ (a : AV) (v : Value), okA h a = true → VR μ a v → VR (res h μ) a v
  | .top, _, _ => by simp only [VR]; exact fun _ => trivial
  | .any, v, _ => by simp only [VR]; exact id
  | .ub, v, _ => by simp only [VR]; exact id
  | .bool b, v, _ => by simp only [VR]; exact id
  | .int k n, v, _ => by simp only [VR]; exact id
  | .rng k lo hi, v, _ => by simp only [VR]; exact id
  | .md k m r, v, _ => by simp only [VR]; exact id
  | .sl lo hi, v, _ => by simp only [VR]; exact id
  | .str s, v, _ => by simp only [VR]; exact id
  | .ptr0, v, _ => by simp only [VR]; exact id
  | .slice0, v, _ => by simp only [VR]; exact id
  | .map0, v, _ => by simp only [VR]; exact id
  | .nilFunc, v, _ => by simp only [VR]; exact id
  | .nilIface, v, _ => by simp only [VR]; exact id
  | .sx k f c lo hi, v, _ => by simp only [VR]; exact id
  | .le f t neg, v, _ => by simp only [VR]; exact id
  | .eqv f t neg, v, _ => by simp only [VR]; exact id
  | .ptr f g o, v, e => by
    simp only [VR]
    rintro ⟨b, s, n, hm, r⟩
    exact ⟨b, s, n, by rw [res_of e]; exact hm, r⟩
  | .slice f g o len cap sz ex, v, e => by
    simp only [VR]
    rintro ⟨b, s, n, x, c, hm, r⟩
    exact ⟨b, s, n, x, c, by rw [res_of e]; exact hm, r⟩
  | .map m, v, e => by
    simp only [VR]
    rintro ⟨b, s, n, hm, r⟩
    exact ⟨b, s, n, by rw [res_of e]; exact hm, r⟩
  | .func fn f c, v, e => by
    have e : cnd (okFn h fn) (cnd (okAs h f) (okAs h c) false) false = true := e
    obtain ⟨e1, e⟩ := and2 e
    obtain ⟨e2, e3⟩ := and2 e
    simp only [VR]
    rintro ⟨F, fs, cs, hv, hF, h1, h2⟩
    exact ⟨F, fs, cs, hv, okFn_r e1 hF, okAs_r f _ e2 h1, okAs_r c _ e3 h2⟩
  | .iface t a, v, e => by
    simp only [VR]
    rintro ⟨x, hv, hx⟩
    exact ⟨x, hv, okA_r a x e hx⟩
  | .agg l, v, e => by
    simp only [VR]
    rintro ⟨cs, hv, hx⟩
    exact ⟨cs, hv, okAs_r l _ e hx⟩
  | .tuple l, v, e => by
    simp only [VR]
    rintro ⟨cs, hv, hx⟩
    exact ⟨cs, hv, okAs_r l _ e hx⟩
  | .stx l, v, e => by
    simp only [VR]
    rintro ⟨b, hv, hx⟩
    exact ⟨b, hv, okAs_r l _ e hx⟩
  | .nsl f g sz k c q d m, v, e => by
    simp only [VR]
    rintro ⟨base, len, cp, h1, h2, h3, h4, h5⟩
    exact ⟨base, len, cp, h1, h2, h3, h4, h5.imp id fun ⟨b, s, n, r, hm, k⟩ => ⟨b, s, n, r, by rw [res_of e]; exact hm, k⟩⟩
  | .nix f g sz k c o, v, e => by
    simp only [VR]
    rintro ⟨b, s, n, r, hm, k⟩
    exact ⟨b, s, n, r, by rw [res_of e]; exact hm, k⟩
  | .stq q, v, _ => by simp only [VR]; exact id
  | .nv q sl, v, _ => by simp only [VR]; exact id
theorem okAs_r {h : Hp} {μ : Mu} : ∀ (l : List AV) (vs : List Value), okAs h l = true → VRs μ l vs → VRs (res h μ) l vs
  | [], vs, _, hv => by simpa only [VRs] using hv
  | a :: l, vs, e, hv => by
    have e : cnd (okA h a) (okAs h l) false = true := e
    obtain ⟨e1, e2⟩ := and2 e
    simp only [VRs] at hv ⊢
    obtain ⟨v, r, e, h1, h2⟩ := hv
    exact ⟨v, r, e, okA_r a v e1 h1, okAs_r l r e2 h2⟩
end
theorem allB_sel {α : Type} {f : α → Bool} {n : N α} (h : N.allB f n = true) (d : D) : f (N.sel d n) = true := by
  obtain ⟨a, b, c, d', e, g, i, j⟩ := n
  have h : cnd (f a) (cnd (f b) (cnd (f c) (cnd (f d') (cnd (f e) (cnd (f g) (cnd (f i) (f j) false) false) false) false) false) false) false = true := h
  obtain ⟨h0, h⟩ := and2 h
  obtain ⟨h1, h⟩ := and2 h
  obtain ⟨h2, h⟩ := and2 h
  obtain ⟨h3, h⟩ := and2 h
  obtain ⟨h4, h⟩ := and2 h
  obtain ⟨h5, h⟩ := and2 h
  obtain ⟨h6, h7⟩ := and2 h
  cases d <;> assumption
theorem okTm_get {h : Hp} {t : Tm} (e : okTm h t = true) (a b c : D) : okA h (tget a b c t) = true := by
  rw [tget_eq]
  exact allB_sel (allB_sel (allB_sel e a) b) c
theorem okTm_getT {h : Hp} {t : Tm} (e : okTm h t = true) (n : Nat) : okA h (getT n t) = true := okTm_get e _ _ _
theorem okNeed {h : Hp} {μ : Mu} {nd : Nat} {X : Nat → Prop} {tm : Tm} {tmps : Array Value} (e : okTm h tm = true) (k : NeedR nd X μ tm tmps) : NeedR nd X (res h μ) tm tmps :=
  fun t h1 h2 => okA_r _ _ (okTm_getT e t) (k t h1 h2)
theorem okLo_inv {h : Hp} {L : Lo} (e : okLo h L = true) : okTm h L.tm = true ∧ okA h (getO .w0 L) = true ∧ okA h (getO .w1 L) = true ∧ okA h (getO .w2 L) = true := by
  obtain ⟨tm, a, b, c⟩ := L
  have e : cnd (okTm h tm) (cnd (okA h a) (cnd (okA h b) (okA h c) false) false) false = true := e
  obtain ⟨h1, e⟩ := and2 e
  obtain ⟨h2, e⟩ := and2 e
  obtain ⟨h3, h4⟩ := and2 e
  exact ⟨h1, h2, h3, h4⟩
theorem okKn {h : Hp} {μ : Mu} {nd : Nat} {cl : Cl} {L : Lo} {tmps : Array Value} (e : okLo h L = true) (k : KnR nd μ cl L tmps) : KnR nd (res h μ) cl L tmps := by
  obtain ⟨h1, h2, h3, h4⟩ := okLo_inv e
  refine ⟨okNeed h1 k.need, k.cok, fun u d x hm => ?_⟩
  have hv := k.cr u d x hm
  cases x with
  | w0 => exact okA_r _ _ h2 hv
  | w1 => exact okA_r _ _ h3 hv
  | w2 => exact okA_r _ _ h4 hv
  | t a b c => rw [getO_t] at hv ⊢; exact okA_r _ _ (okTm_get h1 a b c) hv
  | c av => rw [getO_c] at hv ⊢; exact (k.cok _ hm).2 av rfl _ _ _ _ _ hv
theorem okAt {h : Hp} {μ : Mu} {l : Key} {b : Nat} (e : okK h l = true) (k : AtR μ l b) : AtR (res h μ) l b := by
  obtain ⟨s, n, k⟩ := k
  exact ⟨s, n, by rw [res_of e]; exact k⟩
theorem okTd_app {h : Hp} : ∀ {l k : List Ci}, okTd h (l ++ k) = true → okTd h k = true
  | [], k, e => e
  | c :: l, k, e => by
    have e : okTd h (c :: (l ++ k)) = true := e
    refine okTd_app (l := l) ?_
    cases c <;> first | exact e | exact (and2 e).2
theorem okTodo {E : Env} {x : Cx} {h : Hp} {μ : Mu} {cl : Cl} {l : List Ci} {k : List Item} (e : okTd h l = true) (t : TodoR E x μ cl l k) : TodoR E x (res h μ) cl l k := by
  induction t with
  | nil cl => exact .nil cl
  | forget _ ih => exact .forget (ih e)
  | code _ ih => exact .code (ih (okTd_app e))
  | inBlock _ ih => exact .inBlock (ih e)
  | inLoop _ ih => exact .inLoop (ih e)
  | inScope _ ih => exact .inScope (ih e)
  | mid h1 _ ih => exact .mid h1 (ih e)
  | endRF h1 _ ih => exact .endRF (okAt (and2 e).1 h1) (ih (and2 e).2)
  | beginRound _ ih => exact .beginRound (ih e)
theorem okDf_r {h : Hp} {μ : Mu} : ∀ {d : Df} {x : Deferred}, okDf h d = true → DfR μ d x → DfR (res h μ) d x
  | .fn f cap args, d, e, k => by
    have e : cnd (okFn h f) (cnd (okAs h cap) (okAs h args) false) false = true := e
    obtain ⟨e1, e⟩ := and2 e
    obtain ⟨e2, e3⟩ := and2 e
    simp only [DfR] at k ⊢
    obtain ⟨F, cs, vs, hd, h1, h2, h3⟩ := k
    exact ⟨F, cs, vs, hd, okFn_r e1 h1, okAs_r _ _ e2 h2, okAs_r _ _ e3 h3⟩
  | .bi b args, d, e, k => by simp only [DfR] at k
  | .del t m k, d, e, kk => by
    have e : cnd (okA h m) (okA h k) false = true := e
    obtain ⟨e1, e2⟩ := and2 e
    simp only [DfR] at kk ⊢
    obtain ⟨ats, ty, cn, xs, v, w, h1, h2, h3, h4, h5, h6⟩ := kk
    exact ⟨ats, ty, cn, xs, v, w, h1, h2, h3, h4, okA_r _ _ e1 h5, okA_r _ _ e2 h6⟩
  | .collected r, d, e, k => by
    simp only [DfR] at k ⊢
    obtain ⟨b, s, n, h1, h2⟩ := k
    exact ⟨b, s, n, by rw [res_of e]; exact h1, h2⟩
theorem okDfs_r {h : Hp} {μ : Mu} : ∀ {ds : List Df} {xs : List Deferred}, okDfs h ds = true → DfsR μ ds xs → DfsR (res h μ) ds xs
  | [], _, _, k => by simpa only [DfsR] using k
  | d :: ds, _, e, k => by
    obtain ⟨e1, e2⟩ := and2 (show cnd (okDf h d) (okDfs h ds) false = true from e)
    simp only [DfsR] at k ⊢
    obtain ⟨x, r, rfl, h1, h2⟩ := k
    exact ⟨x, r, rfl, okDf_r e1 h1, okDfs_r e2 h2⟩
theorem okPEs_r {h : Hp} {μ : Mu} : ∀ {a : List PE} {b : List PanicEntry}, okPEs h a = true → PEsR μ a b → PEsR (res h μ) a b
  | [], b, _, k => k
  | .mk v r :: a, b, e, k => by
    obtain ⟨e1, e2⟩ := and2 (show cnd (okA h v) (okPEs h a) false = true from e)
    obtain ⟨u, l', e, h1, h2⟩ := k
    exact ⟨u, l', e, okA_r _ _ e1 h1, okPEs_r e2 h2⟩
theorem okMd_r {h : Hp} {μ : Mu} : ∀ {a : Md} {b : FrameMode}, okMd h a = true → MdR μ a b → MdR (res h μ) a b
  | .run, b, _, k => k
  | .returning, b, _, k => k
  | .panicking ch, b, e, k => by obtain ⟨ch', e', h1⟩ := k; exact ⟨ch', e', okPEs_r e h1⟩
theorem okFI_r {E : Env} {h : Hp} {μ : Mu} {fi : FI} {fr : Frame} (e : okFI h fi = true) (k : FiR E μ fi fr) : FiR E (res h μ) fi fr := by
  cases k with
  | @mk fn ds md dd rnd fr h1 h2 h3 h4 h5 h6 h7 =>
    cases rnd with
    | none =>
      obtain ⟨e1, e2⟩ := and2 (show cnd (okDfs h ds) (okMd h md) false = true from e)
      exact .mk h1 (okDfs_r e1 h2) (okMd_r e2 h3) h4 h5 h6 h7
    | some l =>
      obtain ⟨e0, e⟩ := and2 (show cnd (okK h l) (cnd (okDfs h ds) (okMd h md) false) false = true from e)
      obtain ⟨e1, e2⟩ := and2 e
      obtain ⟨b, h8, h9⟩ := h5
      exact .mk h1 (okDfs_r e1 h2) (okMd_r e2 h3) h4 ⟨b, okAt e0 h8, h9⟩ h6 h7
theorem keyOf_ok {h : Hp} {a : AV} {f : Key} (e : okA h a = true) (k : keyOfA a = some f) : (hget f h).isNone = false := by
  cases a <;> first | (cases k; done) | skip
  all_goals
    cases k
    exact okK_inv e
theorem pk_ok {E : Env} {x : Cx} {arr : Array Oper} {d : Nat} {L : Lo} {h : Hp} {idxs : List Nat} (e : okTm h L.tm = true) : ∀ f ∈ idxs.filterMap (pk E x arr d L), (hget f h).isNone = false := by
  intro f hf
  obtain ⟨i, hi, hp⟩ := List.mem_filterMap.1 hf
  unfold pk at hp
  split at hp
  · rename_i o ho
    cases hd : inM d i with
    | false => rw [hd] at hp; cases hp
    | true =>
      rw [hd] at hp
      simp only [cond_true] at hp
      split at hp
      · refine keyOf_ok (a := tgtV L o) ?_ hp
        unfold tgtV
        split
        · exact okTm_getT e _
        · rfl
      · cases hp
  · cases hp
theorem okDrI {E : Env} {x : Cx} {arr : Array Oper} {d : Nat} {qs : List (Nat × Oper × Nat)} {idxs : List Nat} {h : Hp} {μ : Mu} {L : Lo} {tmps : Array Value} (e : okTm h L.tm = true) (k : DrI E x arr d qs idxs μ L tmps) :
    DrI E x arr d qs idxs (res h μ) L tmps := ⟨k.lin, k.cd, k.dcl, k.hqs, k.qsm, okNeed e k.need, k.pl⟩
theorem okBody {E : Env} {fn : Nat} {h : Hp} {μ : Mu} {L : Lo} {tmps : Array Value} {md : Md} {l : List Ci} {k : List Item} {F : List Key} (e : okLo h L = true) (et : okTd h l = true) (b : BodyR E fn μ L tmps md l k F) :
    BodyR E fn (res h μ) L tmps md l k F ∧ ∀ f ∈ F, (hget f h).isNone = false := by
  have e1 := (okLo_inv e).1
  cases b with
  | plain h1 h2 => exact ⟨.plain (okKn e h1) (okTodo et h2), fun f hf => by cases hf⟩
  | waitP h1 h2 h3 h4 h5 => exact ⟨.waitP (okKn e h1) h2 h3 h4 (okTodo et h5), fun f hf => by cases hf⟩
  | inRFP h1 h2 h3 => exact ⟨.inRFP (okKn e h1) (okAt (and2 et).1 h2) (okTodo (and2 et).2 h3), fun f hf => by cases hf⟩
  | out h0 h1 h2 => exact ⟨.out h0 (okNeed e1 h1) h2, fun f hf => by cases hf⟩
  | drawn h1 =>
    cases h1 with
    | wait g1 g2 g3 g4 g5 g6 g7 => exact ⟨.drawn (.wait g1 (okTodo et g2) g3 g4 g5 g6 (okDrI e1 g7)), pk_ok e1⟩
    | mid g1 g2 g3 g4 g5 => exact ⟨.drawn (.mid g1 (okTodo et g2) g3 (okDrI e1 g4) g5), pk_ok e1⟩
theorem okFr {E : Env} {h : Hp} {μ : Mu} {L : Lo} {l : List Ci} {fi : FI} {fr : Frame} {F : List Key} (e : okLo h L = true) (et : okTd h l = true) (ef : okFI h fi = true) (b : FrR E μ L l fi fr F) :
    FrR E (res h μ) L l fi fr F ∧ ∀ f ∈ F, (hget f h).isNone = false := by
  cases b with
  | mk h1 h2 =>
    obtain ⟨h3, h4⟩ := okBody e et h2
    exact ⟨.mk (okFI_r ef h1) h3, h4⟩
theorem okSt {E : Env} {h : Hp} {μ : Mu} {cs : List Fr} {frs : List Frame} {F : List Key} (b : StR E μ cs frs F) : okFrs h cs = true → StR E (res h μ) cs frs F ∧ ∀ f ∈ F, (hget f h).isNone = false := by
  induction b with
  | nil => exact fun _ => ⟨.nil, fun f hf => by cases hf⟩
  | @cons L todo fi fr cs frs F Fs h1 _ ih =>
    intro e
    obtain ⟨e1, e⟩ := and2 (show cnd (okLo h L) (cnd (okTd h todo) (cnd (okFI h fi) (okFrs h cs) false) false) false = true from e)
    obtain ⟨e2, e⟩ := and2 e
    obtain ⟨e3, e4⟩ := and2 e
    obtain ⟨g1, g2⟩ := okFr e1 e2 e3 h1
    obtain ⟨g3, g4⟩ := ih e4
    exact ⟨.cons g1 g3, fun f hf => (List.mem_append.1 hf).elim (g2 f) (g4 f)⟩
open Classical in
theorem gcH_get {h : Hp} {f : Key} : ∀ (ks : List Key), (hget f (gcH ks h) = hget f h ∧ f ∈ ks) ∨ hget f (gcH ks h) = .none := by
  have key : ∀ (ks : List Key) (h' : Hp), hget f (List.rec (motive := fun _ => Hp → Hp) (fun h' => h') (fun k _ ih h' => ih (hset k (hget k h) h')) ks h') = if f ∈ ks then hget f h else hget f h' := by
    intro ks
    induction ks with
    | nil => intro h'; simp
    | cons k ks ih =>
      intro h'
      show hget f (List.rec (motive := fun _ => Hp → Hp) (fun h' => h') (fun k _ ih h' => ih (hset k (hget k h) h')) ks (hset k (hget k h) h')) = _
      rw [ih]
      by_cases h1 : f ∈ ks
      · simp [h1]
      · by_cases h2 : k = f
        · subst h2; simp [h1, hget_hset]
        · rw [if_neg h1, hget_hset_ne h2, if_neg]
          simp [h1, Ne.symm h2]
  intro ks
  have := key ks hp0
  by_cases h1 : f ∈ ks
  · rw [if_pos h1] at this; exact .inl ⟨this, h1⟩
  · rw [if_neg h1, hget_hp0] at this; exact .inr this
theorem okObs_inv {h : Hp} : ∀ {ks : List Key}, okObs h ks = true → ∀ f ∈ ks, okOb h (hget f h) = true
  | [], _, f, hf => by cases hf
  | k :: ks, e, f, hf => by
    obtain ⟨e1, e2⟩ := and2 (show cnd (okOb h (hget k h)) (okObs h ks) false = true from e)
    rcases List.mem_cons.1 hf with rfl | hf
    · exact e1
    · exact okObs_inv e2 f hf
theorem okTr_get {h : Hp} : ∀ {c : Tr Row} {r : Nat} {l : List AV} {gw : Nat}, okTr h c = true → c.get r = some (.mk l gw) → okAs h l = true
  | .e, r, l, gw, _, hg => by cases hg
  | .lf (.mk l' g'), r, l, gw, e, hg => by
    have hg : cnd (Nat.beq r 0) (some (Row.mk l' g')) none = some (.mk l gw) := hg
    obtain ⟨_, hg⟩ := cnd_inv hg
    cases hg; exact e
  | .n a b, r, l, gw, e, hg => by
    obtain ⟨e1, e2⟩ := and2 (show cnd (okTr h a) (okTr h b) false = true from e)
    have hg : cnd (Nat.beq (Nat.mod r 2) 0) (a.get (Nat.div r 2)) (b.get (Nat.div r 2)) = some (.mk l gw) := hg
    cases hb : Nat.beq (Nat.mod r 2) 0 with
    | true => rw [hb] at hg; exact okTr_get e1 hg
    | false => rw [hb] at hg; exact okTr_get e2 hg
theorem okEs_r {h : Hp} {μ : Mu} : ∀ {es : List En} {xs : List MapEntry}, okEs h es = true → EnsR μ es xs → EnsR (res h μ) es xs
  | [], _, _, k => by simpa only [EnsR] using k
  | .mk k v b :: es, _, e, kk => by
    obtain ⟨e1, e⟩ := and2 (show cnd (okA h k) (cnd (okA h v) (okEs h es) false) false = true from e)
    obtain ⟨e2, e3⟩ := and2 e
    simp only [EnsR] at kk ⊢
    obtain ⟨x, r, rfl, ⟨g1, g2, g3⟩, g4⟩ := kk
    exact ⟨x, r, rfl, ⟨okA_r _ _ e1 g1, okA_r _ _ e2 g2, g3⟩, okEs_r e3 g4⟩
theorem okEs_kv {h : Hp} : ∀ {es : List En}, okEs h es = true ↔ ∀ e ∈ es.map kv, okA h e.1 = true ∧ okA h e.2 = true
  | [] => ⟨fun _ e he => (by cases he), fun _ => rfl⟩
  | .mk k v b :: es => by
    show cnd (okA h k) (cnd (okA h v) (okEs h es) false) false = true ↔ _
    constructor
    · intro e x hx
      obtain ⟨e1, e⟩ := and2 e
      obtain ⟨e2, e3⟩ := and2 e
      rcases List.mem_cons.1 (show x ∈ (k, v) :: es.map kv from hx) with rfl | hx
      · exact ⟨e1, e2⟩
      · exact okEs_kv.1 e3 x hx
    · intro hh
      obtain ⟨e1, e2⟩ := hh (k, v) (List.mem_cons_self ..)
      have e3 := (okEs_kv (es := es)).2 fun x hx => hh x (List.mem_cons_of_mem _ hx)
      rw [e1, e2, e3]; rfl
theorem okAs_get {h : Hp} : ∀ {l : List AV} {j : Nat} {a : AV}, okAs h l = true → l[j]? = some a → okA h a = true
  | [], j, a, _, hh => by simp at hh
  | x :: l, j, a, e, hh => by
    obtain ⟨e1, e2⟩ := and2 (show cnd (okA h x) (okAs h l) false = true from e)
    cases j with
    | zero => simp at hh; subst hh; exact e1
    | succ j => exact okAs_get e2 (by simpa using hh)
theorem okRows_get {h : Hp} : ∀ {l : List (List AV)} {j : Nat} {a : List AV}, okRows h l = true → l[j]? = some a → okAs h a = true
  | [], j, a, _, hh => by simp at hh
  | x :: l, j, a, e, hh => by
    obtain ⟨e1, e2⟩ := and2 (show cnd (okAs h x) (okRows h l) false = true from e)
    cases j with
    | zero => simp at hh; subst hh; exact e1
    | succ j => exact okRows_get e2 (by simpa using hh)
theorem okOb_r {B : Nat} {h : Hp} {μ : Mu} {w : World} {f : Key} (hf : okK h f = true) : ∀ {o : Ob}, okOb h o = true → OR B μ w f o → OR B (res h μ) w f o
  | .none, _, k => by simp only [OR] at k ⊢; exact fun g => res_none (k g)
  | .cells ro gen sz dp ext c, e, k => by
    simp only [OR] at k ⊢
    obtain ⟨k1, k2, k3⟩ := k
    refine ⟨k1, ⟨fun g hg => res_none (k2.1 g hg), k2.2⟩, fun g b s n hm => ?_⟩
    rw [res_of hf] at hm
    obtain ⟨a1, a2, cs, e', fz, a3, a4, a5, a6⟩ := k3 g b s n hm
    refine ⟨a1, a2, cs, e', fz, a3, a4, a5, fun r l gw h1 h2 h3 => ?_⟩
    obtain ⟨b1, b2, b3⟩ := a6 r l gw h1 h2 h3
    refine ⟨b1, b2, fun j a hj => ?_⟩
    obtain ⟨v, c1, c2⟩ := b3 j a hj
    refine ⟨v, c1, okA_r _ _ ?_ c2⟩
    have el := okTr_get e h1
    have key : ∀ (l : List AV) (j : Nat) (a : AV), okAs h l = true → l[j]? = some a → okA h a = true := by
      intro l
      induction l with
      | nil => intro j a _ hh; simp at hh
      | cons x l ih =>
        intro j a e hh
        obtain ⟨e1, e2⟩ := and2 (show cnd (okA h x) (okAs h l) false = true from e)
        cases j with
        | zero => simp at hh; subst hh; exact e1
        | succ j => exact ih j a e2 (by simpa using hh)
    exact key l j a el hj
  | .map es clock, e, k => by
    simp only [OR] at k ⊢
    obtain ⟨k2, k3⟩ := k
    refine ⟨fun g hg => res_none (k2 g hg), fun b s n hm => ?_⟩
    rw [res_of hf] at hm
    obtain ⟨a1, es', a2, a3⟩ := k3 b s n hm
    exact ⟨a1, es', a2, okEs_r e a3⟩
  | .strIter x pos, e, k => by
    simp only [OR] at k ⊢
    obtain ⟨k2, k3⟩ := k
    refine ⟨fun g hg => res_none (k2 g hg), fun b s n hm => ?_⟩
    rw [res_of hf] at hm
    exact k3 b s n hm
  | .mapIter m since seen st, e, k => by
    simp only [OR] at k ⊢
    obtain ⟨k2, k3⟩ := k
    refine ⟨fun g hg => res_none (k2 g hg), fun b s n hm => ?_⟩
    rw [res_of hf] at hm
    obtain ⟨a1, a2, m', a3, a4⟩ := k3 b s n hm
    refine ⟨a1, a2, m', a3, ?_⟩
    cases m with
    | none => exact a4
    | some q => obtain ⟨c, s2, n2, a5, a6⟩ := a4; exact ⟨c, s2, n2, by rw [res_of e]; exact a5, a6⟩
  | .loop st pend fn tm ps a b df x, e, k => by
    obtain ⟨e1, e2⟩ := and2 (show cnd (okTm h tm) (okK h df) false = true from e)
    simp only [OR] at k ⊢
    obtain ⟨k2, k3⟩ := k
    refine ⟨fun g hg => res_none (k2 g hg), fun c s n hm => ?_⟩
    rw [res_of hf] at hm
    obtain ⟨a1, tmps, dfb, s', n', a2, a3, a4⟩ := k3 c s n hm
    exact ⟨a1, tmps, dfb, s', n', a2, ⟨okNeed e1 a3.1, a3.2⟩, by rw [res_of e2]; exact a4⟩
  | .deferred ds, e, k => by
    simp only [OR] at k ⊢
    obtain ⟨k2, k3⟩ := k
    refine ⟨fun g hg => res_none (k2 g hg), fun b s n hm => ?_⟩
    rw [res_of hf] at hm
    obtain ⟨a1, ds', a2, a3⟩ := k3 b s n hm
    refine ⟨a1, ds', a2, ?_⟩
    cases ds with
    | none => exact a3
    | some l => obtain ⟨l', a4, a5⟩ := a3; exact ⟨l', a4, okDfs_r e a5⟩
  | .mapu es, e, k => by
    simp only [OR] at k ⊢
    obtain ⟨k2, k3⟩ := k
    refine ⟨fun g hg => res_none (k2 g hg), fun b s n hm => ?_⟩
    rw [res_of hf] at hm
    obtain ⟨a1, es', clock, es0, a2, a3, a4⟩ := k3 b s n hm
    exact ⟨a1, es', clock, es0, a2, okEs_r (okEs_kv.2 fun x hx => okEs_kv.1 e x (a4.mem_iff.2 hx)) a3, a4⟩
  | .iv lo hi, e, k => by
    simp only [OR] at k ⊢
    exact ⟨fun g => res_none (k.1 g), k.2⟩
  | .lst ro gen sz q sfx, e, k => by
    simp only [OR] at k ⊢
    obtain ⟨k1, k2, k3⟩ := k
    refine ⟨k1, ⟨fun g hg => res_none (k2.1 g hg), k2.2⟩, fun g b s n hm => ?_⟩
    · rw [res_of hf] at hm
      obtain ⟨a1, cs, e', fz, a2, a3, a4, a5, a6⟩ := k3 g b s n hm
      refine ⟨a1, cs, e', fz, a2, a3, a4, a5, fun hg i l hi j a hj => ?_⟩
      obtain ⟨v, c1, c2⟩ := a6 hg i l hi j a hj
      exact ⟨v, c1, okA_r _ _ (okAs_get (okRows_get e hi) hj) c2⟩
theorem gc_HR {B : Nat} {μ : Mu} {h : Hp} {w : World} {ks : List Key} (hH : HR B μ h w) (e : okObs (gcH ks h) ks = true) : HR B (res (gcH ks h) μ) (gcH ks h) w := by
  refine ⟨fun f g b s n f' g' s' n' h1 h2 hc => hH.inj _ _ _ _ _ _ _ _ _ (res_some h1).2 (res_some h2).2 hc, fun f g b s n h1 => hH.lt _ _ _ _ _ (res_some h1).2, fun f => ?_,
    fun f g g' b s n s' n' h1 h2 h3 => hH.side _ _ _ _ _ _ _ _ (res_some h1).2 (res_some h2).2 h3, hH.fk, fun f b s n h1 => hH.start _ _ _ _ (res_some h1).2⟩
  rcases gcH_get (h := h) (f := f) ks with ⟨h1, h2⟩ | h1
  · have hO := hH.obj f
    rw [← h1] at hO
    cases hn : (hget f (gcH ks h)).isNone with
    | true =>
      have : hget f (gcH ks h) = .none := by cases hh : hget f (gcH ks h) <;> rw [hh] at hn <;> first | rfl | cases hn
      rw [this]
      intro g
      unfold res
      rw [hn]; rfl
    | false => exact okOb_r (by unfold okK; rw [hn]; rfl) (okObs_inv e f h2) hO
  · rw [h1]
    intro g
    unfold res
    rw [h1]; rfl
theorem okGm_inv {gm : Nat} {h : Hp} : ∀ {n : Nat}, okGm gm h n = true → ∀ g, g < n → inM gm g = true → okK h (Key.ofNat g) = true
  | 0, _, g, hg, _ => by omega
  | n + 1, e, g, hg, hm => by
    have e : cnd (inM gm n) (cnd (okK h (Key.ofNat n)) (okGm gm h n) false) (okGm gm h n) = true := e
    cases hn : inM gm n with
    | true =>
      rw [hn] at e
      obtain ⟨e1, e2⟩ := and2 e
      by_cases hh : g = n
      · subst hh; exact e1
      · exact okGm_inv e2 g (by omega) hm
    | false =>
      rw [hn] at e
      by_cases hh : g = n
      · subst hh; rw [hn] at hm; cases hm
      · exact okGm_inv e g (by omega) hm
theorem gc_sim {E : Env} {P : Program} {C : Call0} {ks : List Key} {L : Lo} {td : List Ci} {fi : FI} {cs : List Fr} {h : Hp} {nx : Key} {m : Machine} (e : gcOk E ks (gcH ks h) (.mk L td fi cs h nx) = true)
    (hs : Sim E P C (.mk L td fi cs h nx) m) : Sim E P C (.mk L td fi cs (gcH ks h) nx) m := by
  obtain ⟨e1, e⟩ := and2 (show cnd (okLo (gcH ks h) L) (cnd (okTd (gcH ks h) td) (cnd (okFI (gcH ks h) fi) (cnd (okFrs (gcH ks h) cs) (cnd (okObs (gcH ks h) ks) (cnd (Nat.blt E.gm (2 ^ 64)) (okGm E.gm (gcH ks h) 64) false) false) false) false) false) false = true from e)
  obtain ⟨e2, e⟩ := and2 e
  obtain ⟨e3, e⟩ := and2 e
  obtain ⟨e4, e⟩ := and2 e
  obtain ⟨e5, e⟩ := and2 e
  obtain ⟨e6, e7⟩ := and2 e
  cases hs with
  | mk hr hg he hf hst hk =>
    obtain ⟨f1, f2⟩ := okFr e1 e2 e3 hf
    obtain ⟨s1, s2⟩ := okSt hst e4
    refine .mk (gc_HR hr e5) (fun g hgm => ?_) he f1 s1 ⟨hk.1, fun f hff => ⟨?_, fun g => res_none ((hk.2 f hff).2 g)⟩⟩
    · obtain ⟨n, hn⟩ := hg g hgm
      have hlt : g < 64 := by
        rcases Nat.lt_or_ge g 64 with h' | h'
        · exact h'
        · exfalso
          have q1 : Nat.land E.gm (Nat.pow 2 g) = Nat.pow 2 g := Nat.eq_of_beq_eq_true hgm
          have q2 : E.gm &&& 2 ^ g ≤ E.gm := Nat.and_le_left
          have q3 : E.gm &&& 2 ^ g = 2 ^ g := q1
          have q4 : E.gm < 2 ^ 64 := by simpa [Nat.blt_eq] using e6
          have q5 : 2 ^ 64 ≤ 2 ^ g := Nat.pow_le_pow_right (by decide) h'
          omega
      exact ⟨n, by rw [res_of (okGm_inv e7 g hlt hgm)]; exact hn⟩
    · exact (List.mem_append.1 hff).elim (f2 f) (s2 f)
section
variable {E : Env} {P : Program} (hE : EnvOk E P) {C : Call0} (hS : SumOk E P C) (hD : DrawnOk E P C)
include hE hS hD in
theorem runC_good : ∀ (n : Nat) {c : Cfg} {m : Machine}, Sim E P C c m → Good E P C (runC E n c) m
  | 0, c, m, hs => ⟨m, .refl _ _, hs⟩
  | n + 1, c, m, hs => by
    have hg := step_good hE hS hD hs
    rw [runC_succ]
    cases hc : step E c with
    | go c' =>
      rw [hc] at hg
      obtain ⟨m', h1, h2⟩ := hg
      exact Good.of_steps h1 (runC_good n h2)
    | done v => rw [hc] at hg; exact hg
    | br l => rw [hc] at hg; exact hg
    | fail => trivial
include hE hS hD in
theorem ok_sound {c : Cfg} (ho : Ok E c) : ∀ {m : Machine}, Sim E P C c m → Done E P C (.bool true) m := by
  induction ho with
  | run h => exact fun hs => run_sound hE hS hD _ h hs
  | @gc n ks c c' h _ ih =>
    intro m hs
    have hg := runC_good hE hS hD n hs
    unfold gcRun at h
    cases hc : runC E n c with
    | go c1 =>
      rw [hc] at h hg
      obtain ⟨m', h1, h2⟩ := hg
      obtain ⟨L, td, fi, cs, hp, nx⟩ := c1
      obtain ⟨e1, e2⟩ := cnd_inv (show cnd (gcOk E ks (gcH ks hp) (.mk L td fi cs hp nx)) (some (Cfg.mk L td fi cs (gcH ks hp) nx)) none = some c' from h)
      cases e2
      exact (ih (gc_sim e1 h2)).of_steps h1
    | done v => rw [hc] at h; cases h
    | br l => rw [hc] at h; cases h
    | fail => rw [hc] at h; cases h
  | @br n c l h _ ih =>
    intro m hs
    have hg := runC_good hE hS hD n hs
    rw [h] at hg
    obtain ⟨c', hc, m', h1, h2⟩ := hg
    exact (ih c' hc h2).of_steps h1
end
def StartOk (E : Env) (f : Nat) (vs : List AV) (h : Hp) (nx : Key) : Prop := ∃ c, enter E f vs false [] h nx = .go c ∧ Ok E c
omit [Val] in
theorem startOk_gc {E : Env} {ks : List Key} {n f : Nat} {vs : List AV} {h : Hp} {nx : Key} {c : Cfg} (hs : gcStart E ks n f vs h nx = some c) (k : Ok E c) : StartOk E f vs h nx := by
  unfold gcStart at hs
  cases hen : enter E f vs false [] h nx with
  | go c0 => rw [hen] at hs; exact ⟨c0, hen, .gc hs k⟩
  | _ => rw [hen] at hs; cases hs
omit [Val] in
theorem startOk_run {E : Env} {n f : Nat} {vs : List AV} {h : Hp} {nx : Key} (hs : startB E n f vs h nx = true) : StartOk E f vs h nx := by
  unfold startB at hs
  cases hen : enter E f vs false [] h nx with
  | go c0 => rw [hen] at hs; exact ⟨c0, hen, .run hs⟩
  | _ => rw [hen] at hs; cases hs
theorem ok_calls {E : Env} {P : Program} (hE : EnvOk E P) {W : World} (hS : ∀ cs, SumOk E P ⟨cs, W⟩) {vs : List AV} {args : Array Value} {h : Hp} {nx : Key} {μ : Mu}
    (hv : VRs μ vs args.toList) (hr : HR W.heap.size μ h W) (hg : GR E μ) (hrun : StartOk E E.root vs h nx) :
    Calls P E.root args W (fun e w' => e = .returned (.bool true) ∧ Ext W.heap.size W w') := by
  intro cs
  have hgo := enter_good0 (E := E) (P := P) hE (C := ⟨cs, W⟩) (f := E.root) (nx := nx) hv hr hg (Ext.refl _ _)
  obtain ⟨c, hen, hok⟩ := hrun
  rw [hen] at hgo
  obtain ⟨m', h1, h2⟩ := hgo
  obtain ⟨fr, w, v, ν, k1, k2, k3, k4, k5⟩ := ok_sound hE (hS cs) (drawn_ok hE (hS cs)) hok h2
  simp only [VR] at k3
  subst k3
  exact ⟨.returned (.bool true), w, fr, ⟨rfl, k4⟩, h1.trans k1, k5, k2⟩
theorem ini_callsOk {E : Env} {P : Program} (hF : FkOk) (hE : EnvOk E P) {gs : List Gv} {W : World} (hi : IniR gs W) (hb : bitsOk E.gm gs = true)
    (hS : hasBody E E.sum = true → ∀ w, IniR gs w → Calls P E.sum #[] w (fun e w' => e = .returned (.bool true) ∧ Ext w.heap.size w w')) (hsm : Fk.sm = [] := by rfl) {vs : List AV} {args : Array Value} {nx : Key}
    {ivs : List (Key × Int × Int)} (hok : ivsOk gs ivs = true) (hiv : ∀ x ∈ ivs, x.2.1 ≤ Val.n x.1 ∧ Val.n x.1 ≤ x.2.2)
    (hv : ∀ μ, VRs μ vs args.toList) (hrun : StartOk E E.root vs (initHv gs ivs) nx) :
    Calls P E.root args W (fun e w' => e = .returned (.bool true) ∧ Ext W.heap.size W w') :=
  ok_calls hE (fun cs => ⟨fun w he hbd => hS hbd w (hi.ext he), fun s hs => by rw [hsm] at hs; cases hs⟩) (hv _) (ini_HRv hi (ini_HR hF hi _) hok hiv) (ini_GR hb) hrun
end
end Go.Ev

namespace Go.Ev
set_option linter.unusedVariables false
set_option linter.unusedSectionVars false
set_option linter.unusedSimpArgs false
noncomputable section
/-! plain facts, for whatever names -/
@[reducible] def dV : Val := ⟨fun _ => 0, fun _ => []⟩
@[reducible] def dF : Fk := fk3 [] [] []
theorem an2 {a b : Bool} (h : cnd a b false = true) : a = true ∧ b = true := by
  cases a with
  | false => cases h
  | true => exact ⟨rfl, h⟩
theorem cnI {R : Type} {b : Bool} {t : Option R} {r : R} (h : cnd b t none = some r) : b = true ∧ t = some r := @cnd_inv dV dF _ _ _ _ h
theorem opI {A R : Type} {o : Option A} {s : A → Option R} {r : R} (h : opt o none s = some r) : ∃ a, o = some a ∧ s a = some r := @opt_inv dV dF _ _ _ _ _ h
theorem keqT {a b : IntKind} (h : keq a b = true) : a = b := @keq_true dV dF _ _ h
theorem ieqE (a b : Int) : ieq a b = decide (a = b) := @ieq_eq dV dF a b
theorem ileE (a b : Int) : ile a b = decide (a ≤ b) := @ile_eq dV dF a b
theorem iaddE (a b : Int) : iadd a b = a + b := @iadd_eq dV dF a b
theorem leqE (l m : List Nat) : leq l m = decide (l = m) := @leq_eq dV dF l m
theorem fitW {k : IntKind} {lo hi n : Int} (h : fitK k lo hi = true) (h1 : lo ≤ n) (h2 : n ≤ hi) : k.wrap n = n := @fitK_wrap dV dF _ _ _ _ h h1 h2
theorem getOt (a b c : D) (L : Lo) : getO (Opd.t a b c) L = tget a b c L.tm := @getO_t dV dF a b c L
theorem getOc (v : AV) (L : Lo) : getO (Opd.c v) L = v := @getO_c dV dF v L
theorem gcHg {h : Hp} {f : Key} (ks : List Key) : (hget f (gcH ks h) = hget f h ∧ f ∈ ks) ∨ hget f (gcH ks h) = .none := @gcH_get dF dV h f ks
theorem at0I {k : Key} {c : Int} (h : at0 k c = true) : k = kZ ∧ c = 0 := by
  obtain ⟨h1, h2, _⟩ := @at0_sound dV dF k c h
  exact ⟨h1, h2⟩
/-! ## names that turn: a state is read with other names -/
inductive Nn where
  | mk (new old : Key) (d lo hi : Int)
inductive Sg where
  | mk (ns : List Nn) (ls : List (Key × Key)) (gs : List (Key × Nat × Nat)) (bs : List (Key × Int × Int))
def Sg.ns : Sg → List Nn | .mk a _ _ _ => a
def Sg.ls : Sg → List (Key × Key) | .mk _ a _ _ => a
def Sg.gs : Sg → List (Key × Nat × Nat) | .mk _ _ a _ => a
def Sg.bs : Sg → List (Key × Int × Int) | .mk _ _ _ a => a
def findNn (k' k : Key) : List Nn → Option (Int × Int × Int)
  | [] => none
  | .mk n o d lo hi :: l => cnd (cnd (Key.beq n k') (Key.beq o k) false) (some (d, lo, hi)) (findNn k' k l)
def findNb (k' : Key) : List (Key × Int × Int) → Option (Int × Int)
  | [] => none
  | (n, lo, hi) :: l => cnd (Key.beq n k') (some (lo, hi)) (findNb k' l)
def findG (f : Key) : List (Key × Nat × Nat) → Option (Nat × Nat)
  | [] => none
  | (k, a, b) :: l => cnd (Key.beq k f) (some (a, b)) (findG f l)
def relN (sg : Sg) (k' k : Key) : Option Int :=
  cnd (cnd (Key.beq k' kZ) (Key.beq k kZ) false) (some 0) (opt (findNn k' k sg.ns) none fun p => some p.1)
def relB (sg : Sg) (k' k : Key) : Option (Int × Int × Int) := findNn k' k sg.ns
def notG (sg : Sg) (f : Key) : Bool := opt (findG f sg.gs) true fun _ => false
def genOk (sg : Sg) (f : Key) (g g' : Nat) : Bool := opt (findG f sg.gs) (Nat.beq g g') fun p => cnd (Nat.beq p.1 g) (Nat.beq p.2 g') false
def lsOk (q' q : Key) : List (Key × Key) → Bool
  | [] => false
  | (a, b) :: l => cnd (cnd (Key.beq a q') (Key.beq b q) false) true (lsOk q' q l)
def renFn (sg : Sg) : AFn → AFn → Bool
  | .fn (.func f), .fn (.func f') => Nat.beq f f'
  | .yield l, .yield l' => cnd (Key.beq l l') (notG sg l) false
  | _, _ => false
def beqB (a b : Bool) : Bool := cnd a b (bnot b)
mutual
def renA (sg : Sg) : AV → AV → Bool
  | _, .top => true
  | a, .any => a.scalar
  | .bool b, .bool c => beqB b c
  | .bool _, .ub => true
  | .ub, .ub => true
  | .le _ _ _, .ub => true
  | .eqv _ _ _, .ub => true
  | .int k n, .int l m => cnd (keq k l) (ieq n m) false
  | .int k n, .rng l lo hi => cnd (keq k l) (cnd (ile lo n) (ile n hi) false) false
  | .int k n, .sx l f c lo hi => cnd (keq k l) (cnd (Key.beq f kZ) false (opt (relN sg f kZ) false fun d => cnd (ieq n (iadd d c)) (cnd (fitK k n n) (cnd (ile lo n) (ile n hi) false) false) false)) false
  | .rng k lo hi, .rng l lo' hi' => cnd (keq k l) (cnd (ile lo' lo) (ile hi hi') false) false
  | .md k m r, .md l m' r' => cnd (keq k l) (cnd (Nat.beq m m') (Nat.beq r r') false) false
  | .sl a b, .sl a' b' => cnd (Nat.ble a' a) (Nat.ble b b') false
  | .str s, .str t => leq s t
  | .ptr0, .ptr0 => true
  | .ptr f g o, .ptr f' g' o' => cnd (Key.beq f f') (cnd (genOk sg f g g') (Nat.beq o o') false) false
  | .slice0, .slice0 => true
  | .slice f g o l c s x, .slice f' g' o' l' c' s' x' =>
    cnd (Key.beq f f') (cnd (genOk sg f g g') (cnd (Nat.beq o o') (cnd (Nat.beq l l') (cnd (Nat.beq c c') (cnd (Nat.beq s s') (beqB x x') false) false) false) false) false) false
  | .slice f g o l c s _, .nsl f' g' s' k e q d m =>
    cnd (Key.beq f f') (cnd (genOk sg f g g') (cnd (Nat.beq o 0) (cnd (Nat.beq s s') (cnd (at0 k e) (opt (relN sg q kZ) false fun p => cnd (ieq (iadd p d) (.ofNat l)) (ile (iadd p m) (.ofNat c)) false) false) false) false) false) false
  | .map0, .map0 => true
  | .map a, .map b => cnd (Key.beq a b) (notG sg a) false
  | .func fn a b, .func fn' a' b' => cnd (renFn sg fn fn') (cnd (renAs sg a a') (renAs sg b b') false) false
  | .nilFunc, .nilFunc => true
  | .iface t v, .iface u w => cnd (Nat.beq t u) (renA sg v w) false
  | .nilIface, .nilIface => true
  | .agg a, .agg b => renAs sg a b
  | .tuple a, .tuple b => renAs sg a b
  | .sx k f c lo hi, .sx l f' c' lo' hi' => cnd (keq k l) (cnd (Key.beq f kZ) false (cnd (Key.beq f' kZ) false (opt (relB sg f' f) false fun p => cnd (ieq c (iadd p.1 c'))
      (cnd (cnd (ile lo' lo) (ile hi hi') false) true (cnd (ile lo' (iadd p.2.1 c')) (ile (iadd p.2.2 c') hi') false)) false))) false
  | .sx k f c lo hi, .int l n => cnd (keq k l) (cnd (Key.beq f kZ) false (opt (relN sg kZ f) false fun d => cnd (ieq n (isub c d)) (fitK k n n) false)) false
  | .stx a, .stx b => renAs sg a b
  | .nsl f g s k c q d m, .nsl f' g' s' k' c' q' d' m' => cnd (Key.beq f f') (cnd (genOk sg f g g') (cnd (Nat.beq s s') (opt (relN sg k' k) false fun e => cnd (ieq c (iadd e c'))
      (opt (relN sg q' q) false fun e => cnd (ieq d (iadd e d')) (ile (iadd e m') m) false) false) false) false) false
  | .nix f g s k c o, .nix f' g' s' k' c' o' => cnd (Key.beq f f') (cnd (genOk sg f g g') (cnd (Nat.beq s s') (opt (relN sg k' k) false fun e => cnd (ieq c (iadd e c')) (Nat.beq o o') false) false) false) false
  | .stq q, .stq q' => lsOk q' q sg.ls
  | .nv q s, .nv q' s' => cnd (lsOk q' q sg.ls) (beqB s s') false
  | _, _ => false
def renAs (sg : Sg) : List AV → List AV → Bool
  | [], [] => true
  | a :: as, b :: bs => cnd (renA sg a b) (renAs sg as bs) false
  | _, _ => false
end
def N.all2 {α : Type} (f : α → α → Bool) (n m : N α) : Bool :=
  N.rec (motive := fun _ => Bool) (fun a b c d e g i j => N.rec (motive := fun _ => Bool) (fun a' b' c' d' e' g' i' j' =>
    cnd (f a a') (cnd (f b b') (cnd (f c c') (cnd (f d d') (cnd (f e e') (cnd (f g g') (cnd (f i i') (f j j') false) false) false) false) false) false) false) m) n
def renTm (sg : Sg) (t t' : Tm) : Bool := N.all2 (N.all2 (N.all2 (renA sg))) t t'
def renLo (sg : Sg) : Lo → Lo → Bool
  | .mk tm a b c, .mk tm' a' b' c' => cnd (renTm sg tm tm') (cnd (renA sg a a') (cnd (renA sg b b') (renA sg c c') false) false) false
def renTr (sg : Sg) : Tr Row → Tr Row → Bool
  | .e, .e => true
  | .lf (.mk l g), .lf (.mk l' g') => cnd (renAs sg l l') (Nat.beq g g') false
  | .n a b, .n a' b' => cnd (renTr sg a a') (renTr sg b b') false
  | _, _ => false
def renEs (sg : Sg) : List En → List En → Bool
  | [], [] => true
  | .mk k v b :: l, .mk k' v' b' :: l' => cnd (renA sg k k') (cnd (renA sg v v') (cnd (Nat.beq b b') (renEs sg l l') false) false) false
  | _, _ => false
def renDf (sg : Sg) : Df → Df → Bool
  | .fn f a b, .fn f' a' b' => cnd (renFn sg f f') (cnd (renAs sg a a') (renAs sg b b') false) false
  | .collected r, .collected r' => cnd (Key.beq r r') (notG sg r) false
  | _, _ => false
def renDfs (sg : Sg) : List Df → List Df → Bool
  | [], [] => true
  | d :: l, d' :: l' => cnd (renDf sg d d') (renDfs sg l l') false
  | _, _ => false
def renRows (sg : Sg) : List (List AV) → List (List AV) → Bool
  | [], [] => true
  | d :: l, d' :: l' => cnd (renAs sg d d') (renRows sg l l') false
  | _, _ => false
def renOb (sg : Sg) (f : Key) : Ob → Ob → Bool
  | .none, .none => true
  | .iv _ _, .none => notG sg f
  | .none, .iv lo hi => cnd (Key.beq f kZ) false (cnd (notG sg f) (opt (findNb f sg.bs) false fun p => cnd (ile lo p.1) (ile p.2 hi) false) false)
  | .iv _ _, .iv lo hi => cnd (Key.beq f kZ) false (cnd (notG sg f) (opt (findNb f sg.bs) false fun p => cnd (ile lo p.1) (ile p.2 hi) false) false)
  | .cells a b c d e t, .cells a' b' c' d' e' t' => cnd (notG sg f) (cnd (beqB a a') (cnd (Nat.beq b b') (cnd (Nat.beq c c') (cnd (Nat.beq d d') (cnd (Nat.beq e e') (renTr sg t t') false) false) false) false) false) false
  | .map es c, .map es' c' => cnd (notG sg f) (cnd (Nat.beq c c') (renEs sg es es') false) false
  | .strIter s p, .strIter s' p' => cnd (notG sg f) (cnd (leq s s') (Nat.beq p p') false) false
  | .deferred none, .deferred none => notG sg f
  | .deferred (some l), .deferred (some l') => cnd (notG sg f) (renDfs sg l l') false
  | .lst ro g z q s, .lst ro' g' z' q' s' => cnd (notG sg f) (cnd (lsOk q' q sg.ls) (opt (relN sg q' q) false fun p => cnd (ieq p 0) (cnd (beqB ro ro') (cnd (Nat.beq g g') (cnd (Nat.beq z z') (renRows sg s s') false) false) false) false) false) false
  | _, _ => false
def inKs (f : Key) : List Key → Bool
  | [] => false
  | k :: l => cnd (Key.beq k f) true (inKs f l)
def renObs (sg : Sg) (sp : List Key) (h h' : Hp) : List Key → Bool
  | [] => true
  | k :: l => cnd (cnd (inKs k sp) true (renOb sg k (hget k h) (hget k h'))) (renObs sg sp h h' l) false
def renPEs (sg : Sg) : List PE → List PE → Bool
  | [], [] => true
  | .mk v r :: l, .mk v' r' :: l' => cnd (renA sg v v') (cnd (beqB r r') (renPEs sg l l') false) false
  | _, _ => false
def renMd (sg : Sg) : Md → Md → Bool
  | .run, .run => true
  | .returning, .returning => true
  | .panicking l, .panicking l' => renPEs sg l l'
  | _, _ => false
def renFI (sg : Sg) : FI → FI → Bool
  | .mk fn ds md dd none, .mk fn' ds' md' dd' none => cnd (Nat.beq fn fn') (cnd (renDfs sg ds ds') (cnd (renMd sg md md') (beqB dd dd') false) false) false
  | .mk fn ds md dd (some l), .mk fn' ds' md' dd' (some l') => cnd (Nat.beq fn fn') (cnd (renDfs sg ds ds') (cnd (renMd sg md md') (cnd (beqB dd dd') (cnd (Key.beq l l') (notG sg l) false) false) false) false) false
  | _, _ => false
def tdOk (sg : Sg) : List Ci → Bool
  | [] => true
  | .wait _ (.chk _ :: _) :: _ => false
  | .mid (.chk _ :: _) :: _ => false
  | .inRF l :: k => cnd (notG sg l) (tdOk sg k) false
  | .endRF l :: k => cnd (notG sg l) (tdOk sg k) false
  | _ :: k => tdOk sg k
inductive Zf where
  | mk (L L' : Lo) (td : List Ci) (fi fi' : FI)
def Zf.a : Zf → Fr | .mk L _ td fi _ => .mk L td fi
def Zf.b : Zf → Fr | .mk _ L' td _ fi' => .mk L' td fi'
def renZ (sg : Sg) : Zf → Bool
  | .mk L L' td fi fi' => cnd (renLo sg L L') (cnd (tdOk sg td) (renFI sg fi fi') false) false
def renZs (sg : Sg) : List Zf → Bool
  | [] => true
  | z :: l => cnd (renZ sg z) (renZs sg l) false
def gmOk (gm : Nat) (sg : Sg) : Nat → Bool
  | 0 => true
  | n + 1 => cnd (cnd (inM gm n) (notG sg (Key.ofNat n)) true) (gmOk gm sg n) false
def gsOk : List (Key × Nat × Nat) → Bool
  | [] => true
  | (_, a, b) :: l => cnd (Nat.blt a strGen) (cnd (cnd (Nat.blt 0 b) (Nat.blt b strGen) false) (gsOk l) false) false
end
end Go.Ev

namespace Go.Ev
set_option linter.unusedVariables false
set_option linter.unusedSectionVars false
set_option linter.unusedSimpArgs false
noncomputable section
def NnOk (v0 v1 : Val) : Nn → Prop
  | .mk n o d lo hi => @nz v1 n = @nz v0 o + d ∧ lo ≤ @nz v1 n ∧ @nz v1 n ≤ hi
structure SgOk (v0 v1 : Val) (sg : Sg) : Prop where
  ns : ∀ x ∈ sg.ns, NnOk v0 v1 x
  ls : ∀ x ∈ sg.ls, v1.l x.1 = v0.l x.2
  gs : gsOk sg.gs = true
  bs : ∀ x ∈ sg.bs, x.2.1 ≤ @nz v1 x.1 ∧ @nz v1 x.1 ≤ x.2.2
def remu (sg : Sg) (μ : Mu) : Mu := fun f g' => match findG f sg.gs with
  | none => μ f g'
  | some (a, b) => cnd (Nat.beq g' b) (μ f a) none
theorem remu_notG {sg : Sg} {μ : Mu} {f : Key} (h : notG sg f = true) (g : Nat) : remu sg μ f g = μ f g := by
  unfold remu
  cases hf : findG f sg.gs with
  | none => rfl
  | some p => unfold notG at h; rw [hf] at h; cases h
theorem remu_gen {sg : Sg} {μ : Mu} {f : Key} {g g' : Nat} (h : genOk sg f g g' = true) : remu sg μ f g' = μ f g := by
  unfold genOk at h
  unfold remu
  cases hf : findG f sg.gs with
  | none => rw [hf] at h; rw [Nat.eq_of_beq_eq_true h]
  | some p =>
    obtain ⟨a, b⟩ := p
    rw [hf] at h
    obtain ⟨h1, h2⟩ := an2 (show cnd (Nat.beq a g) (Nat.beq b g') false = true from h)
    obtain rfl := Nat.eq_of_beq_eq_true h1
    obtain rfl := Nat.eq_of_beq_eq_true h2
    show cnd (Nat.beq b b) (μ f a) none = _
    rw [Nat.beq_refl]; rfl
theorem findG_ok {f : Key} {a b : Nat} : ∀ {l : List (Key × Nat × Nat)}, gsOk l = true → findG f l = some (a, b) → a < strGen ∧ b < strGen ∧ 0 < b
  | [], _, h => by cases h
  | (k, x, y) :: l, e, h => by
    obtain ⟨e1, e⟩ := an2 (show cnd (Nat.blt x strGen) (cnd (cnd (Nat.blt 0 y) (Nat.blt y strGen) false) (gsOk l) false) false = true from e)
    obtain ⟨e2, e3⟩ := an2 e
    obtain ⟨e4, e2⟩ := an2 e2
    unfold findG at h
    cases hk : Key.beq k f with
    | true => rw [hk] at h; cases h; exact ⟨by simpa [Nat.blt_eq] using e1, by simpa [Nat.blt_eq] using e2, by simpa [Nat.blt_eq] using e4⟩
    | false => rw [hk] at h; exact findG_ok e3 h
theorem remu_some {sg : Sg} {μ : Mu} {f : Key} {g' : Nat} {x : Nat × Nat × Nat} (hg : gsOk sg.gs = true) (h : remu sg μ f g' = some x) :
    ∃ g, μ f g = some x ∧ ((notG sg f = true ∧ g = g') ∨ (findG f sg.gs = some (g, g') ∧ g < strGen ∧ g' < strGen ∧ 0 < g')) := by
  unfold remu at h
  cases hf : findG f sg.gs with
  | none => rw [hf] at h; exact ⟨g', h, .inl ⟨by unfold notG; rw [hf]; rfl, rfl⟩⟩
  | some p =>
    obtain ⟨a, b⟩ := p
    rw [hf] at h
    have h : cnd (Nat.beq g' b) (μ f a) none = some x := h
    obtain ⟨h1, h2⟩ := cnI h
    obtain rfl := Nat.eq_of_beq_eq_true h1
    exact ⟨a, h2, .inr ⟨rfl, findG_ok hg hf⟩⟩
theorem findNn_mem {k' k : Key} {p : Int × Int × Int} : ∀ {l : List Nn}, findNn k' k l = some p → Nn.mk k' k p.1 p.2.1 p.2.2 ∈ l
  | [], h => by cases h
  | .mk n o d lo hi :: l, h => by
    unfold findNn at h
    cases h1 : cnd (Key.beq n k') (Key.beq o k) false with
    | true =>
      rw [h1] at h
      cases h
      obtain ⟨e1, e2⟩ := an2 h1
      rw [← Key.beq_eq e1, ← Key.beq_eq e2]
      exact List.mem_cons_self ..
    | false => rw [h1] at h; exact List.mem_cons_of_mem _ (findNn_mem h)
theorem findNb_mem {k' : Key} {p : Int × Int} : ∀ {l : List (Key × Int × Int)}, findNb k' l = some p → (k', p.1, p.2) ∈ l
  | [], h => by cases h
  | (n, lo, hi) :: l, h => by
    unfold findNb at h
    cases h1 : Key.beq n k' with
    | true =>
      rw [h1] at h
      cases h
      rw [← Key.beq_eq h1]
      exact List.mem_cons_self ..
    | false => rw [h1] at h; exact List.mem_cons_of_mem _ (findNb_mem h)
section
variable {v0 v1 : Val} {sg : Sg} (hs : SgOk v0 v1 sg)
include hs
theorem relN_ok {k' k : Key} {d : Int} (h : relN sg k' k = some d) : @nz v1 k' = @nz v0 k + d := by
  unfold relN at h
  cases h1 : cnd (Key.beq k' kZ) (Key.beq k kZ) false with
  | true =>
    rw [h1] at h
    cases h
    obtain ⟨e1, e2⟩ := an2 h1
    rw [Key.beq_eq e1, Key.beq_eq e2, @nz_kZ v1, @nz_kZ v0]; rfl
  | false =>
    rw [h1] at h
    obtain ⟨p, hp, e⟩ := opI (show opt (findNn k' k sg.ns) none _ = some d from h)
    cases e
    exact (hs.ns _ (findNn_mem hp)).1
theorem relB_ok {k' k : Key} {p : Int × Int × Int} (h : relB sg k' k = some p) : @nz v1 k' = @nz v0 k + p.1 ∧ p.2.1 ≤ @nz v1 k' ∧ @nz v1 k' ≤ p.2.2 := hs.ns _ (findNn_mem h)
theorem findNb_ok {k' : Key} {p : Int × Int} (h : findNb k' sg.bs = some p) : p.1 ≤ @nz v1 k' ∧ @nz v1 k' ≤ p.2 := hs.bs _ (findNb_mem h)
theorem lsOk_ok {q' q : Key} (h : lsOk q' q sg.ls = true) : v1.l q' = v0.l q := by
  have key : ∀ l : List (Key × Key), (∀ x ∈ l, v1.l x.1 = v0.l x.2) → lsOk q' q l = true → v1.l q' = v0.l q := by
    intro l
    induction l with
    | nil => intro _ h; cases h
    | cons x l ih =>
      intro hl h
      obtain ⟨a, b⟩ := x
      unfold lsOk at h
      cases h1 : cnd (Key.beq a q') (Key.beq b q) false with
      | true =>
        obtain ⟨e1, e2⟩ := an2 h1
        rw [← Key.beq_eq e1, ← Key.beq_eq e2]
        exact hl _ (List.mem_cons_self ..)
      | false => rw [h1] at h; exact ih (fun y hy => hl y (List.mem_cons_of_mem _ hy)) h
  exact key _ hs.ls h
omit hs in
theorem beqB_eq {a b : Bool} (h : beqB a b = true) : a = b := by cases a <;> cases b <;> first | rfl | cases h
omit hs in
theorem renFn_r {μ : Mu} {f f' : AFn} {F : Fn} (h : renFn sg f f' = true) (k : FnR μ f F) : FnR (remu sg μ) f' F := by
  unfold renFn at h
  split at h
  · obtain rfl := Nat.eq_of_beq_eq_true h; exact k
  · obtain ⟨e1, e2⟩ := an2 h
    obtain rfl := Key.beq_eq e1
    obtain ⟨b, s, n, hm, hF⟩ := k
    exact ⟨b, s, n, by rw [remu_notG e2]; exact hm, hF⟩
  · cases h
theorem sx_r {μ : Mu} {k l : IntKind} {f f' : Key} {c c' lo hi lo' hi' : Int} {v : Value} (h : renA sg (.sx k f c lo hi) (.sx l f' c' lo' hi') = true) (hv : @VR v0 μ (.sx k f c lo hi) v) : @VR v1 (remu sg μ) (.sx l f' c' lo' hi') v := by
  have h0 := h
  clear h
  obtain ⟨h1, h⟩ := an2 (show cnd (keq k l) (cnd (Key.beq f kZ) false (cnd (Key.beq f' kZ) false _)) false = true from h0)
  clear h0
  obtain rfl := keqT h1
  cases h2 : Key.beq f kZ with
  | true => rw [h2] at h; cases h
  | false =>
    rw [h2] at h
    cases h3 : Key.beq f' kZ with
    | true => rw [h3] at h; cases h
    | false =>
      rw [h3] at h
      cases hr : relB sg f' f with
      | none => rw [hr] at h; cases h
      | some p =>
        rw [hr] at h
        obtain ⟨h4, h5⟩ := an2 (show cnd (ieq c (iadd p.1 c')) _ false = true from h)
        rw [ieqE, iaddE] at h4
        have h4 := of_decide_eq_true h4
        obtain ⟨k1, k2, k3⟩ := relB_ok hs hr
        rw [@nz_ne v1 _ h3, @nz_ne v0 _ h2] at k1
        rw [@nz_ne v1 _ h3] at k2 k3
        simp only [VR] at hv ⊢
        obtain ⟨e, b1, b2⟩ := hv
        have e2 : @Val.n v0 f + c = @Val.n v1 f' + c' := by omega
        refine ⟨by rw [e, e2], ?_⟩
        cases h6 : cnd (ile lo' lo) (ile hi hi') false with
        | true =>
          obtain ⟨h7, h8⟩ := an2 h6
          rw [ileE] at h7 h8
          have h7 := of_decide_eq_true h7
          have h8 := of_decide_eq_true h8
          omega
        | false =>
          rw [h6] at h5
          obtain ⟨h7, h8⟩ := an2 (show cnd (ile lo' (iadd p.2.1 c')) (ile (iadd p.2.2 c') hi') false = true from h5)
          rw [ileE, iaddE] at h7 h8
          have h7 := of_decide_eq_true h7
          have h8 := of_decide_eq_true h8
          omega
theorem sxi_r {μ : Mu} {k l : IntKind} {f : Key} {n c lo hi : Int} {v : Value} (h : renA sg (.sx k f c lo hi) (.int l n) = true) (hv : @VR v0 μ (.sx k f c lo hi) v) : @VR v1 (remu sg μ) (.int l n) v := by
  obtain ⟨h1, h2⟩ := an2 (show cnd (keq k l) (cnd (Key.beq f kZ) false (opt (relN sg kZ f) false fun d => cnd (ieq n (isub c d)) (fitK k n n) false)) false = true from h)
  obtain rfl := keqT h1
  cases hz : Key.beq f kZ with
  | true => rw [hz] at h2; cases h2
  | false =>
    rw [hz] at h2
    have h2 : opt (relN sg kZ f) false (fun d => cnd (ieq n (isub c d)) (fitK k n n) false) = true := h2
    cases hr : relN sg kZ f with
    | none => rw [hr] at h2; cases h2
    | some d =>
      rw [hr] at h2
      obtain ⟨h3, h4⟩ := an2 (show cnd (ieq n (isub c d)) (fitK k n n) false = true from h2)
      rw [ieqE] at h3
      have h3 := of_decide_eq_true h3
      have hd := relN_ok hs hr
      rw [@nz_kZ v1, @nz_ne v0 f hz] at hd
      rw [show isub c d = c - d from @isub_eq dV dF c d] at h3
      simp only [VR] at hv ⊢
      obtain ⟨rfl, _⟩ := hv
      have : @Val.n v0 f + c = n := by omega
      rw [this, fitW h4 (Int.le_refl _) (Int.le_refl _)]
theorem isx_r {μ : Mu} {k l : IntKind} {f : Key} {n c lo hi : Int} {v : Value} (h : renA sg (.int k n) (.sx l f c lo hi) = true) (hv : @VR v0 μ (.int k n) v) : @VR v1 (remu sg μ) (.sx l f c lo hi) v := by
  have h0 := h
  clear h
  obtain ⟨h1, h⟩ := an2 (show cnd (keq k l) (cnd (Key.beq f kZ) false _) false = true from h0)
  clear h0
  obtain rfl := keqT h1
  cases h2 : Key.beq f kZ with
  | true => rw [h2] at h; cases h
  | false =>
    rw [h2] at h
    cases hr : relN sg f kZ with
    | none => rw [hr] at h; cases h
    | some d =>
      rw [hr] at h
      obtain ⟨h3, h⟩ := an2 (show cnd (ieq n (iadd d c)) (cnd (fitK k n n) (cnd (ile lo n) (ile n hi) false) false) false = true from h)
      replace h := an2 h
      obtain ⟨h4, h⟩ := h
      obtain ⟨h5, h6⟩ := an2 h
      rw [ieqE, iaddE] at h3
      rw [ileE] at h5 h6
      have h3 := of_decide_eq_true h3
      have h5 := of_decide_eq_true h5
      have h6 := of_decide_eq_true h6
      have k1 := relN_ok hs hr
      rw [@nz_ne v1 _ h2, @nz_kZ v0] at k1
      simp only [VR] at hv ⊢
      have e2 : @Val.n v1 f + c = n := by omega
      rw [e2, fitW h4 (Int.le_refl _) (Int.le_refl _)]
      exact ⟨hv, h5, h6⟩
theorem slnsl_r {μ : Mu} {f f' k q : Key} {g o l c s g' s' : Nat} {x : Bool} {e d m : Int} {v : Value} (h : renA sg (.slice f g o l c s x) (.nsl f' g' s' k e q d m) = true) (hv : @VR v0 μ (.slice f g o l c s x) v) :
    @VR v1 (remu sg μ) (.nsl f' g' s' k e q d m) v := by
  have h0 := h
  clear h
  obtain ⟨h1, h⟩ := an2 (show cnd (Key.beq f f') (cnd (genOk sg f g g') (cnd (Nat.beq o 0) (cnd (Nat.beq s s') (cnd (at0 k e) _ false) false) false) false) false = true from h0)
  clear h0
  replace h := an2 h
  obtain ⟨h2, h⟩ := h
  replace h := an2 h
  obtain ⟨h3, h⟩ := h
  replace h := an2 h
  obtain ⟨h4, h⟩ := h
  replace h := an2 h
  obtain ⟨h5, h⟩ := h
  obtain rfl := Key.beq_eq h1
  obtain rfl := Nat.eq_of_beq_eq_true h3
  obtain rfl := Nat.eq_of_beq_eq_true h4
  cases hr : relN sg q kZ with
  | none => rw [hr] at h; cases h
  | some p =>
    rw [hr] at h
    obtain ⟨h6, h7⟩ := an2 (show cnd (ieq (iadd p d) (.ofNat l)) (ile (iadd p m) (.ofNat c)) false = true from h)
    rw [ieqE, iaddE] at h6
    rw [ileE, iaddE] at h7
    have h6 := of_decide_eq_true h6
    have h7 := of_decide_eq_true h7
    have k1 := relN_ok hs hr
    rw [@nz_kZ v0] at k1
    obtain ⟨rfl, rfl⟩ := at0I h5
    have z1 := @nz_kZ v1
    simp only [VR] at hv ⊢
    obtain ⟨b, st, n, y, cc, hm, e1, e2, e3, e4, e5⟩ := hv
    simp only [Int.ofNat_eq_natCast] at h6 h7
    refine ⟨_, l, cc, e1, by omega, by omega, by omega, ?_⟩
    rcases e5 with ⟨a1, a2, a3⟩ | ⟨a1, a2⟩
    · right
      have : st = 0 := by omega
      subst this
      refine ⟨b, 0, n, 0, by rw [remu_gen h2]; exact hm, by omega, by rw [a2]; simp, by rw [Nat.zero_add, Nat.zero_add]; omega⟩
    · exact .inl a2
end
end
end Go.Ev

namespace Go.Ev
set_option linter.unusedVariables false
set_option linter.unusedSectionVars false
set_option linter.unusedSimpArgs false
noncomputable section
section
variable {v0 v1 : Val} {sg : Sg} (hs : SgOk v0 v1 sg)
include hs
theorem nsl_r {μ : Mu} {f f' k k' q q' : Key} {g s g' s' : Nat} {c d m c' d' m' : Int} {v : Value} (h : renA sg (.nsl f g s k c q d m) (.nsl f' g' s' k' c' q' d' m') = true) (hv : @VR v0 μ (.nsl f g s k c q d m) v) :
    @VR v1 (remu sg μ) (.nsl f' g' s' k' c' q' d' m') v := by
  have h0 := h
  clear h
  obtain ⟨h1, h⟩ := an2 (show cnd (Key.beq f f') (cnd (genOk sg f g g') (cnd (Nat.beq s s') _ false) false) false = true from h0)
  clear h0
  replace h := an2 h
  obtain ⟨h2, h⟩ := h
  replace h := an2 h
  obtain ⟨h3, h⟩ := h
  obtain rfl := Key.beq_eq h1
  obtain rfl := Nat.eq_of_beq_eq_true h3
  cases hr : relN sg k' k with
  | none => rw [hr] at h; cases h
  | some e =>
    rw [hr] at h
    obtain ⟨h4, h⟩ := an2 (show cnd (ieq c (iadd e c')) _ false = true from h)
    cases hr2 : relN sg q' q with
    | none => rw [hr2] at h; cases h
    | some e2 =>
      rw [hr2] at h
      obtain ⟨h5, h6⟩ := an2 (show cnd (ieq d (iadd e2 d')) (ile (iadd e2 m') m) false = true from h)
      rw [ieqE, iaddE] at h4 h5
      rw [ileE, iaddE] at h6
      have h4 := of_decide_eq_true h4
      have h5 := of_decide_eq_true h5
      have h6 := of_decide_eq_true h6
      have k1 := relN_ok hs hr
      have k2 := relN_ok hs hr2
      simp only [VR] at hv ⊢
      obtain ⟨base, len, cp, a1, a2, a3, a4, a5⟩ := hv
      refine ⟨base, len, cp, a1, a2, by omega, by omega, a5.imp id fun ⟨b, st, n, r, hm, e1, e2, e3⟩ => ⟨b, st, n, r, by rw [remu_gen h2]; exact hm, by omega, e2, e3⟩⟩
theorem nix_r {μ : Mu} {f f' k k' : Key} {g s g' s' o o' : Nat} {c c' : Int} {v : Value} (h : renA sg (.nix f g s k c o) (.nix f' g' s' k' c' o') = true) (hv : @VR v0 μ (.nix f g s k c o) v) :
    @VR v1 (remu sg μ) (.nix f' g' s' k' c' o') v := by
  have h0 := h
  clear h
  obtain ⟨h1, h⟩ := an2 (show cnd (Key.beq f f') (cnd (genOk sg f g g') (cnd (Nat.beq s s') _ false) false) false = true from h0)
  clear h0
  replace h := an2 h
  obtain ⟨h2, h⟩ := h
  replace h := an2 h
  obtain ⟨h3, h⟩ := h
  obtain rfl := Key.beq_eq h1
  obtain rfl := Nat.eq_of_beq_eq_true h3
  cases hr : relN sg k' k with
  | none => rw [hr] at h; cases h
  | some e =>
    rw [hr] at h
    obtain ⟨h4, h5⟩ := an2 (show cnd (ieq c (iadd e c')) (Nat.beq o o') false = true from h)
    obtain rfl := Nat.eq_of_beq_eq_true h5
    rw [ieqE, iaddE] at h4
    have h4 := of_decide_eq_true h4
    have k1 := relN_ok hs hr
    simp only [VR] at hv ⊢
    obtain ⟨b, st, n, r, hm, e1, e2⟩ := hv
    exact ⟨b, st, n, r, by rw [remu_gen h2]; exact hm, by omega, e2⟩
mutual
theorem renA_r {μ : Mu} : ∀ (a a' : AV) (v : Value), renA sg a a' = true → @VR v0 μ a v → @VR v1 (remu sg μ) a' v
  | .top, a', v, h, hv => by
    cases a' with
    | top => simp only [VR]
    | _ => cases h
  | .any, a', v, h, hv => by
    cases a' with
    | top => simp only [VR]
    | any => simpa only [VR] using hv
    | _ => cases h
  | .ub, a', v, h, hv => by
    cases a' with
    | top => simp only [VR]
    | any => simp only [VR] at hv ⊢; obtain ⟨b, rfl⟩ := hv; trivial
    | ub => simpa only [VR] using hv
    | _ => cases h
  | .bool b, a', v, h, hv => by
    cases a' with
    | top => simp only [VR]
    | any => simp only [VR] at hv ⊢; subst hv; trivial
    | ub => simp only [VR] at hv ⊢; exact ⟨b, hv⟩
    | bool c => obtain rfl := beqB_eq h; simpa only [VR] using hv
    | _ => cases h
  | .int k n, a', v, h, hv => by
    cases a' with
    | top => simp only [VR]
    | any => simp only [VR] at hv ⊢; subst hv; trivial
    | int l m =>
      obtain ⟨h1, h2⟩ := an2 (show cnd (keq k l) (ieq n m) false = true from h)
      obtain rfl := keqT h1
      rw [ieqE] at h2
      obtain rfl := of_decide_eq_true h2
      simpa only [VR] using hv
    | rng l lo hi =>
      obtain ⟨h1, h2⟩ := an2 (show cnd (keq k l) (cnd (ile lo n) (ile n hi) false) false = true from h)
      replace h2 := an2 h2
      obtain ⟨h2, h3⟩ := h2
      obtain rfl := keqT h1
      rw [ileE] at h2 h3
      simp only [VR] at hv ⊢
      exact ⟨n, hv, of_decide_eq_true h2, of_decide_eq_true h3⟩
    | sx l f c lo hi => exact isx_r hs h hv
    | _ => cases h
  | .rng k lo hi, a', v, h, hv => by
    cases a' with
    | top => simp only [VR]
    | any => simp only [VR] at hv ⊢; obtain ⟨n, rfl, _⟩ := hv; trivial
    | rng l lo' hi' =>
      obtain ⟨h1, h2⟩ := an2 (show cnd (keq k l) (cnd (ile lo' lo) (ile hi hi') false) false = true from h)
      replace h2 := an2 h2
      obtain ⟨h2, h3⟩ := h2
      obtain rfl := keqT h1
      rw [ileE] at h2 h3
      have h2 := of_decide_eq_true h2
      have h3 := of_decide_eq_true h3
      simp only [VR] at hv ⊢
      obtain ⟨n, e, a1, a2⟩ := hv
      exact ⟨n, e, by omega, by omega⟩
    | _ => cases h
  | .md k m r, a', v, h, hv => by
    cases a' with
    | top => simp only [VR]
    | any => simp only [VR] at hv ⊢; obtain ⟨n, rfl, _⟩ := hv; trivial
    | md l m' r' =>
      obtain ⟨h1, h2⟩ := an2 (show cnd (keq k l) (cnd (Nat.beq m m') (Nat.beq r r') false) false = true from h)
      replace h2 := an2 h2
      obtain ⟨h2, h3⟩ := h2
      obtain rfl := keqT h1
      obtain rfl := Nat.eq_of_beq_eq_true h2
      obtain rfl := Nat.eq_of_beq_eq_true h3
      simpa only [VR] using hv
    | _ => cases h
  | .sl a b, a', v, h, hv => by
    cases a' with
    | top => simp only [VR]
    | any => simp only [VR] at hv ⊢; obtain ⟨_, _, _, rfl, _⟩ := hv; trivial
    | sl c d =>
      obtain ⟨h1, h2⟩ := an2 (show cnd (Nat.ble c a) (Nat.ble b d) false = true from h)
      have h1 := Nat.le_of_ble_eq_true h1
      have h2 := Nat.le_of_ble_eq_true h2
      simp only [VR] at hv ⊢
      obtain ⟨x, l, y, e, a1, a2⟩ := hv
      exact ⟨x, l, y, e, by omega, by omega⟩
    | _ => cases h
  | .str s, a', v, h, hv => by
    cases a' with
    | top => simp only [VR]
    | any => simp only [VR] at hv ⊢; obtain ⟨_, rfl, _⟩ := hv; trivial
    | str t =>
      have h : leq s t = true := h
      rw [leqE] at h
      obtain rfl := of_decide_eq_true h
      simpa only [VR] using hv
    | _ => cases h
  | .ptr0, a', v, h, hv => by
    cases a' with
    | top => simp only [VR]
    | any => simp only [VR] at hv ⊢; subst hv; trivial
    | ptr0 => simpa only [VR] using hv
    | _ => cases h
  | .ptr f g o, a', v, h, hv => by
    cases a' with
    | top => simp only [VR]
    | any => simp only [VR] at hv ⊢; obtain ⟨_, _, _, _, _, rfl⟩ := hv; trivial
    | ptr f' g' o' =>
      obtain ⟨h1, h2⟩ := an2 (show cnd (Key.beq f f') (cnd (genOk sg f g g') (Nat.beq o o') false) false = true from h)
      replace h2 := an2 h2
      obtain ⟨h2, h3⟩ := h2
      obtain rfl := Key.beq_eq h1
      obtain rfl := Nat.eq_of_beq_eq_true h3
      simp only [VR] at hv ⊢
      obtain ⟨b, s, n, hm, r⟩ := hv
      exact ⟨b, s, n, by rw [remu_gen h2]; exact hm, r⟩
    | _ => cases h
  | .slice0, a', v, h, hv => by
    cases a' with
    | top => simp only [VR]
    | any => simp only [VR] at hv ⊢; subst hv; trivial
    | slice0 => simpa only [VR] using hv
    | _ => cases h
  | .slice f g o l c s x, a', v, h, hv => by
    cases a' with
    | top => simp only [VR]
    | any => simp only [VR] at hv ⊢; obtain ⟨_, _, _, _, _, _, rfl, _⟩ := hv; trivial
    | slice f' g' o' l' c' s' x' =>
      have h0 := h
      clear h
      obtain ⟨h1, h⟩ := an2 (show cnd (Key.beq f f') (cnd (genOk sg f g g') (cnd (Nat.beq o o') (cnd (Nat.beq l l') (cnd (Nat.beq c c') (cnd (Nat.beq s s') (beqB x x') false) false) false) false) false) false = true from h0)
      clear h0
      replace h := an2 h
      obtain ⟨h2, h⟩ := h
      replace h := an2 h
      obtain ⟨h3, h⟩ := h
      replace h := an2 h
      obtain ⟨h4, h⟩ := h
      replace h := an2 h
      obtain ⟨h5, h⟩ := h
      obtain ⟨h6, h7⟩ := an2 h
      obtain rfl := Key.beq_eq h1
      obtain rfl := Nat.eq_of_beq_eq_true h3
      obtain rfl := Nat.eq_of_beq_eq_true h4
      obtain rfl := Nat.eq_of_beq_eq_true h5
      obtain rfl := Nat.eq_of_beq_eq_true h6
      obtain rfl := beqB_eq h7
      simp only [VR] at hv ⊢
      obtain ⟨b, s', n, y, cc, hm, r⟩ := hv
      exact ⟨b, s', n, y, cc, by rw [remu_gen h2]; exact hm, r⟩
    | nsl f' g' s' k e q d m => exact slnsl_r hs h hv
    | _ => cases h
  | .map0, a', v, h, hv => by
    cases a' with
    | top => simp only [VR]
    | any => simp only [VR] at hv ⊢; subst hv; trivial
    | map0 => simpa only [VR] using hv
    | _ => cases h
  | .map m, a', v, h, hv => by
    cases a' with
    | top => simp only [VR]
    | any => simp only [VR] at hv ⊢; obtain ⟨_, _, _, _, rfl⟩ := hv; trivial
    | map m' =>
      obtain ⟨h1, h2⟩ := an2 (show cnd (Key.beq m m') (notG sg m) false = true from h)
      obtain rfl := Key.beq_eq h1
      simp only [VR] at hv ⊢
      obtain ⟨b, s, n, hm, r⟩ := hv
      exact ⟨b, s, n, by rw [remu_notG h2]; exact hm, r⟩
    | _ => cases h
  | .func fn a b, a', v, h, hv => by
    cases a' with
    | top => simp only [VR]
    | any => simp only [VR] at hv ⊢; obtain ⟨_, _, _, rfl, _⟩ := hv; trivial
    | func fn' a' b' =>
      have h0 := h
      clear h
      obtain ⟨h1, h⟩ := an2 (show cnd (renFn sg fn fn') (cnd (renAs sg a a') (renAs sg b b') false) false = true from h0)
      clear h0
      obtain ⟨h2, h3⟩ := an2 h
      simp only [VR] at hv ⊢
      obtain ⟨F, fs, cs, e, hF, k1, k2⟩ := hv
      exact ⟨F, fs, cs, e, renFn_r h1 hF, renAs_r a a' _ h2 k1, renAs_r b b' _ h3 k2⟩
    | _ => cases h
  | .nilFunc, a', v, h, hv => by
    cases a' with
    | top => simp only [VR]
    | any => simp only [VR] at hv ⊢; subst hv; trivial
    | nilFunc => simpa only [VR] using hv
    | _ => cases h
  | .iface t a, a', v, h, hv => by
    cases a' with
    | top => simp only [VR]
    | any => simp only [VR] at hv ⊢; obtain ⟨_, rfl, _⟩ := hv; trivial
    | iface u b =>
      obtain ⟨h1, h2⟩ := an2 (show cnd (Nat.beq t u) (renA sg a b) false = true from h)
      obtain rfl := Nat.eq_of_beq_eq_true h1
      simp only [VR] at hv ⊢
      obtain ⟨x, e, k⟩ := hv
      exact ⟨x, e, renA_r a b x h2 k⟩
    | _ => cases h
  | .nilIface, a', v, h, hv => by
    cases a' with
    | top => simp only [VR]
    | any => simp only [VR] at hv ⊢; subst hv; trivial
    | nilIface => simpa only [VR] using hv
    | _ => cases h
  | .agg l, a', v, h, hv => by
    cases a' with
    | top => simp only [VR]
    | agg l' =>
      have h : renAs sg l l' = true := h
      simp only [VR] at hv ⊢
      obtain ⟨cs, e, k⟩ := hv
      exact ⟨cs, e, renAs_r l l' _ h k⟩
    | _ => cases h
  | .tuple l, a', v, h, hv => by
    cases a' with
    | top => simp only [VR]
    | tuple l' =>
      have h : renAs sg l l' = true := h
      simp only [VR] at hv ⊢
      obtain ⟨cs, e, k⟩ := hv
      exact ⟨cs, e, renAs_r l l' _ h k⟩
    | _ => cases h
  | .sx k f c lo hi, a', v, h, hv => by
    cases a' with
    | top => simp only [VR]
    | any => simp only [VR] at hv ⊢; obtain ⟨rfl, _⟩ := hv; trivial
    | sx l f' c' lo' hi' => exact sx_r hs h hv
    | int l n => exact sxi_r hs h hv
    | _ => cases h
  | .le f t n, a', v, h, hv => by
    cases a' with
    | top => simp only [VR]
    | any => simp only [VR] at hv ⊢; subst hv; trivial
    | ub => simp only [VR] at hv ⊢; exact ⟨_, hv⟩
    | _ => cases h
  | .eqv f t n, a', v, h, hv => by
    cases a' with
    | top => simp only [VR]
    | any => simp only [VR] at hv ⊢; subst hv; trivial
    | ub => simp only [VR] at hv ⊢; exact ⟨_, hv⟩
    | _ => cases h
  | .stx l, a', v, h, hv => by
    cases a' with
    | top => simp only [VR]
    | any => simp only [VR] at hv ⊢; obtain ⟨_, rfl, _⟩ := hv; trivial
    | stx l' =>
      have h : renAs sg l l' = true := h
      simp only [VR] at hv ⊢
      obtain ⟨b, e, k⟩ := hv
      exact ⟨b, e, renAs_r l l' _ h k⟩
    | _ => cases h
  | .nsl f g s k c q d m, a', v, h, hv => by
    cases a' with
    | top => simp only [VR]
    | any => simp only [VR] at hv ⊢; obtain ⟨_, _, _, rfl, _⟩ := hv; trivial
    | nsl f' g' s' k' c' q' d' m' => exact nsl_r hs h hv
    | _ => cases h
  | .nix f g s k c o, a', v, h, hv => by
    cases a' with
    | top => simp only [VR]
    | any => simp only [VR] at hv ⊢; obtain ⟨_, _, _, _, _, _, rfl⟩ := hv; trivial
    | nix f' g' s' k' c' o' => exact nix_r hs h hv
    | _ => cases h
  | .stq q, a', v, h, hv => by
    cases a' with
    | top => simp only [VR]
    | any => simp only [VR] at hv ⊢; obtain ⟨_, rfl, _⟩ := hv; trivial
    | stq q' =>
      have := lsOk_ok hs (show lsOk q' q sg.ls = true from h)
      simp only [VR] at hv ⊢
      obtain ⟨b, e, k⟩ := hv
      exact ⟨b, e, by rw [this]; exact k⟩
    | _ => cases h
  | .nv q s, a', v, h, hv => by
    cases a' with
    | top => simp only [VR]
    | any => simp only [VR] at hv ⊢; exact hv.2.1
    | nv q' s' =>
      obtain ⟨h1, h2⟩ := an2 (show cnd (lsOk q' q sg.ls) (beqB s s') false = true from h)
      have := lsOk_ok hs h1
      obtain rfl := beqB_eq h2
      simp only [VR] at hv ⊢
      rw [this]; exact hv
    | _ => cases h
theorem renAs_r {μ : Mu} : ∀ (l l' : List AV) (vs : List Value), renAs sg l l' = true → @VRs v0 μ l vs → @VRs v1 (remu sg μ) l' vs
  | [], l', vs, h, hv => by
    cases l' with
    | nil => simpa only [VRs] using hv
    | cons b l' => cases h
  | a :: l, l', vs, h, hv => by
    cases l' with
    | nil => cases h
    | cons b l' =>
      obtain ⟨h1, h2⟩ := an2 (show cnd (renA sg a b) (renAs sg l l') false = true from h)
      simp only [VRs] at hv ⊢
      obtain ⟨v, r, e, k1, k2⟩ := hv
      exact ⟨v, r, e, renA_r a b v h1 k1, renAs_r l l' r h2 k2⟩
end
end
end
end Go.Ev

namespace Go.Ev
set_option linter.unusedVariables false
set_option linter.unusedSectionVars false
set_option linter.unusedSimpArgs false
noncomputable section
section
variable {v0 v1 : Val} {sg : Sg} (hs : SgOk v0 v1 sg)
omit hs
theorem all2_sel {α : Type} {f : α → α → Bool} {n m : N α} (h : N.all2 f n m = true) (d : D) : f (N.sel d n) (N.sel d m) = true := by
  obtain ⟨a, b, c, d', e, g, i, j⟩ := n
  obtain ⟨a', b', c', d'', e', g', i', j'⟩ := m
  have h : cnd (f a a') (cnd (f b b') (cnd (f c c') (cnd (f d' d'') (cnd (f e e') (cnd (f g g') (cnd (f i i') (f j j') false) false) false) false) false) false) false = true := h
  replace h := an2 h
  obtain ⟨h0, h⟩ := h
  replace h := an2 h
  obtain ⟨h1, h⟩ := h
  replace h := an2 h
  obtain ⟨h2, h⟩ := h
  replace h := an2 h
  obtain ⟨h3, h⟩ := h
  replace h := an2 h
  obtain ⟨h4, h⟩ := h
  replace h := an2 h
  obtain ⟨h5, h⟩ := h
  obtain ⟨h6, h7⟩ := an2 h
  cases d <;> assumption
theorem renTm_get {t t' : Tm} (e : renTm sg t t' = true) (a b c : D) : renA sg (tget a b c t) (tget a b c t') = true := by
  rw [tget_eq, tget_eq]
  exact all2_sel (all2_sel (all2_sel e a) b) c
theorem renTm_getT {t t' : Tm} (e : renTm sg t t' = true) (n : Nat) : renA sg (getT n t) (getT n t') = true := renTm_get e _ _ _
theorem renAs_length : ∀ {l l' : List AV}, renAs sg l l' = true → l.length = l'.length
  | [], [], _ => rfl
  | [], _ :: _, h => by cases h
  | _ :: _, [], h => by cases h
  | a :: l, b :: l', h => by
    obtain ⟨_, h2⟩ := an2 (show cnd (renA sg a b) (renAs sg l l') false = true from h)
    simp [renAs_length h2]
theorem renAs_get : ∀ {l l' : List AV}, renAs sg l l' = true → ∀ {j : Nat} {a' : AV}, l'[j]? = some a' → ∃ a, l[j]? = some a ∧ renA sg a a' = true
  | [], [], _, j, a', hj => by simp at hj
  | [], _ :: _, h, _, _, _ => by cases h
  | _ :: _, [], h, _, _, _ => by cases h
  | a :: l, b :: l', h, 0, a', hj => by
    obtain ⟨h1, _⟩ := an2 (show cnd (renA sg a b) (renAs sg l l') false = true from h)
    simp at hj; subst hj
    exact ⟨a, rfl, h1⟩
  | a :: l, b :: l', h, j + 1, a', hj => by
    obtain ⟨_, h2⟩ := an2 (show cnd (renA sg a b) (renAs sg l l') false = true from h)
    obtain ⟨x, e1, e2⟩ := renAs_get h2 (j := j) (a' := a') (by simpa using hj)
    exact ⟨x, by simpa using e1, e2⟩
theorem renTr_get : ∀ {t t' : Tr Row}, renTr sg t t' = true → ∀ {r : Nat} {l' : List AV} {g : Nat}, t'.get r = some (.mk l' g) → ∃ l, t.get r = some (.mk l g) ∧ renAs sg l l' = true
  | .e, .e, _, r, l', g, h => by cases h
  | .lf (.mk l g0), .lf (.mk l1 g1), e, r, l', g, h => by
    obtain ⟨e1, e2⟩ := an2 (show cnd (renAs sg l l1) (Nat.beq g0 g1) false = true from e)
    obtain rfl := Nat.eq_of_beq_eq_true e2
    rw [Tr.get_lf] at h ⊢
    split at h
    · rename_i h0; cases h; exact ⟨l, by rw [if_pos h0], e1⟩
    · cases h
  | .n a b, .n a' b', e, r, l', g, h => by
    obtain ⟨e1, e2⟩ := an2 (show cnd (renTr sg a a') (renTr sg b b') false = true from e)
    rw [Tr.get_n] at h ⊢
    split at h
    · rename_i h0; rw [if_pos h0]; exact renTr_get e1 h
    · rename_i h0; rw [if_neg h0]; exact renTr_get e2 h
  | .e, .lf _, e, _, _, _, _ => by cases e
  | .e, .n _ _, e, _, _, _, _ => by cases e
  | .lf (.mk _ _), .e, e, _, _, _, _ => by cases e
  | .lf (.mk _ _), .n _ _, e, _, _, _, _ => by cases e
  | .n _ _, .e, e, _, _, _, _ => by cases e
  | .n _ _, .lf (.mk _ _), e, _, _, _, _ => by cases e
theorem renTr_wf : ∀ {t t' : Tr Row} {d : Nat}, renTr sg t t' = true → Tr.Wf d t → Tr.Wf d t'
  | .e, .e, d, _, h => h
  | .lf (.mk l g0), .lf (.mk l1 g1), d, e, h => by cases h; exact .lf _
  | .n a b, .n a' b', d, e, h => by
    obtain ⟨e1, e2⟩ := an2 (show cnd (renTr sg a a') (renTr sg b b') false = true from e)
    cases h with
    | n h1 h2 => exact .n (renTr_wf e1 h1) (renTr_wf e2 h2)
  | .e, .lf _, _, e, _ => by cases e
  | .e, .n _ _, _, e, _ => by cases e
  | .lf (.mk _ _), .e, _, e, _ => by cases e
  | .lf (.mk _ _), .n _ _, _, e, _ => by cases e
  | .n _ _, .e, _, e, _ => by cases e
  | .n _ _, .lf (.mk _ _), _, e, _ => by cases e
include hs
theorem renNeed {nd : Nat} {X : Nat → Prop} {μ : Mu} {tm tm' : Tm} {tmps : Array Value} (e : renTm sg tm tm' = true) (k : @NeedR v0 nd X μ tm tmps) : @NeedR v1 nd X (remu sg μ) tm' tmps :=
  fun t h1 h2 => renA_r hs _ _ _ (renTm_getT e t) (k t h1 h2)
omit hs in
theorem renLo_inv {L L' : Lo} (e : renLo sg L L' = true) : renTm sg L.tm L'.tm = true ∧ renA sg (getO .w0 L) (getO .w0 L') = true ∧ renA sg (getO .w1 L) (getO .w1 L') = true ∧ renA sg (getO .w2 L) (getO .w2 L') = true := by
  obtain ⟨tm, a, b, c⟩ := L
  obtain ⟨tm', a', b', c'⟩ := L'
  have e : cnd (renTm sg tm tm') (cnd (renA sg a a') (cnd (renA sg b b') (renA sg c c') false) false) false = true := e
  replace e := an2 e
  obtain ⟨h1, e⟩ := e
  replace e := an2 e
  obtain ⟨h2, e⟩ := e
  obtain ⟨h3, h4⟩ := an2 e
  exact ⟨h1, h2, h3, h4⟩
theorem renKn {μ : Mu} {nd : Nat} {cl : Cl} {L L' : Lo} {tmps : Array Value} (e : renLo sg L L' = true) (k : @KnR v0 nd μ cl L tmps) : @KnR v1 nd (remu sg μ) cl L' tmps := by
  obtain ⟨h1, h2, h3, h4⟩ := renLo_inv e
  obtain ⟨k1, k2, k3⟩ := k
  refine @KnR.mk v1 _ _ _ _ _ (renNeed hs h1 k1) k2 fun u d x hm => ?_
  have hv := k3 u d x hm
  cases x with
  | w0 => exact renA_r hs _ _ _ h2 hv
  | w1 => exact renA_r hs _ _ _ h3 hv
  | w2 => exact renA_r hs _ _ _ h4 hv
  | t a b c => rw [getOt] at hv ⊢; exact renA_r hs _ _ _ (renTm_get h1 a b c) hv
  | c av => rw [getOc] at hv ⊢; exact (k2 _ hm).2 av rfl _ _ _ _ _ hv
omit hs in
theorem renAt {μ : Mu} {l : Key} {b : Nat} (e : notG sg l = true) (k : AtR μ l b) : AtR (remu sg μ) l b := by
  obtain ⟨s, n, k⟩ := k
  exact ⟨s, n, by rw [remu_notG e]; exact k⟩
omit hs in
theorem tdOk_tl {c : Ci} {k : List Ci} (e : tdOk sg (c :: k) = true) : tdOk sg k = true := by
  cases c with
  | wait d l =>
    cases l with
    | nil => exact e
    | cons i l => cases i <;> first | exact e | cases e
  | mid l =>
    cases l with
    | nil => exact e
    | cons i l => cases i <;> first | exact e | cases e
  | inRF l => exact (an2 e).2
  | endRF l => exact (an2 e).2
  | _ => exact e
omit hs in
theorem tdOk_app : ∀ {l k : List Ci}, tdOk sg (l ++ k) = true → tdOk sg k = true
  | [], k, e => e
  | c :: l, k, e => tdOk_app (l := l) (tdOk_tl e)
omit hs in
theorem renTodo {E : Env} {x : Cx} {μ : Mu} {cl : Cl} {l : List Ci} {k : List Item} (e : tdOk sg l = true) (t : TodoR E x μ cl l k) : TodoR E x (remu sg μ) cl l k := by
  induction t with
  | nil cl => exact .nil cl
  | forget _ ih => exact .forget (ih e)
  | code _ ih => exact .code (ih (tdOk_app e))
  | inBlock _ ih => exact .inBlock (ih e)
  | inLoop _ ih => exact .inLoop (ih e)
  | inScope _ ih => exact .inScope (ih e)
  | mid h1 _ ih => exact .mid h1 (ih (tdOk_tl e))
  | endRF h1 _ ih => exact .endRF (renAt (an2 e).1 h1) (ih (an2 e).2)
  | beginRound _ ih => exact .beginRound (ih e)
theorem renDf_r {μ : Mu} : ∀ {d d' : Df} {x : Deferred}, renDf sg d d' = true → @DfR v0 μ d x → @DfR v1 (remu sg μ) d' x := by
  intro d d' x e k
  unfold renDf at e
  split at e
  · obtain ⟨e1, e⟩ := an2 e
    obtain ⟨e2, e3⟩ := an2 e
    simp only [DfR] at k ⊢
    obtain ⟨F, cs, vs, hd, h1, h2, h3⟩ := k
    exact ⟨F, cs, vs, hd, renFn_r e1 h1, renAs_r hs _ _ _ e2 h2, renAs_r hs _ _ _ e3 h3⟩
  · obtain ⟨e1, e2⟩ := an2 e
    obtain rfl := Key.beq_eq e1
    simp only [DfR] at k ⊢
    obtain ⟨b, s, n, h1, h2⟩ := k
    exact ⟨b, s, n, by rw [remu_notG e2]; exact h1, h2⟩
  · cases e
theorem renDfs_r {μ : Mu} : ∀ {ds ds' : List Df} {xs : List Deferred}, renDfs sg ds ds' = true → @DfsR v0 μ ds xs → @DfsR v1 (remu sg μ) ds' xs
  | [], [], _, _, k => by simpa only [DfsR] using k
  | [], _ :: _, _, e, _ => by cases e
  | _ :: _, [], _, e, _ => by cases e
  | d :: ds, d' :: ds', _, e, k => by
    obtain ⟨e1, e2⟩ := an2 (show cnd (renDf sg d d') (renDfs sg ds ds') false = true from e)
    simp only [DfsR] at k ⊢
    obtain ⟨x, r, rfl, h1, h2⟩ := k
    exact ⟨x, r, rfl, renDf_r hs e1 h1, renDfs_r e2 h2⟩
theorem renPEs_r {μ : Mu} : ∀ {a a' : List PE} {b : List PanicEntry}, renPEs sg a a' = true → @PEsR v0 μ a b → @PEsR v1 (remu sg μ) a' b
  | [], [], b, _, k => k
  | [], _ :: _, _, e, _ => by cases e
  | _ :: _, [], _, e, _ => by cases e
  | .mk v r :: a, .mk v' r' :: a', b, e, k => by
    obtain ⟨e1, e⟩ := an2 (show cnd (renA sg v v') (cnd (beqB r r') (renPEs sg a a') false) false = true from e)
    obtain ⟨e2, e3⟩ := an2 e
    obtain rfl := beqB_eq e2
    obtain ⟨u, l', e, h1, h2⟩ := k
    exact ⟨u, l', e, renA_r hs _ _ _ e1 h1, renPEs_r e3 h2⟩
theorem renMd_r {μ : Mu} : ∀ {a a' : Md} {b : FrameMode}, renMd sg a a' = true → @MdR v0 μ a b → @MdR v1 (remu sg μ) a' b
  | .run, .run, b, _, k => k
  | .returning, .returning, b, _, k => k
  | .panicking ch, .panicking ch', b, e, k => by obtain ⟨c2, e', h1⟩ := k; exact ⟨c2, e', renPEs_r hs e h1⟩
  | .run, .returning, _, e, _ => by cases e
  | .run, .panicking _, _, e, _ => by cases e
  | .returning, .run, _, e, _ => by cases e
  | .returning, .panicking _, _, e, _ => by cases e
  | .panicking _, .run, _, e, _ => by cases e
  | .panicking _, .returning, _, e, _ => by cases e
theorem renFI_r {E : Env} {μ : Mu} {fi fi' : FI} {fr : Frame} (e : renFI sg fi fi' = true) (k : @FiR v0 E μ fi fr) : @FiR v1 E (remu sg μ) fi' fr := by
  cases k with
  | @mk fn ds md dd rnd fr h1 h2 h3 h4 h5 h6 h7 =>
    obtain ⟨fn', ds', md', dd', rnd'⟩ := fi'
    cases rnd with
    | none =>
      cases rnd' with
      | some _ => cases e
      | none =>
        obtain ⟨e1, e⟩ := an2 (show cnd (Nat.beq fn fn') (cnd (renDfs sg ds ds') (cnd (renMd sg md md') (beqB dd dd') false) false) false = true from e)
        replace e := an2 e
        obtain ⟨e2, e⟩ := e
        obtain ⟨e3, e4⟩ := an2 e
        obtain rfl := Nat.eq_of_beq_eq_true e1
        obtain rfl := beqB_eq e4
        exact .mk h1 (renDfs_r hs e2 h2) (renMd_r hs e3 h3) h4 h5 h6 h7
    | some l =>
      cases rnd' with
      | none => cases e
      | some l' =>
        obtain ⟨e1, e⟩ := an2 (show cnd (Nat.beq fn fn') (cnd (renDfs sg ds ds') (cnd (renMd sg md md') (cnd (beqB dd dd') (cnd (Key.beq l l') (notG sg l) false) false) false) false) false = true from e)
        replace e := an2 e
        obtain ⟨e2, e⟩ := e
        replace e := an2 e
        obtain ⟨e3, e⟩ := e
        replace e := an2 e
        obtain ⟨e4, e⟩ := e
        obtain ⟨e5, e6⟩ := an2 e
        obtain rfl := Nat.eq_of_beq_eq_true e1
        obtain rfl := beqB_eq e4
        obtain rfl := Key.beq_eq e5
        obtain ⟨b, h8, h9⟩ := h5
        exact .mk h1 (renDfs_r hs e2 h2) (renMd_r hs e3 h3) h4 ⟨b, renAt e6 h8, h9⟩ h6 h7
variable {F0 F1 : Fk}
theorem renBody {E : Env} {fn : Nat} {μ : Mu} {L L' : Lo} {tmps : Array Value} {md md' : Md} {l : List Ci} {k : List Item} {F : List Key} (e : renLo sg L L' = true) (et : tdOk sg l = true) (em : renMd sg md md' = true)
    (b : @BodyR v0 F0 E fn μ L tmps md l k F) : F = [] ∧ @BodyR v1 F1 E fn (remu sg μ) L' tmps md' l k [] := by
  have e1 := (renLo_inv e).1
  cases b with
  | plain h1 h2 => cases md' <;> first | exact ⟨rfl, .plain (renKn hs e h1) (renTodo et h2)⟩ | cases em
  | waitP h1 h2 h3 h4 h5 => cases md' <;> first | exact ⟨rfl, .waitP (renKn hs e h1) h2 h3 h4 (renTodo (tdOk_tl et) h5)⟩ | cases em
  | inRFP h1 h2 h3 => cases md' <;> first | exact ⟨rfl, .inRFP (renKn hs e h1) (renAt (an2 et).1 h2) (renTodo (an2 et).2 h3)⟩ | cases em
  | out h0 h1 h2 => exact ⟨rfl, .out (by cases md <;> cases md' <;> first | trivial | cases em | exact h0.elim) (renNeed hs e1 h1) h2⟩
  | drawn h1 => cases h1 <;> cases et
theorem renFr {E : Env} {μ : Mu} {L L' : Lo} {l : List Ci} {fi fi' : FI} {fr : Frame} {F : List Key} (e : renZ sg (.mk L L' l fi fi') = true) (b : @FrR v0 F0 E μ L l fi fr F) :
    F = [] ∧ @FrR v1 F1 E (remu sg μ) L' l fi' fr [] := by
  obtain ⟨e1, e⟩ := an2 (show cnd (renLo sg L L') (cnd (tdOk sg l) (renFI sg fi fi') false) false = true from e)
  obtain ⟨e2, e3⟩ := an2 e
  obtain ⟨fn', ds', md', dd', rnd'⟩ := fi'
  cases b with
  | @mk fn ds md dd rnd fr F h1 h2 =>
    have hfn : fn = fn' ∧ renMd sg md md' = true := by
      cases rnd <;> cases rnd' <;> first | cases e3 | skip
      · obtain ⟨a1, a⟩ := an2 (show cnd (Nat.beq fn fn') (cnd (renDfs sg ds ds') (cnd (renMd sg md md') (beqB dd dd') false) false) false = true from e3)
        exact ⟨Nat.eq_of_beq_eq_true a1, (an2 (an2 a).2).1⟩
      · rename_i l l'
        obtain ⟨a1, a⟩ := an2 (show cnd (Nat.beq fn fn') (cnd (renDfs sg ds ds') (cnd (renMd sg md md') (cnd (beqB dd dd') _ false) false) false) false = true from e3)
        exact ⟨Nat.eq_of_beq_eq_true a1, (an2 (an2 a).2).1⟩
    obtain ⟨rfl, hm⟩ := hfn
    obtain ⟨h3, h4⟩ := renBody (F1 := F1) hs e1 e2 hm h2
    exact ⟨h3, .mk (renFI_r hs e3 h1) h4⟩
theorem renSt {E : Env} {μ : Mu} : ∀ {zs : List Zf} {cs : List Fr} {frs : List Frame} {F : List Key}, cs = zs.map Zf.a → renZs sg zs = true → @StR v0 F0 E μ cs frs F → F = [] ∧ @StR v1 F1 E (remu sg μ) (zs.map Zf.b) frs []
  | [], cs, frs, F, hc, _, b => by
    subst hc
    cases b
    exact ⟨rfl, .nil⟩
  | .mk L L' td fi fi' :: zs, cs, frs, F, hc, e, b => by
    subst hc
    obtain ⟨e1, e2⟩ := an2 (show cnd (renZ sg (.mk L L' td fi fi')) (renZs sg zs) false = true from e)
    cases b with
    | cons h1 h2 =>
      obtain ⟨rfl, g1⟩ := renFr (F1 := F1) hs e1 h1
      obtain ⟨rfl, g2⟩ := renSt rfl e2 h2
      exact ⟨rfl, .cons g1 g2⟩
end
end
end Go.Ev

namespace Go.Ev
set_option linter.unusedVariables false
set_option linter.unusedSectionVars false
set_option linter.unusedSimpArgs false
noncomputable section
section
variable {v0 v1 : Val} {sg : Sg} (hs : SgOk v0 v1 sg)
include hs
theorem renEs_r {μ : Mu} : ∀ {es es' : List En} {xs : List MapEntry}, renEs sg es es' = true → @EnsR v0 μ es xs → @EnsR v1 (remu sg μ) es' xs
  | [], [], _, _, k => by simpa only [EnsR] using k
  | [], _ :: _, _, e, _ => by cases e
  | _ :: _, [], _, e, _ => by cases e
  | .mk k v b :: es, .mk k' v' b' :: es', _, e, kk => by
    obtain ⟨e1, e⟩ := an2 (show cnd (renA sg k k') (cnd (renA sg v v') (cnd (Nat.beq b b') (renEs sg es es') false) false) false = true from e)
    replace e := an2 e
    obtain ⟨e2, e⟩ := e
    obtain ⟨e3, e4⟩ := an2 e
    obtain rfl := Nat.eq_of_beq_eq_true e3
    simp only [EnsR] at kk ⊢
    obtain ⟨x, r, rfl, ⟨h1, h2, h3⟩, h4⟩ := kk
    exact ⟨x, r, rfl, ⟨renA_r hs _ _ _ e1 h1, renA_r hs _ _ _ e2 h2, h3⟩, renEs_r e4 h4⟩
omit hs in
theorem renRows_length : ∀ {l l' : List (List AV)}, renRows sg l l' = true → l.length = l'.length
  | [], [], _ => rfl
  | [], _ :: _, h => by cases h
  | _ :: _, [], h => by cases h
  | a :: l, b :: l', h => by
    obtain ⟨_, h2⟩ := an2 (show cnd (renAs sg a b) (renRows sg l l') false = true from h)
    simp [renRows_length h2]
omit hs in
theorem renRows_get : ∀ {l l' : List (List AV)}, renRows sg l l' = true → ∀ {j : Nat} {a' : List AV}, l'[j]? = some a' → ∃ a, l[j]? = some a ∧ renAs sg a a' = true
  | [], [], _, j, a', hj => by simp at hj
  | [], _ :: _, h, _, _, _ => by cases h
  | _ :: _, [], h, _, _, _ => by cases h
  | a :: l, b :: l', h, 0, a', hj => by
    obtain ⟨h1, _⟩ := an2 (show cnd (renAs sg a b) (renRows sg l l') false = true from h)
    simp at hj; subst hj
    exact ⟨a, rfl, h1⟩
  | a :: l, b :: l', h, j + 1, a', hj => by
    obtain ⟨_, h2⟩ := an2 (show cnd (renAs sg a b) (renRows sg l l') false = true from h)
    obtain ⟨x, e1, e2⟩ := renRows_get h2 (j := j) (a' := a') (by simpa using hj)
    exact ⟨x, by simpa using e1, e2⟩
theorem renRow {μ : Mu} {cs : Array Value} {s sz r : Nat} {l l' : List AV} (e : renAs sg l l' = true) (k : @RowR v0 μ cs s sz r l) : @RowR v1 (remu sg μ) cs s sz r l' := by
  obtain ⟨h1, h2, h3⟩ := k
  refine ⟨h1, by rw [← renAs_length e]; exact h2, fun j a hj => ?_⟩
  obtain ⟨a0, g1, g2⟩ := renAs_get e hj
  obtain ⟨v, g3, g4⟩ := h3 j a0 g1
  exact ⟨v, g3, renA_r hs _ _ _ g2 g4⟩
theorem iv_r {B : Nat} {μ : Mu} {w : World} {f : Key} {lo hi : Int} (hn : ∀ g, μ f g = none) (e : cnd (Key.beq f kZ) false (cnd (notG sg f) (opt (findNb f sg.bs) false fun p => cnd (ile lo p.1) (ile p.2 hi) false) false) = true) :
    @OR v1 B (remu sg μ) w f (.iv lo hi) := by
  cases h1 : Key.beq f kZ with
  | true => rw [h1] at e; cases e
  | false =>
    rw [h1] at e
    obtain ⟨e1, e⟩ := an2 (show cnd (notG sg f) _ false = true from e)
    cases hf : findNb f sg.bs with
    | none => rw [hf] at e; cases e
    | some p =>
      rw [hf] at e
      obtain ⟨e2, e3⟩ := an2 (show cnd (ile lo p.1) (ile p.2 hi) false = true from e)
      rw [ileE] at e2 e3
      have e2 := of_decide_eq_true e2
      have e3 := of_decide_eq_true e3
      have k := findNb_ok hs hf
      rw [@nz_ne v1 _ h1] at k
      exact ⟨fun g => by rw [remu_notG e1]; exact hn g, by omega, by omega⟩
theorem renOb_r {B : Nat} {μ : Mu} {w : World} {f : Key} {o o' : Ob} (e : renOb sg f o o' = true) (k : @OR v0 B μ w f o) : @OR v1 B (remu sg μ) w f o' := by
  unfold renOb at e
  split at e
  · intro g
    show remu sg μ f g = none
    unfold remu
    split
    · exact k g
    · rename_i a b _
      cases Nat.beq g b <;> first | rfl | exact k a
  · exact fun g => by rw [remu_notG e]; exact k.1 g
  · exact iv_r hs k e
  · exact iv_r hs k.1 e
  · obtain ⟨e0, e⟩ := an2 e
    replace e := an2 e
    obtain ⟨e1, e⟩ := e
    replace e := an2 e
    obtain ⟨e2, e⟩ := e
    replace e := an2 e
    obtain ⟨e3, e⟩ := e
    replace e := an2 e
    obtain ⟨e4, e⟩ := e
    obtain ⟨e5, e6⟩ := an2 e
    obtain rfl := beqB_eq e1
    obtain rfl := Nat.eq_of_beq_eq_true e2
    obtain rfl := Nat.eq_of_beq_eq_true e3
    obtain rfl := Nat.eq_of_beq_eq_true e4
    obtain rfl := Nat.eq_of_beq_eq_true e5
    obtain ⟨⟨k1, k2⟩, ⟨k3, k4⟩, k5⟩ := k
    refine ⟨⟨renTr_wf e6 k1, fun r hr => ?_⟩, ⟨fun g hg => by rw [remu_notG e0]; exact k3 g hg, fun r l gw hg => ?_⟩, fun g b s n hm => ?_⟩
    · refine Option.eq_none_iff_forall_ne_some.2 fun x hg => ?_
      obtain ⟨l', g'⟩ := x
      obtain ⟨l, h1, _⟩ := renTr_get e6 hg
      rw [k2 r hr] at h1; cases h1
    · obtain ⟨l0, h1, _⟩ := renTr_get e6 hg
      exact k4 r l0 gw h1
    · rw [remu_notG e0] at hm
      obtain ⟨a1, a2, cs, e, fz, a3, a4, a5, a6⟩ := k5 g b s n hm
      refine ⟨a1, a2, cs, e, fz, a3, a4, a5, fun r l gw hg hgw hsr => ?_⟩
      obtain ⟨l0, h1, h2⟩ := renTr_get e6 hg
      exact renRow hs h2 (a6 r l0 gw h1 hgw hsr)
  · obtain ⟨e0, e⟩ := an2 e
    obtain ⟨e1, e2⟩ := an2 e
    obtain rfl := Nat.eq_of_beq_eq_true e1
    obtain ⟨k1, k2⟩ := k
    refine ⟨fun g hg => by rw [remu_notG e0]; exact k1 g hg, fun b s n hm => ?_⟩
    rw [remu_notG e0] at hm
    obtain ⟨a1, es', a2, a3⟩ := k2 b s n hm
    exact ⟨a1, es', a2, renEs_r hs e2 a3⟩
  · obtain ⟨e0, e⟩ := an2 e
    obtain ⟨e1, e2⟩ := an2 e
    rw [leqE] at e1
    obtain rfl := of_decide_eq_true e1
    obtain rfl := Nat.eq_of_beq_eq_true e2
    obtain ⟨k1, k2⟩ := k
    exact ⟨fun g hg => by rw [remu_notG e0]; exact k1 g hg, fun b s n hm => by rw [remu_notG e0] at hm; exact k2 b s n hm⟩
  · obtain ⟨k1, k2⟩ := k
    exact ⟨fun g hg => by rw [remu_notG e]; exact k1 g hg, fun b s n hm => by rw [remu_notG e] at hm; exact k2 b s n hm⟩
  · obtain ⟨e0, e1⟩ := an2 e
    obtain ⟨k1, k2⟩ := k
    refine ⟨fun g hg => by rw [remu_notG e0]; exact k1 g hg, fun b s n hm => ?_⟩
    rw [remu_notG e0] at hm
    obtain ⟨a1, ds', a2, l', a3, a4⟩ := k2 b s n hm
    exact ⟨a1, ds', a2, l', a3, renDfs_r hs e1 a4⟩
  · rename_i ro g z q s ro' g' z' q' s'
    replace e := an2 e
    obtain ⟨e0, e⟩ := e
    replace e := an2 e
    obtain ⟨e00, e⟩ := e
    cases hr : relN sg q' q with
    | none => rw [hr] at e; cases e
    | some d =>
      rw [hr] at e
      obtain ⟨e1, e⟩ := an2 (show cnd (ieq d 0) _ false = true from e)
      replace e := an2 e
      obtain ⟨e2, e⟩ := e
      replace e := an2 e
      obtain ⟨e3, e⟩ := e
      obtain ⟨e5, e6⟩ := an2 e
      rw [ieqE] at e1
      have e1 := of_decide_eq_true e1
      obtain rfl := beqB_eq e2
      obtain rfl := Nat.eq_of_beq_eq_true e3
      obtain rfl := Nat.eq_of_beq_eq_true e5
      have hl := lsOk_ok hs e00
      have hn := relN_ok hs hr
      obtain ⟨⟨⟨k1, k2⟩, k3⟩, ⟨k4, k5⟩, k6⟩ := k
      refine ⟨⟨⟨by rw [hl, hn, k1, e1]; simp, fun row hrow => k2 row (by rw [← hl]; exact hrow)⟩, fun l hl' => ?_⟩, ⟨fun h hh => by rw [remu_notG e0]; exact k4 h hh, k5⟩, fun h b st n hm => ?_⟩
      · obtain ⟨j, hj⟩ := List.getElem?_of_mem hl'
        obtain ⟨l0, c1, c2⟩ := renRows_get e6 hj
        rw [← renAs_length c2]
        exact k3 l0 (List.mem_of_getElem? c1)
      · rw [remu_notG e0] at hm
        obtain ⟨a0, cs, e, fz, a1, a2, a3, a4, a5⟩ := k6 h b st n hm
        refine ⟨a0, cs, e, fz, a1, a2, a3, by rw [hl]; exact a4, fun hg i l hi j a hj => ?_⟩
        obtain ⟨l0, c1, c2⟩ := renRows_get e6 hi
        obtain ⟨a0, c3, c4⟩ := renAs_get c2 hj
        obtain ⟨v, c5, c6⟩ := a5 hg i l0 c1 j a0 c3
        exact ⟨v, by rw [hl]; exact c5, renA_r hs _ _ _ c4 c6⟩
  · cases e
end
end
end Go.Ev

namespace Go.Ev
set_option linter.unusedVariables false
set_option linter.unusedSectionVars false
set_option linter.unusedSimpArgs false
noncomputable section
def Supp (ks : List Key) (h : Hp) : Prop := ∀ f, inKs f ks = false → hget f h = .none
theorem inKs_mem {f : Key} : ∀ {ks : List Key}, f ∈ ks → inKs f ks = true
  | k :: ks, h => by
    unfold inKs
    cases hb : Key.beq k f with
    | true => rfl
    | false =>
      rcases List.mem_cons.1 h with rfl | h
      · rw [Key.beq_refl] at hb; cases hb
      · exact inKs_mem h
theorem supp_gc (ks : List Key) (h : Hp) : Supp ks (gcH ks h) := by
  intro f hf
  rcases gcHg (h := h) (f := f) ks with ⟨_, h2⟩ | h1
  · rw [inKs_mem h2] at hf; cases hf
  · exact h1
section
variable {v0 v1 : Val} {sg : Sg} (hs : SgOk v0 v1 sg)
theorem renObs_get {sp : List Key} {h h' : Hp} {f : Key} : ∀ {ks : List Key}, renObs sg sp h h' ks = true → inKs f ks = true → inKs f sp = true ∨ renOb sg f (hget f h) (hget f h') = true
  | [], _, hf => by cases hf
  | k :: ks, e, hf => by
    obtain ⟨e1, e2⟩ := an2 (show cnd (cnd (inKs k sp) true (renOb sg k (hget k h) (hget k h'))) (renObs sg sp h h' ks) false = true from e)
    unfold inKs at hf
    cases hb : Key.beq k f with
    | true =>
      obtain rfl := Key.beq_eq hb
      cases hk : inKs k sp with
      | true => exact .inl rfl
      | false => rw [hk] at e1; exact .inr e1
    | false => rw [hb] at hf; exact renObs_get e2 hf
include hs
theorem ren_HR {F0 F1 : Fk} (hF : @FkOk v1 F1) {B : Nat} {μ : Mu} {h h' : Hp} {w : World} {ks sp : List Key} (h1 : Supp ks h) (h2 : Supp ks h') (e3 : renObs sg sp h h' ks = true)
    (hsp : ∀ f, inKs f sp = true → (∀ b s n, μ f 0 = some (b, s, n) → s = 0) → @OR v0 B μ w f (hget f h) → @OR v1 B (remu sg μ) w f (hget f h'))
    (k : @HR v0 F0 B μ h w) : @HR v1 F1 B (remu sg μ) h' w := by
  have hl : strGen < lstGen := by decide
  obtain ⟨ki, kl, ko, kd, _, kst⟩ := k
  refine @HR.mk v1 F1 _ _ _ _ (fun f g b s n f' g' s' n' a1 a2 hc => ?_) (fun f g b s n a1 => ?_) (fun f => ?_) (fun f g g' b s n s' n' a1 a2 hg => ?_) hF (fun f b s n a1 => ?_)
  · obtain ⟨g0, b1, b2⟩ := remu_some hs.gs a1
    obtain ⟨g1, c1, c2⟩ := remu_some hs.gs a2
    refine ki f g0 b s n f' g1 s' n' b1 c1 ?_
    rcases hc with ⟨d1, d2⟩ | d1
    · left
      exact ⟨by rcases b2 with ⟨_, rfl⟩ | ⟨_, e, _⟩ <;> omega, by rcases c2 with ⟨_, rfl⟩ | ⟨_, e, _⟩ <;> omega⟩
    · exact .inr d1
  · obtain ⟨g0, b1, _⟩ := remu_some hs.gs a1
    exact kl _ _ _ _ _ b1
  · cases hf : inKs f ks with
    | true =>
      rcases renObs_get e3 hf with hh | hh
      · exact hsp f hh (fun b s n hm => kst f b s n hm) (ko f)
      · exact renOb_r hs hh (ko f)
    | false =>
      have k1 := ko f
      rw [h1 f hf] at k1
      rw [h2 f hf]
      exact renOb_r (o := .none) (o' := .none) hs rfl k1
  · obtain ⟨g0, b1, b2⟩ := remu_some hs.gs a1
    obtain ⟨g1, c1, c2⟩ := remu_some hs.gs a2
    rcases b2 with ⟨b2, rfl⟩ | ⟨b2, b3, b4, _⟩
    · rcases c2 with ⟨_, rfl⟩ | ⟨c2, _⟩
      · exact kd _ _ _ _ _ _ _ _ b1 c1 hg
      · unfold notG at b2; rw [c2] at b2; cases b2
    · omega
  · obtain ⟨g0, b1, b2⟩ := remu_some hs.gs a1
    rcases b2 with ⟨_, rfl⟩ | ⟨_, _, _, b3⟩
    · exact kst _ _ _ _ b1
    · omega
omit hs in
theorem gmOk_inv {gm : Nat} : ∀ {n : Nat}, gmOk gm sg n = true → ∀ g, g < n → inM gm g = true → notG sg (Key.ofNat g) = true
  | 0, _, g, hg, _ => by omega
  | n + 1, e, g, hg, hm => by
    obtain ⟨e1, e2⟩ := an2 (show cnd (cnd (inM gm n) (notG sg (Key.ofNat n)) true) (gmOk gm sg n) false = true from e)
    by_cases hh : g = n
    · subst hh; rw [hm] at e1; exact e1
    · exact gmOk_inv e2 g (by omega) hm
theorem ren_sim {F0 F1 : Fk} (hF : @FkOk v1 F1) {E : Env} {P : Program} {C : Call0} {L L' : Lo} {td : List Ci} {fi fi' : FI} {zs : List Zf} {h h' : Hp} {nx nx' : Key} {m : Machine} {ks sp : List Key}
    (h1 : Supp ks h) (h2 : Supp ks h') (e1 : renZ sg (.mk L L' td fi fi') = true) (e2 : renZs sg zs = true) (e3 : renObs sg sp h h' ks = true) (e4 : gmOk E.gm sg 64 = true) (e5 : Nat.blt E.gm (2 ^ 64) = true)
    (hsp : ∀ f, inKs f sp = true → ∀ μ w, (∀ b s n, μ f 0 = some (b, s, n) → s = 0) → @OR v0 C.W.heap.size μ w f (hget f h) → @OR v1 C.W.heap.size (remu sg μ) w f (hget f h'))
    (k : @Sim v0 F0 E P C (.mk L td fi (zs.map Zf.a) h nx) m) : @Sim v1 F1 E P C (.mk L' td fi' (zs.map Zf.b) h' nx') m := by
  generalize hcs : zs.map Zf.a = cs at k
  cases k with
  | mk hr hg he hf hst hk =>
    obtain ⟨rfl, f1⟩ := renFr (F1 := F1) hs e1 hf
    obtain ⟨rfl, s1⟩ := renSt (F1 := F1) hs hcs.symm e2 hst
    refine @Sim.mk v1 F1 _ _ _ _ _ _ _ _ _ _ _ _ _ _ _ (ren_HR hs hF h1 h2 e3 (fun f hf => hsp f hf _ _) hr) (fun g hgm => ?_) he f1 s1 ⟨.nil, fun f hf => by cases hf⟩
    obtain ⟨n, hn⟩ := hg g hgm
    have hlt : g < 64 := by
      rcases Nat.lt_or_ge g 64 with h' | h'
      · exact h'
      · exfalso
        have q1 : Nat.land E.gm (Nat.pow 2 g) = Nat.pow 2 g := Nat.eq_of_beq_eq_true hgm
        have q2 : E.gm &&& 2 ^ g ≤ E.gm := Nat.and_le_left
        have q3 : E.gm &&& 2 ^ g = 2 ^ g := q1
        have q4 : E.gm < 2 ^ 64 := by simpa [Nat.blt_eq] using e5
        have q5 : 2 ^ 64 ≤ 2 ^ g := Nat.pow_le_pow_right (by decide) h'
        omega
    exact ⟨n, by rw [remu_notG (gmOk_inv e4 g hlt hgm)]; exact hn⟩
/-! objects that stand apart -/
inductive VRR (v : Val) (μ : Mu) : List (List AV) → List (List Value) → Prop where
  | nil : VRR v μ [] []
  | cons {a l r rs} : @VRs v μ a r → VRR v μ l rs → VRR v μ (a :: l) (r :: rs)
omit hs in
theorem VRR.length {v : Val} {μ : Mu} {l : List (List AV)} {rs : List (List Value)} (h : VRR v μ l rs) : rs.length = l.length := by
  induction h with
  | nil => rfl
  | cons _ _ ih => simp [ih]
omit hs in
theorem VRR.get {v : Val} {μ : Mu} {l : List (List AV)} {rs : List (List Value)} (h : VRR v μ l rs) : ∀ {i : Nat} {row : List Value}, rs[i]? = some row → ∃ a, l[i]? = some a ∧ @VRs v μ a row := by
  induction h with
  | nil => intro i row hi; simp at hi
  | cons h1 _ ih =>
    intro i row hi
    cases i with
    | zero => simp at hi; subst hi; exact ⟨_, rfl, h1⟩
    | succ i => obtain ⟨a, e1, e2⟩ := ih (by simpa using hi); exact ⟨a, by simpa using e1, e2⟩
omit hs in
theorem sfx_rows {v : Val} {μ : Mu} {cs : Array Value} {s sz : Nat} : ∀ (sfx : List (List AV)) (n : Nat), (∀ (i : Nat) l, sfx[i]? = some l → ∀ (j : Nat) a, l[j]? = some a → ∃ x, cs[s + (n + i) * sz + j]? = some x ∧ @VR v μ a x) →
    ∃ rs, VRR v μ sfx rs ∧ ∀ i (row : List Value), rs[i]? = some row → ∀ j (x : Value), row[j]? = some x → cs[s + (n + i) * sz + j]? = some x
  | [], n, _ => ⟨[], .nil, fun i row hi => by simp at hi⟩
  | l :: sfx, n, h => by
    obtain ⟨rs, h1, h2⟩ := sfx_rows sfx (n + 1) (fun i x hi j a hj => by
      have := h (i + 1) x (by simpa using hi) j a hj
      rwa [show n + (i + 1) = n + 1 + i from by omega] at this)
    obtain ⟨vs, h3, h4⟩ := @vals_of' v dF μ cs l (s + (n + 0) * sz) (fun j a hj => h 0 l rfl j a hj)
    refine ⟨vs :: rs, .cons h3 h1, fun i row hi j x hj => ?_⟩
    cases i with
    | zero => simp at hi; subst hi; exact h4 j x hj
    | succ i =>
      have := h2 i row (by simpa using hi) j x hj
      rwa [show n + 1 + i = n + (i + 1) from by omega] at this
omit hs in
theorem remu_all {μ : Mu} {f : Key} {gen gen' : Nat} (hgs : gsOk sg.gs = true) (hg : findG f sg.gs = some (gen, gen')) : ∀ h x, remu sg μ f h = some x → h = gen' ∧ μ f gen = some x := by
  intro h x hx
  obtain ⟨g1, a1, a2⟩ := remu_some hgs hx
  rcases a2 with ⟨b1, _⟩ | ⟨b1, _⟩
  · unfold notG at b1; rw [hg] at b1; cases b1
  · rw [hg] at b1; cases b1; exact ⟨rfl, a1⟩
theorem or_grow {B : Nat} {μ : Mu} {w : World} {f : Key} {gen gen' sz : Nat} {q q' : Key} {sfx : List (List AV)} (hg : findG f sg.gs = some (gen, gen')) (hn : @nz v1 q' = (v1.l q').length) (hz : ∀ row ∈ v1.l q', row.length = sz)
    (hl : ∀ μ rows, VRR v0 μ sfx rows → v1.l q' = v0.l q ++ rows) (k : @OR v0 B μ w f (.lst false gen sz q sfx)) : @OR v1 B (remu sg μ) w f (.lst false gen' sz q' []) := by
  obtain ⟨_, ⟨k4, _⟩, k6⟩ := k
  obtain ⟨_, h2, h3⟩ := findG_ok hs.gs hg
  have hgg := remu_all (μ := μ) hs.gs hg
  refine ⟨⟨⟨hn, hz⟩, by simp⟩, ⟨fun g hg' => ?_, fun _ => h2⟩, fun g b s n hm => ?_⟩
  · cases hx : remu sg μ f g with
    | none => rfl
    | some x => have := (hgg g x hx).1; omega
  · obtain ⟨rfl, hm0⟩ := hgg g _ hm
    obtain ⟨a0, cs, e, fz, a1, a2, a3, a4, a5⟩ := k6 gen b s n hm0
    obtain ⟨rs, r1, r2⟩ := sfx_rows sfx (@Val.l v0 q).length (a5 rfl)
    have hl1 := hl μ rs r1
    refine ⟨⟨a0.1, fun hh => by cases hh⟩, cs, e, fz, a1, a2, a3, fun r row hr j v hj => ?_, fun _ i l hi => by simp at hi⟩
    rw [show @Val.l v1 q' = v0.l q ++ rs from hl1] at hr
    by_cases hlt : r < (@Val.l v0 q).length
    · rw [List.getElem?_append_left hlt] at hr
      exact a4 r row hr j v hj
    · rw [List.getElem?_append_right (by omega)] at hr
      have := r2 _ row hr j v hj
      rwa [show (@Val.l v0 q).length + (r - (@Val.l v0 q).length) = r from by omega] at this
theorem or_new {B : Nat} {μ : Mu} {w : World} {f : Key} {gen' sz dp ext : Nat} {c : Tr Row} {q' : Key} {sfx : List (List AV)} (hst : ∀ b s n, μ f 0 = some (b, s, n) → s = 0) (hg : findG f sg.gs = some (0, gen'))
    (hrows : getRows c 0 sfx.length 0 = some sfx) (hn : @nz v1 q' = (v1.l q').length) (hz : ∀ row ∈ v1.l q', row.length = sz) (hl : ∀ μ rows, VRR v0 μ sfx rows → v1.l q' = rows)
    (k : @OR v0 B μ w f (.cells false 0 sz dp ext c)) : @OR v1 B (remu sg μ) w f (.lst false gen' sz q' []) := by
  obtain ⟨_, ⟨k4, _⟩, k6⟩ := k
  obtain ⟨_, h2, h3⟩ := findG_ok hs.gs hg
  have hgg := remu_all (μ := μ) hs.gs hg
  refine ⟨⟨⟨hn, hz⟩, by simp⟩, ⟨fun g hg' => ?_, fun _ => h2⟩, fun g b s n hm => ?_⟩
  · cases hx : remu sg μ f g with
    | none => rfl
    | some x => have := (hgg g x hx).1; omega
  · obtain ⟨rfl, hm0⟩ := hgg g _ hm
    obtain rfl := hst _ _ _ hm0
    obtain ⟨a0, _, cs, e, fz, a1, a2, a3, a4⟩ := k6 0 b 0 n hm0
    have hfz : fz = (0, 0) := by
      rcases a2 with h | ⟨h, _⟩
      · exact h
      · exact absurd h (by decide)
    obtain ⟨_, b2⟩ := @getRows_sound v0 dF μ cs 0 sz 0 c a4 sfx.length 0 sfx hrows (Nat.zero_le _)
    obtain ⟨rs, r1, r2⟩ := @sfx_rows v0 μ cs 0 sz sfx 0 (fun i l hi j a hj => by
      obtain ⟨_, _, b3⟩ := b2 i l hi
      obtain ⟨v, c1, c2⟩ := b3 j a hj
      refine ⟨v, ?_, c2⟩
      rw [← c1]; congr 1; omega)
    have hl1 := hl μ rs r1
    refine ⟨⟨a0, fun hh => by cases hh⟩, cs, e, fz, a1, fun _ => hfz, a3, fun r row hr j v hj => ?_, fun _ i l hi => by simp at hi⟩
    rw [show @Val.l v1 q' = rs from hl1] at hr
    have := r2 r row hr j v hj
    rwa [Nat.zero_add r] at this
theorem or_loop {B : Nat} {μ : Mu} {w : World} {f : Key} {st : LoopState} {pend : Option Code} {fn : Nat} {tm tm' : Tm} {ps : List Nat} {a b : Code} {df : Key} {x : Cx} (e0 : notG sg f = true) (e1 : renTm sg tm tm' = true) (e2 : notG sg df = true)
    (k : @OR v0 B μ w f (.loop st pend fn tm ps a b df x)) : @OR v1 B (remu sg μ) w f (.loop st pend fn tm' ps a b df x) := by
  obtain ⟨k1, k2⟩ := k
  refine ⟨fun g hg => by rw [remu_notG e0]; exact k1 g hg, fun c s n hm => ?_⟩
  rw [remu_notG e0] at hm
  obtain ⟨a1, tmps, dfb, s', n', a2, ⟨a3, a4⟩, a5⟩ := k2 c s n hm
  exact ⟨a1, tmps, dfb, s', n', a2, ⟨renNeed hs e1 a3, a4⟩, by rw [remu_notG e2]; exact a5⟩
omit hs in
theorem perm_of {α β : Type} {f : α → β} : ∀ {l : List α} {m : List α}, (l.map f).Perm (m.map f) → ∀ x ∈ m, ∃ y ∈ l, f y = f x := by
  intro l m h x hx
  have : f x ∈ l.map f := h.symm.subset (List.mem_map_of_mem hx)
  obtain ⟨y, h1, h2⟩ := List.mem_map.1 this
  exact ⟨y, h1, h2⟩
theorem or_mapu {B : Nat} {μ : Mu} {w : World} {f : Key} {es : List En} (e0 : notG sg f = true) (e1 : renEs sg es es = true) (k : @OR v0 B μ w f (.mapu es)) : @OR v1 B (remu sg μ) w f (.mapu es) := by
  obtain ⟨k1, k2⟩ := k
  refine ⟨fun g hg => by rw [remu_notG e0]; exact k1 g hg, fun b s n hm => ?_⟩
  rw [remu_notG e0] at hm
  obtain ⟨a1, es', clock, es0, a2, a3, a4⟩ := k2 b s n hm
  refine ⟨a1, es', clock, es0, a2, ?_, a4⟩
  have hes : ∀ e ∈ es, renA sg e.k e.k = true ∧ renA sg e.v e.v = true := by
    clear a4 k2 k1
    induction es with
    | nil => intro e he; cases he
    | cons x l ih =>
      obtain ⟨k, v, b⟩ := x
      obtain ⟨c1, c⟩ := an2 (show cnd (renA sg k k) (cnd (renA sg v v) (cnd (Nat.beq b b) (renEs sg l l) false) false) false = true from e1)
      obtain ⟨c2, c⟩ := an2 c
      obtain ⟨_, c3⟩ := an2 c
      intro e he
      rcases List.mem_cons.1 he with rfl | he
      · exact ⟨c1, c2⟩
      · exact ih c3 e he
  have h0 : ∀ e ∈ es0, renA sg e.k e.k = true ∧ renA sg e.v e.v = true := by
    intro e he
    obtain ⟨y, y1, y2⟩ := perm_of a4 e he
    have := hes y y1
    have e1 : y.k = e.k := congrArg Prod.fst y2
    have e2 : y.v = e.v := congrArg Prod.snd y2
    rw [e1, e2] at this
    exact this
  have go : ∀ (l : List En) (xs : List MapEntry), (∀ e ∈ l, renA sg e.k e.k = true ∧ renA sg e.v e.v = true) → @EnsR v0 μ l xs → @EnsR v1 (remu sg μ) l xs := by
    intro l
    induction l with
    | nil => intro xs _ h; simpa only [EnsR] using h
    | cons x l ih =>
      intro xs hl h
      simp only [EnsR] at h ⊢
      obtain ⟨y, r, e, ⟨h1, h2, h3⟩, h4⟩ := h
      have := hl x (List.mem_cons_self ..)
      exact ⟨y, r, e, ⟨renA_r hs _ _ _ this.1 h1, renA_r hs _ _ _ this.2 h2, h3⟩, ih r (fun e he => hl e (List.mem_cons_of_mem _ he)) h4⟩
  exact go _ _ h0 a3
end
end
end Go.Ev

namespace Go.Ev
set_option linter.unusedVariables false
set_option linter.unusedSectionVars false
set_option linter.unusedSimpArgs false
noncomputable section
/-! ## runs from a place to a place -/
section
variable [Fk]
def catO (f : Cfg → Option (List Cfg)) (l : List Cfg) : Option (List Cfg) :=
  List.rec (motive := fun _ => Option (List Cfg)) (some []) (fun c _ ih => opt (f c) none fun a => opt ih none fun b => some (a ++ b)) l
def turnsC (E : Env) (hd : Cfg → Bool) (n : Nat) : Cfg → Option (List Cfg) :=
  Nat.rec (motive := fun _ => Cfg → Option (List Cfg)) (fun _ => none) (fun _ ih c =>
    Sp.rec (motive := fun _ => Option (List Cfg)) (fun c' => cnd (hd c) (some [c']) (back ih c')) (fun v => cnd (aveq v Fk.rv) (some []) none) (fun l => catO ih l) none (step E c)) n
end
def isIL (td : List Ci) : Bool := List.rec (motive := fun _ => Bool) false (fun c _ _ => match c with
  | .inLoop _ => true
  | .loop _ => true
  | _ => false) td
def loopAt (f d n : Nat) (c : Cfg) : Bool :=
  Cfg.rec (motive := fun _ => Bool) (fun _ td fi cs _ _ => cnd (isIL td) (cnd (match fi with | .mk fn _ _ _ _ => Nat.beq fn f) (cnd (Nat.beq cs.length d) (Nat.beq td.length n) false) false) false) c
def Cfg.tds (c : Cfg) : List (List Ci) := match c with | .mk _ td _ cs _ _ => td :: cs.map fun | .mk _ td _ => td
def Cfg.hp (c : Cfg) : Hp := match c with | .mk _ _ _ _ h _ => h
inductive Gr where
  | grow (f q q' : Key) (sz : Nat) (exp : List (List AV))
  | new (f q' : Key) (sz : Nat) (exp : List (List AV))
  | loop (f : Key)
  | mapu (f : Key)
  | keep (f : Key)
def Gr.key : Gr → Key
  | .keep f => f
  | .grow f _ _ _ _ => f
  | .new f _ _ _ => f
  | .loop f => f
  | .mapu f => f
def ivNorm (h : Hp) (x : AV) : AV :=
  match x with
  | .sx k f c a b => asIv (hget f h) (.sx k f c a b) fun lo hi => cnd (cnd (ieq lo hi) (fitK k (iadd lo c) (iadd lo c)) false) (.int k (iadd lo c)) (.sx k f c a b)
  | x => x
def sameX (h : Hp) (x y : AV) : Bool :=
  match ivNorm h x, y with
  | .sx k f c _ _, .sx l f' c' lo hi => cnd (keq k l) (cnd (Key.beq f f') (cnd (ieq c c') (asIv (hget f h) false fun a b => cnd (ile lo (iadd a c)) (ile (iadd b c) hi) false) false) false) false
  | a, b => aveq a b
def sameXs (h : Hp) : List AV → List AV → Bool
  | [], [] => true
  | x :: xs, y :: ys => cnd (sameX h x y) (sameXs h xs ys) false
  | _, _ => false
def sameRows (h : Hp) : List (List AV) → List (List AV) → Bool
  | [], [] => true
  | x :: xs, y :: ys => cnd (sameXs h x y) (sameRows h xs ys) false
  | _, _ => false
def ensEq : List En → List En → Bool
  | [], [] => true
  | .mk k v b :: l, .mk k' v' b' :: l' => cnd (aveq k k') (cnd (aveq v v') (cnd (Nat.beq b b') (ensEq l l') false) false) false
  | _, _ => false
def natsEq (a b : List Nat) : Bool := leq a b
def stEq : LoopState → LoopState → Bool
  | .ready, .ready => true
  | .busy, .busy => true
  | .done, .done => true
  | .exhausted, .exhausted => true
  | _, _ => false
def grB (sg : Sg) (h h' : Hp) : Gr → Bool
  | .grow f q q' sz exp => match hget f h, hget f h' with
    | .lst false gen z p sfx, .lst false gen' z' p' [] => cnd (Nat.beq z sz) (cnd (Nat.beq z' sz) (cnd (Key.beq p q) (cnd (Key.beq p' q') (opt (findG f sg.gs) false fun x => cnd (Nat.beq x.1 gen) (cnd (Nat.beq x.2 gen') (sameRows h sfx exp) false) false) false) false) false) false
    | _, _ => false
  | .new f q' sz exp => match hget f h, hget f h' with
    | .cells false 0 z dp ext c, .lst false gen' z' p' [] => cnd (Nat.beq z sz) (cnd (Nat.beq z' sz) (cnd (Key.beq p' q') (opt (findG f sg.gs) false fun x => cnd (Nat.beq x.1 0) (cnd (Nat.beq x.2 gen') (opt (getRows c 0 exp.length 0) false fun sfx => sameRows h sfx exp) false) false) false) false) false
    | _, _ => false
  | .loop f => match hget f h, hget f h' with
    | .loop st none fn tm ps _ _ df (.mk a b c), .loop st' none fn' tm' ps' _ _ df' (.mk a' b' c') => cnd (notG sg f) (cnd (stEq st st') (cnd (Nat.beq fn fn') (cnd (renTm sg tm tm') (cnd (natsEq ps ps') (cnd (Key.beq df df') (cnd (notG sg df) (cnd (Nat.beq a a') (cnd (Nat.beq b b') (Nat.beq c c') false) false) false) false) false) false) false) false) false
    | _, _ => false
  | .keep f => notG sg f
  | .mapu f => match hget f h, hget f h' with
    | .mapu es, .mapu es' => cnd (notG sg f) (cnd (ensEq es es') (renEs sg es es) false) false
    | _, _ => false
def obsOf (h : Hp) : List Gr → List Ob
  | [] => []
  | .keep f :: l => hget f h :: obsOf h l
  | _ :: l => obsOf h l
mutual
def closedA : AV → Bool
  | .bool _ => true
  | .int _ _ => true
  | .str _ => true
  | .ptr0 => true
  | .slice0 => true
  | .map0 => true
  | .nilFunc => true
  | .nilIface => true
  | .agg l => closedAs l
  | _ => false
def closedAs : List AV → Bool
  | [] => true
  | a :: l => cnd (closedA a) (closedAs l) false
end
def closedTr : Tr Row → Bool
  | .e => true
  | .lf (.mk l _) => closedAs l
  | .n a b => cnd (closedTr a) (closedTr b) false
def closedOb (o : Ob) : Bool := asCells o false fun _ _ _ _ _ t => closedTr t
def closedGr (h : Hp) : List Gr → Bool
  | [] => true
  | .keep f :: l => cnd (closedOb (hget f h)) (closedGr h l) false
  | _ :: l => closedGr h l
def grsB (sg : Sg) (h h' : Hp) : List Gr → Bool
  | [] => true
  | g :: l => cnd (grB sg h h' g) (grsB sg h h' l) false
def codes (h : Hp) : List Gr → List Code
  | [] => []
  | .loop f :: l => match hget f h with
    | .loop _ _ _ _ _ a b _ _ => a :: b :: codes h l
    | _ => codes h l
  | _ :: l => codes h l
def renCs (sg : Sg) : List Fr → List Fr → Bool
  | [], [] => true
  | .mk L td fi :: l, .mk L' _ fi' :: l' => cnd (renZ sg (.mk L L' td fi fi')) (renCs sg l l') false
  | _, _ => false
def maskA (a' a : AV) : AV := match a' with
  | .top => .top
  | _ => a
def N.map2 {α β γ : Type} (f : α → β → γ) (n : N α) (m : N β) : N γ :=
  N.rec (motive := fun _ => N γ) (fun a b c d e g i j => N.rec (motive := fun _ => N γ) (fun a' b' c' d' e' g' i' j' => .mk (f a a') (f b b') (f c c') (f d d') (f e e') (f g g') (f i i') (f j j')) m) n
def maskTm (t' t : Tm) : Tm := N.map2 (N.map2 (N.map2 maskA)) t' t
def maskLo (L' L : Lo) : Lo := match L', L with
  | .mk t' a' b' c', .mk t a b c => .mk (maskTm t' t) (maskA a' a) (maskA b' b) (maskA c' c)
def endB (E : Env) (sg : Sg) (ks : List Key) (gr : List Gr) (H c : Cfg) : Bool :=
  match H, c with
  | .mk L' td' fi' cs' h' nx', .mk L td fi cs h nx =>
    cnd (gcOk E ks (gcH ks h) (.mk (maskLo L' L) td fi cs h nx)) (cnd (renZ sg (.mk (maskLo L' L) L' td fi fi')) (cnd (renCs sg cs cs') (cnd (renObs sg (gr.map Gr.key) (gcH ks h) h' ks) (cnd (grsB sg h h' gr) (cnd (gmOk E.gm sg 64) (subK gr ks) false) false) false) false) false) false
where
  subK (gr : List Gr) (ks : List Key) : Bool := gr.all fun g => inKs g.key ks
abbrev Et := List (List Ci) × List Code × List Ob × Bool
def endE (E : Env) (sg : Sg) (ks : List Key) (gr : List Gr) (H c : Cfg) : Et := (c.tds, codes c.hp gr, obsOf c.hp gr, endB E sg ks gr H c)
def headE (gr : List Gr) (H : Cfg) : Et := (H.tds, codes H.hp gr, obsOf H.hp gr, true)
def turnT [Fk] (E : Env) (hd : Cfg → Bool) (n : Nat) (sg : Sg) (ks : List Key) (gr : List Gr) (H c : Cfg) : Option (List Et) :=
  opt (turnsC E hd n c) none fun l => some (l.map (endE E sg ks gr H))
end
end Go.Ev
