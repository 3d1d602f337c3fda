/- THE EVALUATOR, part 10 of 10: EvInit EvPiece EvCard EvArg -/
import Derived.Test.YtmaokndfmohdpaaGreatDoorEv9
import GoSem.ClaimJoined
import Derived.ChangeArms
import Derived.ChangeSame
import Derived.Carry
set_option linter.unusedVariables false
set_option linter.unusedSectionVars false
set_option linter.unusedSimpArgs false
namespace Go.Ev
noncomputable section
set_option linter.unusedSectionVars false
variable [Val]

/-! ## the laid variables, as the first heap -/
def flatF (E : Env) (go : TypeId → DataW Unit → Option (List AV)) : Nat → List (TypeId × Nat) → List (DataW Unit) → Option (List AV)
  | _, [], [] => some []
  | at_, (t, o) :: fs, d :: ds => bif Nat.beq o at_ then (match E.size t, go t d with
      | some n, some l => bif Nat.beq l.length n then (match flatF E go (at_ + n) fs ds with
          | some r => some (l ++ r)
          | none => none) else none
      | _, _ => none) else none
  | _, _, _ => none
/-- the cells of a datum, in order -/
def flatT (E : Env) : Nat → TypeId → DataW Unit → Option (List AV)
  | 0, _, _ => none
  | n + 1, t, d =>
    match E.und t, d with
    | some .bool, .lit (.bool b) => some [.bool b]
    | some (.int _), .lit (.int k n) => some [.int k n]
    | some .string, .lit (.string s) => some [.str (s.map UInt8.toNat)]
    | some (.struct fs), .agg ps => (match E.size t, flatF E (flatT E n) 0 (fs.toList.map fun f => (f.type, f.offset)) ps with
        | some n, some l => bif Nat.beq l.length n then some l else none
        | _, _ => none)
    | some (.array k e), .agg ps => (match E.size t, flatF E (flatT E n) 0 ((List.range k).map fun i => (e, i * E.P.cellsOf e)) ps with
        | some n, some l => bif Nat.beq l.length n then some l else none
        | _, _ => none)
    | _, _ => none

theorem mapM_cons_some {α β : Type} {f : α → Option β} {a : α} {as : List α} {xs : List β} (h : (a :: as).mapM f = some xs) : ∃ x r, f a = some x ∧ as.mapM f = some r ∧ xs = x :: r := by
  simp only [List.mapM_cons] at h
  cases hx : f a with
  | none => rw [hx] at h; simp at h
  | some x =>
    cases hr : as.mapM f with
    | none => rw [hx, hr] at h; simp at h
    | some r => rw [hx, hr] at h; simp at h; exact ⟨x, r, rfl, rfl, h.symm⟩

section
variable {E : Env} {P : Program} (hE : EnvOk E P) {w : World} {μ : Mu}
include hE
theorem EnvOk.cellsOf {t : TypeId} {n : Nat} (h : E.size t = some n) : P.cellsOf t = n := by
  obtain ⟨i, h1, h2⟩ := hE.size h
  simp [Program.cellsOf, h1, h2]

theorem flatF_sound {fuel : Nat} {go : TypeId → DataW Unit → Option (List AV)} {cs : List Value}
    (ih : ∀ t c d p l, DataW.trod (fun _ => ()) P w 0 (fun _ => true) false fuel t c = some (d, p) → go t d = some l → VRs μ l c) {α : Type} (τ : α → TypeId × Nat) :
    ∀ (as : List α) (at_ : Nat) (xs : List (DataW Unit × List MemPlace)) (l : List AV),
      as.mapM (fun a => DataW.trod (fun _ => ()) P w 0 (fun _ => true) false fuel (τ a).1 ((cs.drop (τ a).2).take (P.cellsOf (τ a).1))) = some xs →
      flatF E go at_ (as.map τ) (xs.map (·.1)) = some l → VRs μ l ((cs.drop at_).take l.length)
  | [], at_, xs, l, h, hl => by
    simp only [List.mapM_nil] at h
    cases h
    simp only [List.map_nil, flatF] at hl
    cases hl
    simp only [List.length_nil, List.take_zero]
    exact .nil
  | a :: as, at_, xs, l, h, hl => by
    obtain ⟨x, r, hx, hr, rfl⟩ := mapM_cons_some h
    rcases ht : τ a with ⟨t, o⟩
    simp only [List.map_cons, ht] at hl
    rw [ht] at hx
    replace hl : (bif Nat.beq o at_ then (match E.size t, go t x.1 with
          | some n, some l => bif Nat.beq l.length n then (match flatF E go (at_ + n) (as.map τ) (r.map (·.1)) with
              | some r => some (l ++ r)
              | none => none) else none
          | _, _ => none) else none) = some l := hl
    cases hb : Nat.beq o at_ with
    | false => rw [hb] at hl; cases hl
    | true =>
      rw [hb] at hl
      have ho : o = at_ := Nat.eq_of_beq_eq_true hb
      subst ho
      simp only [cond_true] at hl
      split at hl
      · rename_i n l1 hn hg
        cases hb2 : Nat.beq l1.length n with
        | false => rw [hb2] at hl; cases hl
        | true =>
          rw [hb2] at hl
          have hln : l1.length = n := Nat.eq_of_beq_eq_true hb2
          simp only [cond_true] at hl
          split at hl
          · rename_i l2 hf
            cases hl
            have i1 := ih _ _ x.1 x.2 l1 hx hg
            have i2 := flatF_sound ih τ as (o + n) r l2 hr hf
            rw [hE.cellsOf hn] at i1
            rw [List.length_append, List.take_add, hln, List.drop_drop]
            exact i1.append i2
          · cases hl
      · cases hl

omit hE in
theorem trod_structM {fuel : Nat} {t : TypeId} {fs : Array Field} {cs : List Value} {x : DataW Unit × List MemPlace} (hu : P.underlying t = some (.struct fs))
    (h : DataW.trod (fun _ => ()) P w 0 (fun _ => true) false (fuel + 1) t cs = some x) : cs.length = P.cellsOf t ∧ ∃ xs : List (DataW Unit × List MemPlace),
      fs.toList.mapM (fun f => DataW.trod (fun _ => ()) P w 0 (fun _ => true) false fuel f.type ((cs.drop f.offset).take (P.cellsOf f.type))) = some xs ∧ x.1 = .agg (xs.map (·.1)) := by
  unfold DataW.trod at h
  rw [hu] at h
  split at h <;> simp_all
  obtain ⟨hl, xs, hp, hd⟩ := h
  exact ⟨xs, hp, by rw [← hd]⟩
omit hE in
theorem trod_arrayM {fuel : Nat} {t e : TypeId} {n : Nat} {cs : List Value} {x : DataW Unit × List MemPlace} (hu : P.underlying t = some (.array n e))
    (h : DataW.trod (fun _ => ()) P w 0 (fun _ => true) false (fuel + 1) t cs = some x) : cs.length = P.cellsOf t ∧ ∃ xs : List (DataW Unit × List MemPlace),
      (List.range n).mapM (fun i => DataW.trod (fun _ => ()) P w 0 (fun _ => true) false fuel e ((cs.drop (i * P.cellsOf e)).take (P.cellsOf e))) = some xs ∧ x.1 = .agg (xs.map (·.1)) := by
  unfold DataW.trod at h
  rw [hu] at h
  split at h <;> simp_all
  obtain ⟨hl, xs, hp, hd⟩ := h
  exact ⟨xs, hp, by rw [← hd]⟩
theorem flatT_sound : ∀ (fuel n : Nat) (t : TypeId) (cs : List Value) (d : DataW Unit) (p : List MemPlace) (l : List AV),
    DataW.trod (fun _ => ()) P w 0 (fun _ => true) false fuel t cs = some (d, p) → flatT E n t d = some l → VRs μ l cs
  | 0, _, _, _, _, _, _, h, _ => by simp [DataW.trod] at h
  | fuel + 1, 0, _, _, _, _, _, _, h => by simp [flatT] at h
  | fuel + 1, n + 1, t, cs, d, p, l, h, hl => by
    unfold flatT at hl
    split at hl
    · rename_i b hu
      cases hl
      obtain ⟨b', rfl, e⟩ := DataW.trod_bool (hE.und hu) h
      simp only [Prod.mk.injEq, DataW.lit.injEq, Lit.bool.injEq] at e
      obtain ⟨rfl, _⟩ := e
      exact .cons (by simp only [VR]) .nil
    · rename_i k' k n' hu
      cases hl
      obtain ⟨m, rfl, e, _⟩ := DataW.trod_int (hE.und hu) h
      simp only [Prod.mk.injEq, DataW.lit.injEq, Lit.int.injEq] at e
      obtain ⟨⟨rfl, rfl⟩, _⟩ := e
      exact .cons (by simp only [VR]) .nil
    · rename_i b hu
      cases hl
      obtain ⟨s, rfl, e, _⟩ := DataW.trod_string (hE.und hu) h
      simp only [Prod.mk.injEq, DataW.lit.injEq, Lit.string.injEq] at e
      obtain ⟨rfl, _⟩ := e
      exact .cons (by simp only [VR]; exact ⟨s, rfl, rfl⟩) .nil
    · rename_i fs ps hu
      obtain ⟨hlen, xs, hp, hd⟩ := trod_structM (hE.und hu) h
      simp only [DataW.agg.injEq] at hd
      subst hd
      split at hl
      · rename_i k l' hk hf
        cases hb : Nat.beq l'.length k with
        | false => rw [hb] at hl; cases hl
        | true =>
          rw [hb] at hl
          have hln : l'.length = k := Nat.eq_of_beq_eq_true hb
          obtain rfl : l' = l := Option.some.inj hl
          have := flatF_sound hE (μ := μ) (cs := cs) (fun t c d p l h1 h2 => flatT_sound fuel n t c d p l h1 h2) (fun f : Field => (f.type, f.offset)) _ 0 xs l' hp hf
          rw [hE.cellsOf hk] at hlen
          rw [List.drop_zero, hln, ← hlen, List.take_length] at this
          exact this
      · cases hl
    · rename_i k e ps hu
      obtain ⟨hlen, xs, hp, hd⟩ := trod_arrayM (hE.und hu) h
      simp only [DataW.agg.injEq] at hd
      subst hd
      split at hl
      · rename_i k' l' hk hf
        cases hb : Nat.beq l'.length k' with
        | false => rw [hb] at hl; cases hl
        | true =>
          rw [hb] at hl
          have hln : l'.length = k' := Nat.eq_of_beq_eq_true hb
          obtain rfl : l' = l := Option.some.inj hl
          have hf' : flatF E (flatT E n) 0 ((List.range k).map fun i => (e, i * P.cellsOf e)) (xs.map (·.1)) = some l' := by rw [← hE.prog]; exact hf
          have := flatF_sound hE (μ := μ) (cs := cs) (fun t c d p l h1 h2 => flatT_sound fuel n t c d p l h1 h2) (fun i : Nat => (e, i * P.cellsOf e)) _ 0 xs l' hp hf'
          rw [hE.cellsOf hk] at hlen
          rw [List.drop_zero, hln, ← hlen, List.take_length] at this
          exact this
      · cases hl
    · cases hl
end

/-! ## the known variables -/
/-- a known variable: its number, the cells of a row, its cells -/
structure Gv where
  g : Nat
  sz : Nat
  l : List AV
def Gv.ob (x : Gv) : Ob := .cells true 0 x.sz (depthFor (x.l.length / x.sz) 25 0) (x.l.length / x.sz) (Tr.ofList (depthFor (x.l.length / x.sz) 25 0) (chunks x.sz (x.l.length / x.sz) x.l))
/-- the variable that stands at a place of the list -/
def ini1 (E : Env) (laid : List (String × DataW Unit)) (i sz : Nat) : Option Gv :=
  match laid[i]? with
  | some (n, d) => (match E.P.globalNamed n with
    | some g => (match (E.P.globals[g]?).map (·.type) with
      | some t => (match flatT E 8 t d with
        | some l => bif d.handleName?.isNone && Nat.blt 0 l.length && Nat.beq l.length ((l.length / sz) * sz) then some ⟨g, sz, l⟩ else none
        | none => none)
      | none => none)
    | none => none)
  | none => none
def iniAll (E : Env) (laid : List (String × DataW Unit)) : List (Nat × Nat) → Option (List Gv)
  | [] => some []
  | (i, sz) :: r => match ini1 E laid i sz, iniAll E laid r with
    | some x, some l => some (x :: l)
    | _, _ => none
def initH : List Gv → Hp
  | [] => hp0
  | x :: l => hset (Key.ofNat x.g) x.ob (initH l)
def initMu (gs : List Gv) : Mu := fun f g => bif Nat.beq g 0 then (gs.find? fun x => Key.beq (Key.ofNat x.g) f).map fun x => (x.g, 0, x.l.length) else none
/-- the known variables hold what is known -/
def IniR (gs : List Gv) (W : World) : Prop := ∀ x ∈ gs, x.l.length = (x.l.length / x.sz) * x.sz ∧ ∃ cs e, W.heap[x.g]? = some (.cells cs e (0, 0)) ∧ ∀ μ, VRs μ x.l cs.toList
theorem IniR.ext {gs : List Gv} {W w : World} (h : IniR gs W) (he : Ext W.heap.size W w) : IniR gs w := fun x hx => by
  obtain ⟨h1, cs, e, h2, h3⟩ := h x hx
  have hlt : x.g < W.heap.size := (Array.getElem?_eq_some_iff.1 h2).1
  exact ⟨h1, cs, e, by rw [he.block _ hlt]; exact h2, h3⟩

theorem initH_get (gs : List Gv) (f : Key) : hget f (initH gs) = match gs.find? (fun x => Key.beq (Key.ofNat x.g) f) with | some x => x.ob | none => .none := by
  induction gs with
  | nil => exact hget_hp0 f
  | cons x l ih =>
    simp only [initH, List.find?_cons]
    cases hb : Key.beq (Key.ofNat x.g) f with
    | true => rw [Key.beq_eq hb]; exact hget_hset _ _ _
    | false => rw [hget_hset_ne (Key.beq_ne hb)]; exact ih

theorem initMu_some {gs : List Gv} {f : Key} {g b s n : Nat} (h : initMu gs f g = some (b, s, n)) :
    ∃ x ∈ gs, gs.find? (fun x => Key.beq (Key.ofNat x.g) f) = some x ∧ g = 0 ∧ b = x.g ∧ s = 0 ∧ n = x.l.length ∧ f = Key.ofNat b := by
  unfold initMu at h
  cases hb : Nat.beq g 0 with
  | false => rw [hb] at h; cases h
  | true =>
    rw [hb] at h
    replace h : (gs.find? fun x => Key.beq (Key.ofNat x.g) f).map (fun x => (x.g, 0, x.l.length)) = some (b, s, n) := h
    rw [Option.map_eq_some_iff] at h
    obtain ⟨x, hx, e⟩ := h
    cases e
    have h1 := List.find?_some hx
    exact ⟨x, List.mem_of_find?_eq_some hx, hx, Nat.eq_of_beq_eq_true hb, rfl, rfl, rfl, (Key.beq_eq h1).symm⟩

theorem ini_HR {gs : List Gv} {W : World} (h : IniR gs W) (B : Nat) : HR B (initMu gs) (initH gs) W := by
  refine ⟨fun f g b s n f' g' s' n' h1 h2 => ?_, fun f g b s n h1 => ?_, fun f => ?_, fun f g g' b s n s' n' h1 h2 hg => by
    obtain ⟨_, _, _, e1, _⟩ := initMu_some h1
    obtain ⟨_, _, _, e2, _⟩ := initMu_some h2
    omega⟩
  · obtain ⟨x, _, hx, _, hb, hs, hn, hf⟩ := initMu_some h1
    obtain ⟨y, _, hy, _, hb', hs', hn', hf'⟩ := initMu_some h2
    have : f = f' := hf.trans hf'.symm
    subst this
    rw [hx] at hy
    cases hy
    exact ⟨rfl, by rw [hs, hs'], by rw [hn, hn']⟩
  · obtain ⟨x, hm, _, _, hb, _, _, _⟩ := initMu_some h1
    obtain ⟨_, cs, e, h2, _⟩ := h x hm
    rw [hb]
    exact (Array.getElem?_eq_some_iff.1 h2).1
  · rw [initH_get]
    cases hf : gs.find? (fun x => Key.beq (Key.ofNat x.g) f) with
    | none =>
      intro g
      unfold initMu
      rw [hf]
      cases Nat.beq g 0 <;> rfl
    | some x =>
      obtain ⟨h1, cs, e, h2, h3⟩ := h x (List.mem_of_find?_eq_some hf)
      refine ⟨⟨Tr.ofList_wf _ _, fun r hr => ?_⟩, ⟨fun g hg => ?_, fun r l gw hg => ?_⟩, fun g b s n hm => ?_⟩
      · cases hg : (Tr.ofList (depthFor (x.l.length / x.sz) 25 0) (chunks x.sz (x.l.length / x.sz) x.l)).get r with
        | none => rfl
        | some y =>
          have := Tr.ofList_some _ _ _ _ hg
          have := (List.getElem?_eq_some_iff.1 this).1
          rw [chunks_length] at this; omega
      · unfold initMu
        cases hb : Nat.beq g 0 with
        | false => rfl
        | true => have := Nat.eq_of_beq_eq_true hb; omega
      · rw [(chunks_get _ _ _ _ _ _ (Tr.ofList_some _ _ _ _ hg)).2.1]; exact Nat.zero_le _
      · obtain ⟨y, _, hy, hg0, hb, hs, hn, _⟩ := initMu_some hm
        rw [hf] at hy
        cases hy
        subst hb hs hn
        refine ⟨fun hh => (by cases hh), Nat.zero_mod _, cs, e, (0, 0), h2, Or.inl rfl, ?_, fun r l gw hr _ _ => ?_⟩
        · have := (h3 (initMu gs)).length; simpa using this.symm
        · exact chunk_row h1 (.of (h3 _)) (Tr.ofList_some _ _ _ _ hr)

/-- the bits of the known variables -/
def bitsOk (m : Nat) (gs : List Gv) : Bool := Nat.blt m (2 ^ 64) && (List.range 64).all fun g => bif inM m g then (match gs.find? fun x => Key.beq (Key.ofNat x.g) (Key.ofNat g) with | some x => Nat.beq x.g g | none => false) else true
theorem ini_GR {E : Env} {gs : List Gv} (h : bitsOk E.gm gs = true) : GR E (initMu gs) := by
  intro g hg
  unfold bitsOk at h
  simp only [Bool.and_eq_true, List.all_eq_true, List.mem_range] at h
  obtain ⟨h1, h2⟩ := h
  have hlt : g < 64 := by
    rcases Nat.lt_or_ge g 64 with h' | h'
    · exact h'
    · exfalso
      have e1 : Nat.land E.gm (Nat.pow 2 g) = Nat.pow 2 g := Nat.eq_of_beq_eq_true hg
      have e2 : E.gm &&& 2 ^ g ≤ E.gm := Nat.and_le_left
      have e3 : E.gm &&& 2 ^ g = 2 ^ g := e1
      have e4 : E.gm < 2 ^ 64 := by simpa [Nat.blt_eq] using h1
      have e5 : 2 ^ 64 ≤ 2 ^ g := Nat.pow_le_pow_right (by decide) h'
      omega
  have := h2 g hlt
  have hg' : inM E.gm g = true := hg
  rw [hg'] at this
  replace this : (match gs.find? fun x => Key.beq (Key.ofNat x.g) (Key.ofNat g) with | some x => Nat.beq x.g g | none => false) = true := this
  split at this
  · rename_i x hx
    have e := Nat.eq_of_beq_eq_true this
    refine ⟨x.l.length, ?_⟩
    unfold initMu
    rw [hx, ← e]
    rfl
  · cases this

section
variable {E : Env} {P : Program} (hE : EnvOk E P) {W : World}
include hE
omit hE in
theorem laidVars_mem {n : String} {d : DataW Unit} : ∀ {laid : List (String × DataW Unit)} {ps : List MemPlace}, DataW.LaidVars P W laid ps → (n, d) ∈ laid →
    ∃ g t cs fuel p, P.globalNamed n = some g ∧ (P.globals[g]?).map (·.type) = some t ∧ W.var? P n = some cs ∧ DataW.trod (fun _ => ()) P W 0 (fun _ => true) false fuel t cs.toList = some (d, p) ∧
      ∀ q ∈ MemPlace.row ⟨g, 0, none⟩ cs.size, q ∈ ps
  | [], _, _, h => by cases h
  | (m, d') :: r, ps, hl, h => by
    obtain ⟨g, t, cs, fuel, p, q, h1, h2, h3, h4, h5, e⟩ := hl
    rcases List.mem_cons.1 h with h | h
    · cases h
      exact ⟨g, t, cs, fuel, p, h1, h2, h3, h4, fun x hx => by rw [e]; simp [hx]⟩
    · obtain ⟨g', t', cs', fuel', p', a1, a2, a3, a4, a5⟩ := laidVars_mem h5 h
      exact ⟨g', t', cs', fuel', p', a1, a2, a3, a4, fun x hx => by rw [e]; simp [a5 x hx]⟩

omit hE in
theorem laidMetH_data {laid : List (String × DataW Unit)} (h : laidMetH P laid W) : laidMet P (laid.filter fun x => x.2.handleName?.isNone) W := by
  unfold laidMetH at h
  split at h
  · rename_i hn
    have : (laid.filter fun x => x.2.handleName?.isNone) = laid := by
      rw [List.filter_eq_self]
      intro x hx
      rw [List.filter_eq_nil_iff] at hn
      have := hn x hx
      cases hh : x.2.handleName? with
      | none => rfl
      | some y => rw [hh] at this; exact absurd rfl this
    rw [this]; exact h
  · exact h.1

theorem ini_met {laid : List (String × DataW Unit)} (h : laidMetH P laid W) : ∀ {ks : List (Nat × Nat)} {gs : List Gv}, iniAll E laid ks = some gs → IniR gs W
  | [], gs, hg => by simp only [iniAll] at hg; cases hg; intro x hx; cases hx
  | (i, sz) :: r, gs, hg => by
    simp only [iniAll] at hg
    split at hg
    · rename_i x l h1 h2
      cases hg
      have ih := ini_met h h2
      intro y hy
      rcases List.mem_cons.1 hy with rfl | hy
      · unfold ini1 at h1
        split at h1
        · rename_i n d hi
          split at h1
          · rename_i g hn
            split at h1
            · rename_i t ht
              split at h1
              · rename_i l' hl
                have key : ∀ b : Bool, (bif b then some (Gv.mk g sz l') else none) = some y → b = true ∧ y = ⟨g, sz, l'⟩ := fun b hb => by cases b with | false => cases hb | true => cases hb; exact ⟨rfl, rfl⟩
                obtain ⟨hb, rfl⟩ := key _ h1
                simp only [Bool.and_eq_true] at hb
                obtain ⟨⟨b1, b2⟩, b3⟩ := hb
                have hmem : (n, d) ∈ laid.filter fun x => x.2.handleName?.isNone := by
                  rw [List.mem_filter]
                  exact ⟨List.mem_of_getElem? hi, b1⟩
                obtain ⟨ps, m1, m2, m3⟩ := laidMetH_data h
                obtain ⟨g', t', cs, fuel, p, a1, a2, a3, a4, a5⟩ := laidVars_mem m1 hmem
                rw [hE.prog] at hn ht
                rw [hn] at a1
                cases a1
                rw [ht] at a2
                cases a2
                have hv : ∀ μ, VRs μ l' cs.toList := fun μ => flatT_sound hE _ _ _ _ _ _ _ a4 hl
                have hlen := (hv (fun _ _ => none)).length
                have hpos : 0 < l'.length := by simpa [Nat.blt_eq] using b2
                refine ⟨Nat.eq_of_beq_eq_true b3, ?_⟩
                have hcell : MemPlace.cell g 0 ∈ ps := a5 _ (by
                  simp only [Array.length_toList] at hlen
                  simp [MemPlace.row]
                  omega)
                obtain ⟨⟨c, e, hc⟩, _⟩ := m3 _ _ hcell
                unfold World.var? at a3
                rw [hn] at a3
                simp only [Option.bind_some, hc, Option.some.injEq] at a3
                subst a3
                exact ⟨_, e, hc, hv⟩
              · cases h1
            · cases h1
          · cases h1
        · cases h1
      · exact ih y hy
    · cases hg
end

/-! ## the environment -/
def namesOk (fs : List Func) : Bool := fs.all fun f => bif f.body.isSome then bnot (f.name == "runtime.NumGoroutine") else true
theorem envOk {P : Program} {sum gm root : Nat} (hn : namesOk P.funcs.toList = true) (hm : P.follows .mixedOrders = true) : EnvOk { Env.of P sum gm with root := root } P where
  prog := rfl
  ts := fun t i h => by
    have := Tr.ofList_some _ _ _ _ h
    have h1 : P.types[t]? = some i := by simpa using this
    have h2 : t < P.types.size := (Array.getElem?_eq_some_iff.1 h1).1
    show Tables.info? P.toTables t = some i
    unfold Tables.info?
    rw [if_pos h2]
    exact h1
  fs := fun f fn h => by
    have := Tr.ofList_some _ _ _ _ h
    simpa using this
  names := fun f fn h hb => by
    have := Tr.ofList_some _ _ _ _ h
    have hm := List.mem_of_getElem? this
    unfold namesOk at hn
    rw [List.all_eq_true] at hn
    have := hn _ hm
    rw [hb] at this
    replace this : bnot (fn.name == "runtime.NumGoroutine") = true := this
    cases h : fn.name == "runtime.NumGoroutine" with
    | true => rw [h] at this; cases this
    | false => rfl
  mixed := hm

/-- memory with named numbers -/
def initHv (gs : List Gv) (ivs : List (Key × Int × Int)) : Hp := ivs.foldl (fun h x => hset x.1 (.iv x.2.1 x.2.2) h) (initH gs)
def ivsOk (gs : List Gv) (ivs : List (Key × Int × Int)) : Bool := ivs.all fun x => gs.all fun y => bnot (Key.beq (Key.ofNat y.g) x.1)
theorem ini_HRv {gs : List Gv} {W : World} (h : IniR gs W) {B : Nat} : ∀ {ivs : List (Key × Int × Int)} {h0 : Hp}, HR B (initMu gs) h0 W → ivsOk gs ivs = true → (∀ x ∈ ivs, x.2.1 ≤ Val.n x.1 ∧ Val.n x.1 ≤ x.2.2) →
    HR B (initMu gs) (ivs.foldl (fun h x => hset x.1 (.iv x.2.1 x.2.2) h) h0) W
  | [], h0, k, _, _ => k
  | x :: ivs, h0, k, hok, hv => by
    unfold ivsOk at hok
    rw [List.all_cons, Bool.and_eq_true] at hok
    refine ini_HRv h (ivs := ivs) ?_ hok.2 fun y hy => hv y (List.mem_cons_of_mem _ hy)
    refine ⟨k.inj, k.lt, fun f' => ?_, k.side⟩
    by_cases e : x.1 = f'
    · subst e
      rw [hget_hset]
      refine ⟨fun g => ?_, hv x (List.mem_cons_self ..)⟩
      cases hm : initMu gs x.1 g with
      | none => rfl
      | some y =>
        obtain ⟨b, s, n⟩ := y
        obtain ⟨z, hz, _, _, e1, _, _, e⟩ := initMu_some hm
        have := List.all_eq_true.1 hok.1 z hz
        rw [e, e1, Key.beq_refl] at this
        cases this
    · rw [hget_hset_ne e]; exact k.obj f'
/-- the same with named numbers -/
theorem ini_callsV {E : Env} {P : Program} (hE : EnvOk E P) {gs : List Gv} {W : World} (hi : IniR gs W) (hb : bitsOk E.gm gs = true)
    (hS : hasBody E E.sum = true → ∀ w, IniR gs w → Calls P E.sum #[] w (fun e w' => e = .returned (.bool true) ∧ Ext w.heap.size w w')) {n : Nat} {vs : List AV} {args : Array Value} {nx : Key}
    {ivs : List (Key × Int × Int)} (hok : ivsOk gs ivs = true) (hiv : ∀ x ∈ ivs, x.2.1 ≤ Val.n x.1 ∧ Val.n x.1 ≤ x.2.2)
    (hv : ∀ μ, VRs μ vs args.toList) (hrun : startB E n E.root vs (initHv gs ivs) nx = true) :
    Calls P E.root args W (fun e w' => e = .returned (.bool true) ∧ Ext W.heap.size W w') :=
  ev_calls hE (fun cs w he hbd => hS hbd w (hi.ext he)) (hv _) (ini_HRv hi (ini_HR hi _) hok hiv) (ini_GR hb) hrun

/-- A RUN THAT COMES TO true, at a world where the known variables hold what is known -/
theorem ini_calls {E : Env} {P : Program} (hE : EnvOk E P) {gs : List Gv} {W : World} (hi : IniR gs W) (hb : bitsOk E.gm gs = true)
    (hS : hasBody E E.sum = true → ∀ w, IniR gs w → Calls P E.sum #[] w (fun e w' => e = .returned (.bool true) ∧ Ext w.heap.size w w')) {n : Nat} {vs : List AV} {args : Array Value} {nx : Key}
    (hv : ∀ μ, VRs μ vs args.toList) (hrun : startB E n E.root vs (initH gs) nx = true) :
    Calls P E.root args W (fun e w' => e = .returned (.bool true) ∧ Ext W.heap.size W w') :=
  ev_calls hE (fun cs w he hbd => hS hbd w (hi.ext he)) (hv _) (ini_HR hi _) (ini_GR hb) hrun
end
end Go.Ev


namespace Go.Ev
noncomputable section
set_option linter.unusedSectionVars false
/-! a long run in pieces: the states between them stand as text -/
def startC (E : Env) (n : Nat) (f : Nat) (vs : List AV) (h : Hp) (nx : Key) : Sp :=
  Sp.rec (motive := fun _ => Sp) (fun c => runC E n c) (fun v => .done v) (fun l => .br l) .fail (enter E f vs false [] h nx)

theorem run_succ (E : Env) (n : Nat) (c : Cfg) : run E (n + 1) c = match step E c with
    | .go c' => run E n c'
    | .done v => asBool v false fun b => b
    | .br l => allB (run E n) l
    | .fail => false := by
  show Sp.rec (motive := fun _ => Bool) _ _ _ _ (step E c) = _
  cases step E c <;> rfl
theorem runC_succ (E : Env) (n : Nat) (c : Cfg) : runC E (n + 1) c = match step E c with
    | .go c' => runC E n c'
    | s => s := by
  show Sp.rec (motive := fun _ => Sp) _ _ _ _ (step E c) = _
  cases step E c <;> rfl
theorem run_split {E : Env} : ∀ {n m : Nat} {c c' : Cfg}, runC E n c = .go c' → run E m c' = true → run E (n + m) c = true
  | 0, m, c, c', h, k => by
    have : c = c' := by
      have h' : Sp.go c = Sp.go c' := h
      cases h'; rfl
    subst this
    rw [Nat.zero_add]; exact k
  | n + 1, m, c, c', h, k => by
    rw [runC_succ] at h
    rw [show n + 1 + m = (n + m) + 1 from by omega, run_succ]
    split at h
    · rename_i c1 h1
      rw [h1]; exact run_split h k
    · rename_i s hs
      exact absurd h (hs c')
theorem startB_split {E : Env} {n m f : Nat} {vs : List AV} {h : Hp} {nx : Key} {c' : Cfg} (hs : startC E n f vs h nx = .go c') (k : run E m c' = true) : startB E (n + m) f vs h nx = true := by
  unfold startC at hs
  unfold startB
  cases hen : enter E f vs false [] h nx with
  | go c => rw [hen] at hs; exact run_split hs k
  | _ => rw [hen] at hs; cases hs
/-! short words for states that stand as text -/
def I (n : Nat) : AV := .int .i64 (.ofNat n)
def U (n : Nat) : AV := .int .u8 (.ofNat n)
def O1 : N Ob := N.all .none
def O2 : N (N Ob) := N.all O1
def O3 : N (N (N Ob)) := N.all O2
def O4 : N (N (N (N Ob))) := N.all O3
def T1 : N AV := N.all .top
def T2 : N (N AV) := N.all T1
def bodyL (E : Env) (f : Nat) : List Ci := opt (compBody E f) [] fun b => b
def nthC : List Ci → Nat → Ci
  | [], _ => .bad
  | c :: _, 0 => c
  | _ :: l, n + 1 => nthC l n
def inA : Ci → List Ci
  | .cond _ a _ => a
  | .block _ b => b
  | .loop b => b
  | _ => []
def inB : Ci → List Ci
  | .cond _ _ b => b
  | _ => []
def regL : Ci → List Ins
  | .reg l => l
  | .mid l => l
  | _ => []
def scC : Ci → Code
  | .scope c => c
  | _ => .ret
def inS (E : Env) (f : Nat) : Ci → List Ci
  | .scope c => compC E (cxOf E f) [] c
  | _ => []
/-- what is assigned, and the body, of a range over a function -/
def rfA : Ci → Code
  | .rangeF _ _ a _ => a
  | _ => .ret
def rfB : Ci → Code
  | .rangeF _ _ _ b => b
  | _ => .ret
def dropC : Nat → List Ci → List Ci
  | 0, l => l
  | _ + 1, [] => []
  | n + 1, _ :: l => dropC n l
def dropI : Nat → List Ins → List Ins
  | 0, l => l
  | _ + 1, [] => []
  | n + 1, _ :: l => dropI n l
end
end Go.Ev


namespace Go.Ev
set_option linter.unusedSectionVars false
variable [Val]
/-! what a run that leaves what was there says of a row's post -/
theorem keptBut_of_ext {W W' : World} (he : Ext W.heap.size W W') (may : MemPlace → Prop) : W.keptBut W' may := by
  refine ⟨he.os, he.output, fun i hi => ?_⟩
  rw [he.block i hi]
  cases W.heap[i]? with
  | none => rfl
  | some o => cases o <;> first | exact ⟨rfl, rfl, rfl, fun _ _ => rfl⟩ | exact .inr ⟨rfl, rfl⟩ | rfl
theorem post_of_ext {H : Type} {enc : TypeId × Value → H} {P : Program} {f : Func} {s : ChangeSpec} {apart fresh handsOn : Bool} {W W' : World} {args : Array Value} {v : Value} {ds gs : List (DataW H)} {before pa pv : List MemPlace}
    (hW : DataW.Whole enc P f.params.toList s.vars apart W args.toList ds gs before)
    (hres : ∀ (b : Nat) (sp : Nat → Bool) (hd : Bool), DataW.TrodAll enc P W' b sp hd f.resultTypes.toList (v.resultList f.resultTypes.size) (s.fn H (ds ++ gs)).results [])
    (hargs : ∀ sp : Nat → Bool, (∀ p ∈ before, sp p.block = true) → DataW.TrodAll enc P W' 0 sp true f.params.toList args.toList (s.fn H (ds ++ gs)).args pa)
    (hvars : ∀ sp : Nat → Bool, (∀ p ∈ before, sp p.block = true) → DataW.TrodVars enc P W' sp s.vars (s.fn H (ds ++ gs)).vars pv)
    (he : Ext W.heap.size W W') : s.post enc P f apart fresh handsOn false W args v W' := by
  have hold : ∀ p ∈ before, (fun b => decide (b < W.heap.size)) p.block = true := fun p hp => by simpa using hW.lt p hp
  exact ⟨ds, gs, before, [], pa, pv, hW, hres _ _ _, hargs _ hold, hvars _ hold, keptBut_of_ext he _, fun h => by cases h⟩
end Go.Ev


namespace Go.Ev
noncomputable section
set_option linter.unusedVariables false
set_option linter.unusedSectionVars false
variable [Val]
/-! what any argument of a plain type is -/
def absF (E : Env) (go : TypeId → Option (List AV)) : Nat → List (TypeId × Nat) → Option (List AV)
  | _, [] => some []
  | at_, (t, o) :: fs => bif Nat.beq o at_ then (match E.size t, go t with
      | some n, some l => bif Nat.beq l.length n then (match absF E go (at_ + n) fs with
          | some r => some (l ++ r)
          | none => none) else none
      | _, _ => none) else none
/-- the cells of any value of a type -/
def absT (E : Env) : Nat → TypeId → Option (List AV)
  | 0, _ => none
  | n + 1, t =>
    match E.und t with
    | some .bool => some [.ub]
    | some (.int .i64) => some [.rng .i64 (-9223372036854775808) 9223372036854775807]
    | some (.int .u8) => some [.rng .u8 0 255]
    | some (.int _) => some [.any]
    | some .string => some [.any]
    | some (.slice _) => some [.sl 0 9223372036854775807]
    | some (.struct fs) => (match E.size t, absF E (absT E n) 0 (fs.toList.map fun f => (f.type, f.offset)) with
        | some n, some l => bif Nat.beq l.length n then some l else none
        | _, _ => none)
    | some (.array k e) => (match E.size t, absF E (absT E n) 0 ((List.range k).map fun i => (e, i * E.P.cellsOf e)) with
        | some n, some l => bif Nat.beq l.length n then some l else none
        | _, _ => none)
    | _ => none
section
variable {E : Env} {P : Program} (hE : EnvOk E P) {w : World} {μ : Mu} {H : Type} {enc : TypeId × Value → H} {base : Nat} {sp : Nat → Bool} {held : Bool}
include hE
theorem absF_sound {fuel : Nat} {go : TypeId → Option (List AV)} {cs : List Value}
    (ih : ∀ t c x l, DataW.trod enc P w base sp held fuel t c = some x → go t = some l → VRs μ l c) {α : Type} (τ : α → TypeId × Nat) :
    ∀ (as : List α) (at_ : Nat) (xs : List (DataW H × List MemPlace)) (l : List AV),
      as.mapM (fun a => DataW.trod enc P w base sp held fuel (τ a).1 ((cs.drop (τ a).2).take (P.cellsOf (τ a).1))) = some xs →
      absF E go at_ (as.map τ) = some l → VRs μ l ((cs.drop at_).take l.length)
  | [], at_, xs, l, h, hl => by
    simp only [List.map_nil, absF] at hl
    cases hl
    simp only [List.length_nil, List.take_zero]
    exact .nil
  | a :: as, at_, xs, l, h, hl => by
    obtain ⟨x, r, hx, hr, rfl⟩ := mapM_cons_some h
    rcases ht : τ a with ⟨t, o⟩
    simp only [List.map_cons, ht] at hl
    rw [ht] at hx
    replace hl : (bif Nat.beq o at_ then (match E.size t, go t with
          | some n, some l => bif Nat.beq l.length n then (match absF E go (at_ + n) (as.map τ) with
              | some r => some (l ++ r)
              | none => none) else none
          | _, _ => none) else none) = some l := hl
    cases hb : Nat.beq o at_ with
    | false => rw [hb] at hl; cases hl
    | true =>
      rw [hb] at hl
      have ho : o = at_ := Nat.eq_of_beq_eq_true hb
      subst ho
      simp only [cond_true] at hl
      split at hl
      · rename_i n l1 hn hg
        cases hb2 : Nat.beq l1.length n with
        | false => rw [hb2] at hl; cases hl
        | true =>
          rw [hb2] at hl
          have hln : l1.length = n := Nat.eq_of_beq_eq_true hb2
          simp only [cond_true] at hl
          split at hl
          · rename_i l2 hf
            cases hl
            have i1 := ih _ _ x l1 hx hg
            have i2 := absF_sound ih τ as (o + n) r l2 hr hf
            rw [hE.cellsOf hn] at i1
            rw [List.length_append, List.take_add, hln, List.drop_drop]
            exact i1.append i2
          · cases hl
      · cases hl

omit hE in
theorem trod_structG {fuel : Nat} {t : TypeId} {fs : Array Field} {cs : List Value} {x : DataW H × List MemPlace} (hu : P.underlying t = some (.struct fs))
    (h : DataW.trod enc P w base sp held (fuel + 1) t cs = some x) : cs.length = P.cellsOf t ∧ ∃ xs : List (DataW H × List MemPlace),
      fs.toList.mapM (fun f => DataW.trod enc P w base sp held fuel f.type ((cs.drop f.offset).take (P.cellsOf f.type))) = some xs := by
  unfold DataW.trod at h
  rw [hu] at h
  split at h <;> simp_all
  obtain ⟨hl, xs, hp, hd⟩ := h
  exact ⟨xs, hp⟩
omit hE in
theorem trod_arrayG {fuel : Nat} {t e : TypeId} {n : Nat} {cs : List Value} {x : DataW H × List MemPlace} (hu : P.underlying t = some (.array n e))
    (h : DataW.trod enc P w base sp held (fuel + 1) t cs = some x) : cs.length = P.cellsOf t ∧ ∃ xs : List (DataW H × List MemPlace),
      (List.range n).mapM (fun i => DataW.trod enc P w base sp held fuel e ((cs.drop (i * P.cellsOf e)).take (P.cellsOf e))) = some xs := by
  unfold DataW.trod at h
  rw [hu] at h
  split at h <;> simp_all
  obtain ⟨hl, xs, hp, hd⟩ := h
  exact ⟨xs, hp⟩

theorem absT_sound : ∀ (fuel n : Nat) (t : TypeId) (cs : List Value) (x : DataW H × List MemPlace) (l : List AV),
    DataW.trod enc P w base sp held fuel t cs = some x → absT E n t = some l → VRs μ l cs
  | 0, _, _, _, _, _, h, _ => by simp [DataW.trod] at h
  | fuel + 1, 0, _, _, _, _, _, h => by simp [absT] at h
  | fuel + 1, n + 1, t, cs, x, l, h, hl => by
    unfold absT at hl
    split at hl
    · rename_i hu
      cases hl
      obtain ⟨b', rfl, _⟩ := DataW.trod_bool (hE.und hu) h
      exact .cons (by simp only [VR]; exact ⟨_, rfl⟩) .nil
    · rename_i hu
      cases hl
      obtain ⟨m, rfl, _, hw⟩ := DataW.trod_int (hE.und hu) h
      simp only [Lit.wf, Bool.and_eq_true, decide_eq_true_eq] at hw
      exact .cons (by simp only [VR]; exact ⟨m, rfl, hw.1, hw.2⟩) .nil
    · rename_i hu
      cases hl
      obtain ⟨m, rfl, _, hw⟩ := DataW.trod_int (hE.und hu) h
      simp only [Lit.wf, Bool.and_eq_true, decide_eq_true_eq] at hw
      exact .cons (by simp only [VR]; exact ⟨m, rfl, hw.1, hw.2⟩) .nil
    · rename_i k hu
      cases hl
      obtain ⟨m, rfl, _, hw⟩ := DataW.trod_int (hE.und hu) h
      exact .cons (by simp only [VR]; exact trivial) .nil
    · rename_i hu
      cases hl
      obtain ⟨s, rfl, _⟩ := DataW.trod_string (hE.und hu) h
      exact .cons (by simp only [VR]; exact trivial) .nil
    · rename_i el hu
      cases hl
      rcases DataW.trod_slice (hE.und hu) h with ⟨rfl, _⟩ | ⟨a, len, cap, elems, rest, n', _, rfl, _, _, h1, h2, _⟩
      · exact .cons (by simp only [VR]; exact ⟨none, 0, 0, rfl, Nat.zero_le _, Nat.zero_le _⟩) .nil
      · have h3 : maxLen = 9223372036854775807 := by decide
        exact .cons (by simp only [VR]; exact ⟨some a, len, cap, rfl, Nat.zero_le _, by omega⟩) .nil
    · rename_i fs hu
      obtain ⟨hlen, xs, hp⟩ := trod_structG (hE.und hu) h
      split at hl
      · rename_i k l' hk hf
        cases hb : Nat.beq l'.length k with
        | false => rw [hb] at hl; cases hl
        | true =>
          rw [hb] at hl
          have hln : l'.length = k := Nat.eq_of_beq_eq_true hb
          obtain rfl : l' = l := Option.some.inj hl
          have := absF_sound hE (μ := μ) (cs := cs) (fun t c x l h1 h2 => absT_sound fuel n t c x l h1 h2) (fun f : Field => (f.type, f.offset)) _ 0 xs l' hp hf
          rw [hE.cellsOf hk] at hlen
          rw [List.drop_zero, hln, ← hlen, List.take_length] at this
          exact this
      · cases hl
    · rename_i k e hu
      obtain ⟨hlen, xs, hp⟩ := trod_arrayG (hE.und hu) h
      split at hl
      · rename_i k' l' hk hf
        cases hb : Nat.beq l'.length k' with
        | false => rw [hb] at hl; cases hl
        | true =>
          rw [hb] at hl
          have hln : l'.length = k' := Nat.eq_of_beq_eq_true hb
          obtain rfl : l' = l := Option.some.inj hl
          have hf' : absF E (absT E n) 0 ((List.range k).map fun i => (e, i * P.cellsOf e)) = some l' := by rw [← hE.prog]; exact hf
          have := absF_sound hE (μ := μ) (cs := cs) (fun t c x l h1 h2 => absT_sound fuel n t c x l h1 h2) (fun i : Nat => (e, i * P.cellsOf e)) _ 0 xs l' hp hf'
          rw [hE.cellsOf hk] at hlen
          rw [List.drop_zero, hln, ← hlen, List.take_length] at this
          exact this
      · cases hl
    · cases hl

/-- an argument of a struct's or array's type -/
theorem absV_sound {r : Reach} {b0 n : Nat} {t : TypeId} {v : Value} {d : DataW H} {ps : List MemPlace} {l : List AV} (ha : (match E.und t with | some td => isAggT td | none => false) = true)
    (hok : Value.okWide P w r b0 t v) (h : DataW.Trod enc P w base sp held t v d ps) (hl : absT E n t = some l) : VR μ (.agg l) v := by
  obtain ⟨fuel, hf⟩ := h
  obtain ⟨td, hu, ha⟩ : ∃ td, E.und t = some td ∧ isAggT td = true := by
    split at ha
    · rename_i td hu; exact ⟨td, hu, ha⟩
    · cases ha
  have hv : ∃ cs, v = .agg cs := by
    unfold Value.okWide at hok
    rw [hE.und hu] at hok
    cases td <;> first | (obtain ⟨cs, e, _⟩ := hok; exact ⟨cs, e⟩) | cases ha
  obtain ⟨cs, rfl⟩ := hv
  simp only [VR]
  exact ⟨cs, rfl, absT_sound hE _ _ _ _ _ _ hf hl⟩
end

theorem below_of_ext {B : Nat} {W W' : World} (he : Ext B W W') : Go.RowKit.Below B W W' := ⟨he.os, he.tape, he.output, he.size, he.block⟩
/-- as post_of_ext: the arguments read as they did, at what was there -/
theorem post_of_ext' {H : Type} {enc : TypeId × Value → H} {P : Program} {f : Func} {s : ChangeSpec} {apart fresh handsOn : Bool} {W W' : World} {args : Array Value} {v : Value} {ds gs : List (DataW H)} {before pa pv : List MemPlace}
    (hW : DataW.Whole enc P f.params.toList s.vars apart W args.toList ds gs before)
    (hres : ∀ (b : Nat) (sp : Nat → Bool) (hd : Bool), DataW.TrodAll enc P W' b sp hd f.resultTypes.toList (v.resultList f.resultTypes.size) (s.fn H (ds ++ gs)).results [])
    (hargs : DataW.TrodAll enc P W' 0 (fun b => decide (b < W.heap.size)) true f.params.toList args.toList (s.fn H (ds ++ gs)).args pa)
    (hvars : DataW.TrodVars enc P W' (fun b => decide (b < W.heap.size)) s.vars (s.fn H (ds ++ gs)).vars pv)
    (he : Ext W.heap.size W W') : s.post enc P f apart fresh handsOn false W args v W' :=
  ⟨ds, gs, before, [], pa, pv, hW, hres _ _ _, hargs, hvars, keptBut_of_ext he _, fun h => by cases h⟩
end
end Go.Ev
