/- THE EVALUATOR, part 12 of 13: EvTurn2 EvLst EvLst2 EvSame EvSame2 EvSame3 EvSame4 EvSame5 EvSame6 EvSame7 -/
import Derived.Test.YtiofeejnmnfbiaaGreatDoorEv11
set_option linter.unusedVariables false
set_option linter.unusedSectionVars false
set_option linter.unusedSimpArgs false
namespace Go.Ev
set_option linter.unusedVariables false
set_option linter.unusedSectionVars false
set_option linter.unusedSimpArgs false
noncomputable section
section
variable {v0 v1 : Val}
def GrOk (v0 v1 : Val) : Gr → Prop
  | .grow _ q q' sz exp => @nz v1 q' = (v1.l q').length ∧ (∀ row ∈ v1.l q', row.length = sz) ∧ ∀ μ rows, VRR v0 μ exp rows → v1.l q' = v0.l q ++ rows
  | .new _ q' sz exp => @nz v1 q' = (v1.l q').length ∧ (∀ row ∈ v1.l q', row.length = sz) ∧ ∀ μ rows, VRR v0 μ exp rows → v1.l q' = rows
  | _ => True
def IvOk (v : Val) (h : Hp) : Prop := ∀ f lo hi, hget f h = .iv lo hi → lo ≤ v.n f ∧ v.n f ≤ hi
theorem avE {a b : AV} (h : aveq a b = true) : a = b := @aveq_eq dV dF a b h
theorem asIvI {R : Type} {o : Ob} {e : R} {k : Int → Int → R} : (∃ lo hi, o = .iv lo hi ∧ asIv o e k = k lo hi) ∨ asIv o e k = e := by
  cases o <;> first | exact .inl ⟨_, _, rfl, rfl⟩ | exact .inr rfl
theorem ivNorm_ok {h : Hp} {μ : Mu} {x : AV} {u : Value} (hiv : IvOk v0 h) (hx : @VR v0 μ x u) : @VR v0 μ (ivNorm h x) u := by
  unfold ivNorm
  split
  · rename_i k f c a b
    rcases asIvI (o := hget f h) (e := AV.sx k f c a b) (k := fun lo hi => cnd (cnd (ieq lo hi) (fitK k (iadd lo c) (iadd lo c)) false) (.int k (iadd lo c)) (.sx k f c a b)) with ⟨lo, hi, e1, e2⟩ | e2
    · rw [e2]
      cases hc : cnd (ieq lo hi) (fitK k (iadd lo c) (iadd lo c)) false with
      | false => exact hx
      | true =>
        obtain ⟨h1, h2⟩ := an2 hc
        rw [ieqE] at h1
        obtain rfl := of_decide_eq_true h1
        have := hiv f _ _ e1
        simp only [VR] at hx
        obtain ⟨hx, _⟩ := hx
        have hn : @Val.n v0 f = lo := by omega
        show @VR v0 μ (.int k (iadd lo c)) u
        simp only [VR]
        rw [hx, hn, iaddE] at *
        rw [fitW h2 (Int.le_refl _) (Int.le_refl _)]
    · rw [e2]; exact hx
  · exact hx
theorem sameX_ok {h : Hp} {μ : Mu} {x y : AV} {u : Value} (hiv : IvOk v0 h) (hx : @VR v0 μ x u) (e : sameX h x y = true) : @VR v0 μ y u := by
  have hx := ivNorm_ok hiv hx
  unfold sameX at e
  generalize ivNorm h x = z at hx e
  split at e
  · rename_i k f c lo0 hi0 l f' c' lo hi
    replace e := an2 e
    obtain ⟨e1, e⟩ := e
    replace e := an2 e
    obtain ⟨e2, e⟩ := e
    replace e := an2 e
    obtain ⟨e3, e⟩ := e
    obtain rfl := keqT e1
    obtain rfl := Key.beq_eq e2
    rw [ieqE] at e3
    obtain rfl := of_decide_eq_true e3
    rcases asIvI (o := hget f h) (e := false) (k := fun a b => cnd (ile lo (iadd a c)) (ile (iadd b c) hi) false) with ⟨a, b, e4, e5⟩ | e5
    · rw [e5] at e
      obtain ⟨e6, e7⟩ := an2 e
      rw [ileE, iaddE] at e6 e7
      have e6 := of_decide_eq_true e6
      have e7 := of_decide_eq_true e7
      have := hiv f a b e4
      simp only [VR] at hx ⊢
      exact ⟨hx.1, by omega, by omega⟩
    · rw [e5] at e; cases e
  · rw [← avE e]; exact hx
theorem sameXs_ok {h : Hp} {μ : Mu} (hiv : IvOk v0 h) : ∀ {x y : List AV} {u : List Value}, @VRs v0 μ x u → sameXs h x y = true → @VRs v0 μ y u
  | [], [], _, hx, _ => hx
  | [], _ :: _, _, _, e => by cases e
  | _ :: _, [], _, _, e => by cases e
  | x :: xs, y :: ys, u, hx, e => by
    obtain ⟨e1, e2⟩ := an2 (show cnd (sameX h x y) (sameXs h xs ys) false = true from e)
    simp only [VRs] at hx ⊢
    obtain ⟨v, r, e, h1, h2⟩ := hx
    exact ⟨v, r, e, sameX_ok hiv h1 e1, sameXs_ok hiv h2 e2⟩
theorem sameRows_ok {h : Hp} {μ : Mu} (hiv : IvOk v0 h) : ∀ {x y : List (List AV)} {u : List (List Value)}, VRR v0 μ x u → sameRows h x y = true → VRR v0 μ y u
  | [], [], _, hx, _ => hx
  | [], _ :: _, _, _, e => by cases e
  | _ :: _, [], _, _, e => by cases e
  | x :: xs, y :: ys, _, .cons h1 h2, e => by
    obtain ⟨e1, e2⟩ := an2 (show cnd (sameXs h x y) (sameRows h xs ys) false = true from e)
    exact .cons (sameXs_ok hiv h1 e1) (sameRows_ok hiv h2 e2)
theorem ensEq_eq : ∀ {a b : List En}, ensEq a b = true → a = b
  | [], [], _ => rfl
  | [], _ :: _, e => by cases e
  | _ :: _, [], e => by cases e
  | .mk k v n :: l, .mk k' v' n' :: l', e => by
    obtain ⟨e1, e⟩ := an2 (show cnd (aveq k k') (cnd (aveq v v') (cnd (Nat.beq n n') (ensEq l l') false) false) false = true from e)
    replace e := an2 e
    obtain ⟨e2, e⟩ := e
    obtain ⟨e3, e4⟩ := an2 e
    rw [avE e1, avE e2, Nat.eq_of_beq_eq_true e3, ensEq_eq e4]
theorem stEq_eq {a b : LoopState} (h : stEq a b = true) : a = b := by cases a <;> cases b <;> first | rfl | cases h
mutual
theorem closedA_r {μ ν : Mu} : ∀ (a : AV) (v : Value), closedA a = true → @VR v0 μ a v → @VR v1 ν a v
  | .bool b, v, _, h => by simpa only [VR] using h
  | .int k n, v, _, h => by simpa only [VR] using h
  | .str s, v, _, h => by simpa only [VR] using h
  | .ptr0, v, _, h => by simpa only [VR] using h
  | .slice0, v, _, h => by simpa only [VR] using h
  | .map0, v, _, h => by simpa only [VR] using h
  | .nilFunc, v, _, h => by simpa only [VR] using h
  | .nilIface, v, _, h => by simpa only [VR] using h
  | .agg l, v, e, h => by
    simp only [VR] at h ⊢
    obtain ⟨cs, h1, h2⟩ := h
    exact ⟨cs, h1, closedAs_r l _ e h2⟩
  | .top, _, e, _ => by cases e
  | .any, _, e, _ => by cases e
  | .ub, _, e, _ => by cases e
  | .rng .., _, e, _ => by cases e
  | .md .., _, e, _ => by cases e
  | .sl .., _, e, _ => by cases e
  | .ptr .., _, e, _ => by cases e
  | .slice .., _, e, _ => by cases e
  | .map .., _, e, _ => by cases e
  | .func .., _, e, _ => by cases e
  | .iface .., _, e, _ => by cases e
  | .tuple .., _, e, _ => by cases e
  | .sx .., _, e, _ => by cases e
  | .le .., _, e, _ => by cases e
  | .eqv .., _, e, _ => by cases e
  | .stx .., _, e, _ => by cases e
  | .nsl .., _, e, _ => by cases e
  | .nix .., _, e, _ => by cases e
  | .stq .., _, e, _ => by cases e
  | .nv .., _, e, _ => by cases e
theorem closedAs_r {μ ν : Mu} : ∀ (l : List AV) (vs : List Value), closedAs l = true → @VRs v0 μ l vs → @VRs v1 ν l vs
  | [], vs, _, h => by simpa only [VRs] using h
  | a :: l, vs, e, h => by
    obtain ⟨e1, e2⟩ := an2 (show cnd (closedA a) (closedAs l) false = true from e)
    simp only [VRs] at h ⊢
    obtain ⟨v, r, e3, h1, h2⟩ := h
    exact ⟨v, r, e3, closedA_r a v e1 h1, closedAs_r l r e2 h2⟩
end
theorem closedAs_get : ∀ {l : List AV} {j : Nat} {a : AV}, closedAs l = true → l[j]? = some a → closedA a = true
  | [], j, a, _, hj => by simp at hj
  | x :: l, j, a, e, hj => by
    obtain ⟨e1, e2⟩ := an2 (show cnd (closedA x) (closedAs l) false = true from e)
    cases j with
    | zero => simp at hj; subst hj; exact e1
    | succ j => exact closedAs_get e2 (by simpa using hj)
theorem closedTr_get : ∀ {c : Tr Row} {r : Nat} {l : List AV} {gw : Nat}, closedTr c = true → c.get r = some (.mk l gw) → closedAs l = true
  | .e, r, l, gw, _, hg => by cases hg
  | .lf (.mk l' g'), r, l, gw, e, hg => by
    rw [Tr.get_lf] at hg
    split at hg
    · cases hg; exact e
    · cases hg
  | .n a b, r, l, gw, e, hg => by
    obtain ⟨e1, e2⟩ := an2 (show cnd (closedTr a) (closedTr b) false = true from e)
    rw [Tr.get_n] at hg
    split at hg
    · exact closedTr_get e1 hg
    · exact closedTr_get e2 hg
theorem or_keep {sg : Sg} {B : Nat} {μ : Mu} {w : World} {f : Key} {o : Ob} (e0 : notG sg f = true) (e1 : closedOb o = true) (k : @OR v0 B μ w f o) : @OR v1 B (remu sg μ) w f o := by
  cases o <;> first | (cases e1; done) | skip
  rename_i ro gen sz dp ext c
  have e1 : closedTr c = true := e1
  obtain ⟨k1, ⟨k3, k4⟩, k5⟩ := k
  refine ⟨k1, ⟨fun g hg => by rw [remu_notG e0]; exact k3 g hg, k4⟩, fun g b s n hm => ?_⟩
  rw [remu_notG e0] at hm
  obtain ⟨a1, a2, cs, e, fz, a3, a4, a5, a6⟩ := k5 g b s n hm
  refine ⟨a1, a2, cs, e, fz, a3, a4, a5, fun r l gw hg hgw hsr => ?_⟩
  obtain ⟨b1, b2, b3⟩ := a6 r l gw hg hgw hsr
  refine ⟨b1, b2, fun j a hj => ?_⟩
  obtain ⟨v, c1, c2⟩ := b3 j a hj
  exact ⟨v, c1, closedA_r a v (closedAs_get (closedTr_get e1 hg) hj) c2⟩
theorem gr_or {sg : Sg} (hs : SgOk v0 v1 sg) {B : Nat} {μ : Mu} {w : World} {h h' : Hp} {g : Gr} (hiv : IvOk v0 h) (hg : GrOk v0 v1 g) (e : grB sg h h' g = true) (hc : codes h [g] = codes h' [g]) (ho : obsOf h [g] = obsOf h' [g]) (hcl : closedGr h' [g] = true)
    (hst : ∀ b s n, μ g.key 0 = some (b, s, n) → s = 0) (k : @OR v0 B μ w g.key (hget g.key h)) : @OR v1 B (remu sg μ) w g.key (hget g.key h') := by
  cases g with
  | keep f =>
    simp only [grB] at e
    simp only [Gr.key] at k hst ⊢
    simp only [obsOf, List.cons.injEq, and_true] at ho
    rw [ho] at k
    exact or_keep e (an2 (show cnd (closedOb (hget f h')) true false = true from hcl)).1 k
  | grow f q q' sz exp =>
    simp only [grB] at e
    simp only [Gr.key] at k hst ⊢
    split at e
    · rename_i gen z p sfx gen' z' p' hX hX'
      replace e := an2 e
      obtain ⟨e1, e⟩ := e
      replace e := an2 e
      obtain ⟨e2, e⟩ := e
      replace e := an2 e
      obtain ⟨e3, e⟩ := e
      replace e := an2 e
      obtain ⟨e4, e⟩ := e
      obtain rfl := Nat.eq_of_beq_eq_true e1
      obtain rfl := Nat.eq_of_beq_eq_true e2
      obtain rfl := Key.beq_eq e3
      obtain rfl := Key.beq_eq e4
      cases hf : findG f sg.gs with
      | none => rw [hf] at e; cases e
      | some x =>
        rw [hf] at e
        obtain ⟨x1, x2⟩ := x
        obtain ⟨e5, e⟩ := an2 (show cnd (Nat.beq x1 gen) (cnd (Nat.beq x2 gen') (sameRows h sfx exp) false) false = true from e)
        obtain ⟨e6, e7⟩ := an2 e
        obtain rfl := Nat.eq_of_beq_eq_true e5
        obtain rfl := Nat.eq_of_beq_eq_true e6
        rw [hX] at k
        rw [hX']
        exact or_grow hs hf hg.1 hg.2.1 (fun μ rows hr => hg.2.2 μ rows (sameRows_ok hiv hr e7)) k
    · cases e
  | new f q' sz exp =>
    simp only [grB] at e
    simp only [Gr.key] at k hst ⊢
    split at e
    · rename_i z dp ext c gen' z' p' hX hX'
      replace e := an2 e
      obtain ⟨e1, e⟩ := e
      replace e := an2 e
      obtain ⟨e2, e⟩ := e
      replace e := an2 e
      obtain ⟨e3, e⟩ := e
      obtain rfl := Nat.eq_of_beq_eq_true e1
      obtain rfl := Nat.eq_of_beq_eq_true e2
      obtain rfl := Key.beq_eq e3
      cases hf : findG f sg.gs with
      | none => rw [hf] at e; cases e
      | some x =>
        rw [hf] at e
        obtain ⟨x1, x2⟩ := x
        obtain ⟨e5, e⟩ := an2 (show cnd (Nat.beq x1 0) (cnd (Nat.beq x2 gen') (opt (getRows c 0 exp.length 0) false fun sfx => sameRows h sfx exp) false) false = true from e)
        obtain ⟨e6, e7⟩ := an2 e
        obtain rfl := Nat.eq_of_beq_eq_true e5
        obtain rfl := Nat.eq_of_beq_eq_true e6
        cases hr : getRows c 0 exp.length 0 with
        | none => rw [hr] at e7; cases e7
        | some sfx =>
          rw [hr] at e7
          have e7 : sameRows h sfx exp = true := e7
          have hlen : ∀ {a b : List (List AV)}, sameRows h a b = true → a.length = b.length := by
            intro a
            induction a with
            | nil => intro b hb; cases b <;> first | rfl | cases hb
            | cons x a ih =>
              intro b hb
              cases b with
              | nil => cases hb
              | cons y b => simp [ih (an2 (show cnd (sameXs h x y) (sameRows h a b) false = true from hb)).2]
          rw [← hlen e7] at hr
          rw [hX] at k
          rw [hX']
          exact or_new hs hst hf hr hg.1 hg.2.1 (fun μ rows hr => hg.2.2 μ rows (sameRows_ok hiv hr e7)) k
    · cases e
  | loop f =>
    simp only [grB] at e
    simp only [Gr.key] at k hst ⊢
    split at e
    · rename_i st fn tm ps a0 b0 df a b c st' fn' tm' ps' a0' b0' df' a' b' c' hX hX'
      simp only [codes, hX, hX', List.cons.injEq, and_true] at hc
      obtain ⟨rfl, rfl⟩ := hc
      replace e := an2 e
      obtain ⟨e1, e⟩ := e
      replace e := an2 e
      obtain ⟨e2, e⟩ := e
      replace e := an2 e
      obtain ⟨e3, e⟩ := e
      replace e := an2 e
      obtain ⟨e4, e⟩ := e
      replace e := an2 e
      obtain ⟨e5, e⟩ := e
      replace e := an2 e
      obtain ⟨e6, e⟩ := e
      replace e := an2 e
      obtain ⟨e7, e⟩ := e
      replace e := an2 e
      obtain ⟨e8, e⟩ := e
      obtain ⟨e9, e10⟩ := an2 e
      obtain rfl := stEq_eq e2
      obtain rfl := Nat.eq_of_beq_eq_true e3
      rw [show natsEq ps ps' = leq ps ps' from rfl, leqE] at e5
      obtain rfl := of_decide_eq_true e5
      obtain rfl := Key.beq_eq e6
      obtain rfl := Nat.eq_of_beq_eq_true e8
      obtain rfl := Nat.eq_of_beq_eq_true e9
      obtain rfl := Nat.eq_of_beq_eq_true e10
      rw [hX] at k
      rw [hX']
      exact or_loop hs e1 e4 e7 k
    · cases e
  | mapu f =>
    simp only [grB] at e
    simp only [Gr.key] at k hst ⊢
    split at e
    · rename_i es es' hX hX'
      replace e := an2 e
      obtain ⟨e1, e⟩ := e
      obtain ⟨e2, e3⟩ := an2 e
      obtain rfl := ensEq_eq e2
      rw [hX] at k
      rw [hX']
      exact or_mapu hs e1 e3 k
    · cases e
theorem codes_one {sg : Sg} {h h' : Hp} : ∀ {gr : List Gr}, grsB sg h h' gr = true → codes h gr = codes h' gr → obsOf h gr = obsOf h' gr → closedGr h' gr = true →
    ∀ g ∈ gr, grB sg h h' g = true ∧ codes h [g] = codes h' [g] ∧ obsOf h [g] = obsOf h' [g] ∧ closedGr h' [g] = true
  | [], _, _, _, _, g, hg => by cases hg
  | x :: gr, e, hc, ho, hcl, g, hg => by
    obtain ⟨e1, e2⟩ := an2 (show cnd (grB sg h h' x) (grsB sg h h' gr) false = true from e)
    have key : (codes h [x] = codes h' [x] ∧ codes h gr = codes h' gr) ∧ (obsOf h [x] = obsOf h' [x] ∧ obsOf h gr = obsOf h' gr) ∧ (closedGr h' [x] = true ∧ closedGr h' gr = true) := by
      cases x with
      | grow f q q' sz exp => exact ⟨⟨rfl, hc⟩, ⟨rfl, ho⟩, ⟨rfl, hcl⟩⟩
      | new f q' sz exp => exact ⟨⟨rfl, hc⟩, ⟨rfl, ho⟩, ⟨rfl, hcl⟩⟩
      | mapu f => exact ⟨⟨rfl, hc⟩, ⟨rfl, ho⟩, ⟨rfl, hcl⟩⟩
      | keep f =>
        simp only [obsOf, List.cons.injEq] at ho ⊢
        obtain ⟨c1, c2⟩ := an2 (show cnd (closedOb (hget f h')) (closedGr h' gr) false = true from hcl)
        exact ⟨⟨rfl, hc⟩, ⟨⟨ho.1, trivial⟩, ho.2⟩, ⟨by show cnd (closedOb (hget f h')) true false = true; rw [c1]; rfl, c2⟩⟩
      | loop f =>
        refine ⟨?_, ⟨rfl, ho⟩, ⟨rfl, hcl⟩⟩
        simp only [grB] at e1
        split at e1
        · rename_i hX hX'
          simp only [codes, hX, hX', List.cons.injEq] at hc ⊢
          exact ⟨⟨hc.1, hc.2.1, trivial⟩, hc.2.2⟩
        · cases e1
    rcases List.mem_cons.1 hg with rfl | hg
    · exact ⟨e1, key.1.1, key.2.1.1, key.2.2.1⟩
    · exact codes_one e2 key.1.2 key.2.1.2 key.2.2.2 g hg
theorem gcH_in {h : Hp} {f : Key} (ks : List Key) (hf : inKs f ks = true) : hget f (gcH ks h) = hget f h := by
  have key : ∀ (ks : List Key) (h' : Hp), hget f (List.rec (motive := fun _ => Hp → Hp) (fun h' => h') (fun k _ ih h' => ih (hset k (hget k h) h')) ks h') = if inKs f ks = true then hget f h else hget f h' := by
    intro ks
    induction ks with
    | nil => intro h'; rw [if_neg (fun hh => by cases hh)]
    | cons k ks ih =>
      intro h'
      show hget f (List.rec (motive := fun _ => Hp → Hp) (fun h' => h') (fun k _ ih h' => ih (hset k (hget k h) h')) ks (hset k (hget k h) h')) = _
      rw [ih]
      cases hb : Key.beq k f with
      | true =>
        obtain rfl := Key.beq_eq hb
        rw [hget_hset]
        have : inKs k (k :: ks) = true := by unfold inKs; rw [hb]; rfl
        rw [if_pos this]
        split <;> rfl
      | false =>
        have : inKs f (k :: ks) = inKs f ks := by show cnd (Key.beq k f) true (inKs f ks) = _; rw [hb]; rfl
        rw [this, hget_hset_ne (Key.beq_ne hb)]
  have := key ks hp0
  rw [if_pos hf] at this
  exact this
theorem inKs_map {f : Key} : ∀ {gr : List Gr}, inKs f (gr.map Gr.key) = true → ∃ g ∈ gr, g.key = f
  | [], h => by cases h
  | g :: gr, h => by
    simp only [List.map_cons] at h
    unfold inKs at h
    cases hb : Key.beq g.key f with
    | true => exact ⟨g, List.mem_cons_self .., Key.beq_eq hb⟩
    | false => rw [hb] at h; obtain ⟨x, h1, h2⟩ := inKs_map h; exact ⟨x, List.mem_cons_of_mem _ h1, h2⟩
def zips : List Fr → List Fr → List Zf
  | .mk L td fi :: l, .mk L' _ fi' :: l' => .mk L L' td fi fi' :: zips l l'
  | _, _ => []
theorem zips_ok {sg : Sg} : ∀ {cs cs' : List Fr}, renCs sg cs cs' = true → (cs.map fun | .mk _ td _ => td) = (cs'.map fun | .mk _ td _ => td) → (zips cs cs').map Zf.a = cs ∧ (zips cs cs').map Zf.b = cs' ∧ renZs sg (zips cs cs') = true
  | [], [], _, _ => ⟨rfl, rfl, rfl⟩
  | [], _ :: _, e, _ => by cases e
  | .mk _ _ _ :: _, [], e, _ => by cases e
  | .mk L td fi :: l, .mk L' td' fi' :: l', e, ht => by
    obtain ⟨e1, e2⟩ := an2 (show cnd (renZ sg (.mk L L' td fi fi')) (renCs sg l l') false = true from e)
    simp only [List.map_cons, List.cons.injEq] at ht
    obtain ⟨rfl, ht⟩ := ht
    obtain ⟨h1, h2, h3⟩ := zips_ok e2 ht
    refine ⟨by simp only [zips, List.map_cons, h1]; rfl, by simp only [zips, List.map_cons, h2]; rfl, ?_⟩
    show cnd (renZ sg (.mk L L' td fi fi')) (renZs sg (zips l l')) false = true
    rw [e1, h3]; rfl
theorem map2_sel {α β γ : Type} (f : α → β → γ) (n : N α) (m : N β) (d : D) : N.sel d (N.map2 f n m) = f (N.sel d n) (N.sel d m) := by
  obtain ⟨a, b, c, d', e, g, i, j⟩ := n
  obtain ⟨a', b', c', d'', e', g', i', j'⟩ := m
  cases d <;> rfl
theorem maskTm_get (t' t : Tm) (a b c : D) : tget a b c (maskTm t' t) = maskA (tget a b c t') (tget a b c t) := by
  rw [tget_eq, tget_eq, tget_eq, maskTm, map2_sel, map2_sel, map2_sel]
theorem maskA_r {μ : Mu} {a' a : AV} {v : Value} (h : @VR v0 μ a v) : @VR v0 μ (maskA a' a) v := by
  unfold maskA
  split
  · simp only [VR]
  · exact h
theorem maskTm_r {nd : Nat} {X : Nat → Prop} {μ : Mu} {t' t : Tm} {tmps : Array Value} (k : @NeedR v0 nd X μ t tmps) : @NeedR v0 nd X μ (maskTm t' t) tmps := fun u h1 h2 => by
  show @VR v0 μ (tget _ _ _ (maskTm t' t)) _
  rw [maskTm_get]; exact maskA_r (k u h1 h2)
theorem maskKn {μ : Mu} {nd : Nat} {cl : Cl} {L' L : Lo} {tmps : Array Value} (k : @KnR v0 nd μ cl L tmps) : @KnR v0 nd μ cl (maskLo L' L) tmps := by
  obtain ⟨k1, k2, k3⟩ := k
  obtain ⟨t', a', b', c'⟩ := L'
  obtain ⟨t, a, b, c⟩ := L
  refine @KnR.mk v0 _ _ _ _ _ (maskTm_r k1) k2 fun u d x hm => ?_
  have hv := k3 u d x hm
  cases x with
  | w0 => exact maskA_r hv
  | w1 => exact maskA_r hv
  | w2 => exact maskA_r hv
  | t x y z => rw [getOt] at hv ⊢; show @VR v0 μ (tget x y z (maskTm t' t)) _; rw [maskTm_get]; exact maskA_r hv
  | c av => rw [getOc] at hv ⊢; exact hv
theorem maskBody {F0 : Fk} {sg : Sg} {E : Env} {fn : Nat} {μ : Mu} {L' L : Lo} {tmps : Array Value} {md : Md} {l : List Ci} {k : List Item} {F : List Key} (et : tdOk sg l = true)
    (b : @BodyR v0 F0 E fn μ L tmps md l k F) : F = [] ∧ @BodyR v0 F0 E fn μ (maskLo L' L) tmps md l k [] := by
  cases b with
  | plain h1 h2 => exact ⟨rfl, .plain (maskKn h1) h2⟩
  | waitP h1 h2 h3 h4 h5 => exact ⟨rfl, .waitP (maskKn h1) h2 h3 h4 h5⟩
  | inRFP h1 h2 h3 => exact ⟨rfl, .inRFP (maskKn h1) h2 h3⟩
  | out h0 h1 h2 =>
    refine ⟨rfl, .out h0 ?_ h2⟩
    obtain ⟨t', a', b', c'⟩ := L'
    obtain ⟨t, a, b, c⟩ := L
    exact maskTm_r h1
  | drawn h1 => cases h1 <;> cases et
theorem maskFr {F0 : Fk} {sg : Sg} {E : Env} {μ : Mu} {L' L : Lo} {l : List Ci} {fi : FI} {fr : Frame} {F : List Key} (et : tdOk sg l = true) (b : @FrR v0 F0 E μ L l fi fr F) : F = [] ∧ @FrR v0 F0 E μ (maskLo L' L) l fi fr [] := by
  cases b with
  | mk h1 h2 =>
    obtain ⟨e, h3⟩ := maskBody et h2
    exact ⟨e, .mk h1 h3⟩
theorem mask_sim {F0 : Fk} {sg : Sg} {E : Env} {P : Program} {C : Call0} {L L' : Lo} {td : List Ci} {fi : FI} {cs : List Fr} {h : Hp} {nx : Key} {m : Machine} (et : tdOk sg td = true)
    (k : @Sim v0 F0 E P C (.mk L td fi cs h nx) m) : @Sim v0 F0 E P C (.mk (maskLo L' L) td fi cs h nx) m := by
  cases k with
  | mk hr hg he hf hst hk =>
    obtain ⟨rfl, f1⟩ := maskFr (L' := L') et hf
    exact @Sim.mk v0 F0 _ _ _ _ _ _ _ _ _ _ _ _ _ _ _ hr hg he f1 hst hk
theorem end_sim {F0 F1 : Fk} {sg : Sg} (hs : SgOk v0 v1 sg) (hF : @FkOk v1 F1) {E : Env} {P : Program} {C : Call0} {ks : List Key} {gr : List Gr} {H c : Cfg} {m : Machine} (hg : ∀ g ∈ gr, GrOk v0 v1 g)
    (hH : gcH ks H.hp = H.hp) (e : endB E sg ks gr H c = true) (ht : c.tds = H.tds) (hc : codes c.hp gr = codes H.hp gr) (ho : obsOf c.hp gr = obsOf H.hp gr) (hcl : closedGr H.hp gr = true) (k : @Sim v0 F0 E P C c m) : @Sim v1 F1 E P C H m := by
  obtain ⟨L', td', fi', cs', h', nx'⟩ := H
  obtain ⟨L, td, fi, cs, h, nx⟩ := c
  simp only [Cfg.hp] at hH hc ho hcl
  simp only [Cfg.tds, List.cons.injEq] at ht
  obtain ⟨rfl, ht⟩ := ht
  obtain ⟨e1, e⟩ := an2 (show cnd (gcOk E ks (gcH ks h) (.mk (maskLo L' L) td fi cs h nx)) (cnd (renZ sg (.mk (maskLo L' L) L' td fi fi')) (cnd (renCs sg cs cs') (cnd (renObs sg (gr.map Gr.key) (gcH ks h) h' ks) (cnd (grsB sg h h' gr) (cnd (gmOk E.gm sg 64) (endB.subK gr ks) false) false) false) false) false) false = true from e)
  replace e := an2 e
  obtain ⟨e2, e⟩ := e
  replace e := an2 e
  obtain ⟨e3, e⟩ := e
  replace e := an2 e
  obtain ⟨e4, e⟩ := e
  replace e := an2 e
  obtain ⟨e5, e⟩ := e
  obtain ⟨e6, e7⟩ := an2 e
  have hiv : IvOk v0 h := by
    cases k with
    | mk hr _ _ _ _ _ => exact fun f lo hi ho => @HR.ivOf v0 F0 _ _ _ _ hr f lo hi ho
  have hgm : Nat.blt E.gm (2 ^ 64) = true := by
    obtain ⟨_, a⟩ := an2 (show cnd (okLo (gcH ks h) (maskLo L' L)) (cnd (okTd (gcH ks h) td) (cnd (okFI (gcH ks h) fi) (cnd (okFrs (gcH ks h) cs) (cnd (okObs (gcH ks h) ks) (cnd (Nat.blt E.gm (2 ^ 64)) (okGm E.gm (gcH ks h) 64) false) false) false) false) false) false = true from e1)
    replace a := an2 a
    obtain ⟨_, a⟩ := a
    replace a := an2 a
    obtain ⟨_, a⟩ := a
    replace a := an2 a
    obtain ⟨_, a⟩ := a
    replace a := an2 a
    obtain ⟨_, a⟩ := a
    exact (an2 a).1
  have et : tdOk sg td = true := (an2 (an2 (show cnd (renLo sg (maskLo L' L) L') (cnd (tdOk sg td) (renFI sg fi fi') false) false = true from e2)).2).1
  have k1 := @gc_sim F0 v0 E P C ks (maskLo L' L) td fi cs h nx m e1 (mask_sim et k)
  obtain ⟨z1, z2, z3⟩ := zips_ok e3 ht
  rw [← z1] at k1
  rw [← z2]
  refine ren_sim hs hF (supp_gc ks h) (by rw [← hH]; exact supp_gc ks h') e2 z3 e4 e6 hgm (fun f hf μ w hst hor => ?_) k1
  obtain ⟨g, g1, rfl⟩ := inKs_map hf
  obtain ⟨b1, b2, b3, b4⟩ := codes_one e5 hc ho hcl g g1
  have hin : inKs g.key ks = true := by
    have := List.all_eq_true.1 e7 g g1
    exact this
  rw [gcH_in ks hin] at hor
  exact gr_or hs hiv (hg g g1) b1 b2 b3 b4 hst hor
end
section
variable [Val] [Fk] {E : Env} {P : Program} (hE : EnvOk E P) {C : Call0} (hS : SumOk E P C) (hD : DrawnOk E P C)
include hE hS hD in
theorem turns_sound {hd : Cfg → Bool} : ∀ (n : Nat) {c : Cfg} {l : List Cfg} {m : Machine}, turnsC E hd n c = some l → Sim E P C c m → Done E P C Fk.rv m ∨ ∃ c' ∈ l, ∃ m', Steps P m m' ∧ Sim E P C c' m'
  | 0, _, _, _, h, _ => by cases h
  | n + 1, c, l, m, h, hs => by
    have hg := step_good hE hS hD hs
    have h : (Sp.rec (motive := fun _ => Option (List Cfg)) (fun c' => cnd (hd c) (some [c']) (back (turnsC E hd n) c')) (fun v => cnd (aveq v Fk.rv) (some []) none)
      (fun l => catO (turnsC E hd n) l) none (step E c) : Option (List Cfg)) = some l := h
    cases hc : step E c with
    | go c' =>
      rw [hc] at h hg
      obtain ⟨m', h1, h2⟩ := hg
      have h : cnd (hd c) (some [c']) (turnsC E hd n c') = some l := h
      cases hh : hd c with
      | true => rw [hh] at h; cases h; exact .inr ⟨c', by simp, m', h1, h2⟩
      | false =>
        rw [hh] at h
        rcases turns_sound n (c := c') h h2 with h3 | ⟨c2, h3, m2, h4, h5⟩
        · exact .inl (h3.of_steps h1)
        · exact .inr ⟨c2, h3, m2, h1.trans h4, h5⟩
    | done v =>
      rw [hc] at h hg
      obtain ⟨h1, _⟩ := cnI (show cnd (aveq v Fk.rv) (some []) none = some l from h)
      rw [← avE h1]
      exact .inl hg
    | br cs =>
      rw [hc] at h hg
      obtain ⟨c', hm, m', h1, h2⟩ := hg
      have key : ∀ (cs : List Cfg) (l : List Cfg), catO (turnsC E hd n) cs = some l → ∀ c' ∈ cs, ∃ l', turnsC E hd n c' = some l' ∧ ∀ x ∈ l', x ∈ l := by
        intro cs
        induction cs with
        | nil => intro l _ c' hc'; cases hc'
        | cons a cs ih =>
          intro l hl c' hc'
          obtain ⟨x, e1, e2⟩ := opI (show opt (turnsC E hd n a) none (fun x => opt (catO (turnsC E hd n) cs) none fun b => some (x ++ b)) = some l from hl)
          obtain ⟨y, e3, e4⟩ := opI e2
          cases e4
          rcases List.mem_cons.1 hc' with rfl | hc'
          · exact ⟨x, e1, fun z hz => List.mem_append_left _ hz⟩
          · obtain ⟨l', e5, e6⟩ := ih y e3 c' hc'
            exact ⟨l', e5, fun z hz => List.mem_append_right _ (e6 z hz)⟩
      obtain ⟨l', e1, e2⟩ := key cs l h c' hm
      rcases turns_sound n e1 h2 with h3 | ⟨c2, h3, m2, h4, h5⟩
      · exact .inl (h3.of_steps h1)
      · exact .inr ⟨c2, e2 _ h3, m2, h1.trans h4, h5⟩
    | fail => rw [hc] at h; cases h
theorem done_any {v0 v1 : Val} {E : Env} {P : Program} {C : Call0} {m : Machine} {a : AV} (ha : closedA a = true) (h : @Done v0 E P C a m) : @Done v1 E P C a m := by
  obtain ⟨fr, w, v, μ, h1, h2, h3, h4⟩ := h
  exact ⟨fr, w, v, μ, h1, h2, closedA_r a v ha h3, h4⟩
end
theorem turn_sim {v0 v1 : Val} {F0 F1 : Fk} {sg : Sg} (hs : SgOk v0 v1 sg) (hF : @FkOk v1 F1) {E : Env} {P : Program} (hE : EnvOk E P) {C : Call0} (hS : @SumOk v0 F0 E P C) {ks : List Key} {gr : List Gr} {hd : Cfg → Bool} {n j : Nat} {H c : Cfg} {m : Machine}
    (hg : ∀ g ∈ gr, GrOk v0 v1 g) (hH : gcH ks H.hp = H.hp) (hcl : closedGr H.hp gr = true) (hrv : closedA F0.rv = true) (e : @turnT F0 E hd n sg ks gr H c = some (List.replicate j (headE gr H))) (k : @Sim v0 F0 E P C c m) :
    @Done v1 E P C F0.rv m ∨ ∃ m', Steps P m m' ∧ @Sim v1 F1 E P C H m' := by
  obtain ⟨l, h1, h2⟩ := opI (show opt (@turnsC F0 E hd n c) none (fun l => some (l.map (endE E sg ks gr H))) = some _ from e)
  have h2 : l.map (endE E sg ks gr H) = List.replicate j (headE gr H) := Option.some.inj h2
  rcases @turns_sound v0 F0 E P hE C hS (@drawn_ok v0 F0 E P hE C hS) hd n c l m h1 k with h3 | ⟨c', h3, m', h4, h5⟩
  · exact .inl (done_any hrv h3)
  · right
    have : endE E sg ks gr H c' = headE gr H := by
      have hm : endE E sg ks gr H c' ∈ l.map (endE E sg ks gr H) := List.mem_map_of_mem h3
      rw [h2] at hm
      exact (List.mem_replicate.1 hm).2
    simp only [endE, headE, Prod.mk.injEq] at this
    obtain ⟨a1, a2, a3, a4⟩ := this
    exact ⟨m', h4, end_sim hs hF hg hH a4 a1 a2 a3 hcl h5⟩
theorem turn_done {v0 : Val} {F0 : Fk} {sg : Sg} {E : Env} {P : Program} (hE : EnvOk E P) {C : Call0} (hS : @SumOk v0 F0 E P C) {ks : List Key} {gr : List Gr} {hd : Cfg → Bool} {n : Nat} {H c : Cfg} {m : Machine}
    (e : @turnT F0 E hd n sg ks gr H c = some []) (k : @Sim v0 F0 E P C c m) : @Done v0 E P C F0.rv m := by
  obtain ⟨l, h1, h2⟩ := opI (show opt (@turnsC F0 E hd n c) none (fun l => some (l.map (endE E sg ks gr H))) = some _ from e)
  have h2 : l.map (endE E sg ks gr H) = [] := Option.some.inj h2
  rcases @turns_sound v0 F0 E P hE C hS (@drawn_ok v0 F0 E P hE C hS) hd n c l m h1 k with h3 | ⟨c', h3, _⟩
  · exact h3
  · rw [List.map_eq_nil_iff] at h2
    rw [h2] at h3; cases h3
end
end Go.Ev

namespace Go.Ev
set_option linter.unusedVariables false
set_option linter.unusedSectionVars false
set_option linter.unusedSimpArgs false
noncomputable section
/-! ## slices that come in, as named lists -/
section
variable [Val] [Fk]
theorem HR.argL {μ : Mu} {h : Hp} {W : World} {f q : Key} {sz : Nat} {v : Value} (hH : HR W.heap.size μ h W) (hno : ∀ g, μ f g = none) (hn : nz q = (Val.l q).length) (hr : LaR W v sz (Val.l q)) :
    ∃ ν, μ.le ν ∧ (∀ f', f ≠ f' → ∀ g, ν f' g = μ f' g) ∧ HR W.heap.size ν (hset f (.lst true lstGen sz q []) h) W ∧ VR ν (.nsl f lstGen sz kZ 0 q 0 0) v := by
  obtain ⟨hrows, base, cap, rfl, hcap, hb⟩ := hr
  have z := nz_kZ
  rcases hb with hb | ⟨b, off, rfl, cs, e, fz, hheap, hroom, hl⟩
  · refine ⟨μ, Mu.le_refl _, fun _ _ _ => rfl, ⟨hH.inj, hH.lt, fun f1 => ?_, hH.side, hH.fk, hH.start⟩, ?_⟩
    · by_cases hff : f = f1
      · subst hff
        rw [hget_hset]
        exact ⟨⟨⟨hn, hrows⟩, by simp⟩, ⟨fun g _ => hno g, fun hh => by cases hh⟩, fun g b s n hm => by rw [hno] at hm; cases hm⟩
      · rw [hget_hset_ne hff]; exact hH.obj f1
    · simp only [VR]
      exact ⟨base, _, cap, rfl, hcap, by omega, by omega, .inl hb⟩
  · have hlt : b < W.heap.size := (Array.getElem?_eq_some_iff.1 hheap).1
    have hle := Mu.ins_le (hno lstGen) (b, off, cs.size)
    refine ⟨μ.ins f lstGen (b, off, cs.size), hle, fun f' hf g => Mu.ins_other _ (.inl hf) _, ⟨fun f1 g1 b1 s1 n1 f2 g2 s2 n2 h1 h2 hc => ?_, fun f1 g1 b1 s1 n1 h1 => ?_, fun f1 => ?_, fun f1 g1 g2 b1 s1 n1 s2 n2 h1 h2 hg => ?_, hH.fk, fun f1 b1 s1 n1 h1 => ?_⟩, ?_⟩
    · rcases Mu.ins_inv h1 with ⟨_, rfl, e1⟩ | k1
      · cases e1; exfalso; rcases hc with ⟨hc, _⟩ | hc
        · exact absurd hc (Nat.lt_irrefl _)
        · omega
      · rcases Mu.ins_inv h2 with ⟨_, rfl, e2⟩ | k2
        · cases e2; exfalso; rcases hc with ⟨_, hc⟩ | hc
          · exact absurd hc (Nat.lt_irrefl _)
          · omega
        · exact hH.inj _ _ _ _ _ _ _ _ _ k1 k2 hc
    · rcases Mu.ins_inv h1 with ⟨_, _, e1⟩ | k1
      · cases e1; exact hlt
      · exact hH.lt _ _ _ _ _ k1
    · by_cases hff : f = f1
      · subst hff
        rw [hget_hset]
        refine ⟨⟨⟨hn, hrows⟩, by simp⟩, ⟨fun g hg => ?_, fun hh => (by cases hh)⟩, fun g b1 s1 n1 hm => ?_⟩
        · rw [Mu.ins_other _ (.inr (by omega)) _]; exact hno g
        · rcases Mu.ins_inv hm with ⟨_, rfl, e1⟩ | k1
          · cases e1
            exact ⟨⟨fun hh => (by cases hh), fun _ => Nat.le_refl _⟩, cs, e, fz, hheap, fun hh => (by cases hh), rfl, hl, fun _ i l hi => by simp at hi⟩
          · rw [hno] at k1; cases k1
      · rw [hget_hset_ne hff]
        exact OR.mono hle (fun g => Mu.ins_other _ (.inl hff) _) (fun _ _ _ _ _ => rfl) (hH.obj f1)
    · rcases Mu.ins_inv h1 with ⟨rfl, i1, e1⟩ | k1
      · rcases Mu.ins_inv h2 with ⟨_, i2, e2⟩ | k2
        · omega
        · rw [hno] at k2; cases k2
      · rcases Mu.ins_inv h2 with ⟨rfl, i2, e2⟩ | k2
        · rw [hno] at k1; cases k1
        · exact hH.side _ _ _ _ _ _ _ _ k1 k2 hg
    · rcases Mu.ins_inv h1 with ⟨_, i1, e1⟩ | k1
      · exact absurd i1 (by decide)
      · exact hH.start _ _ _ _ k1
    · simp only [VR]
      exact ⟨_, _, cap, rfl, hcap, by omega, by omega, .inr ⟨b, off, cs.size, 0, Mu.ins_same _ _ _ _, by omega, by simp, by simpa using hroom⟩⟩
theorem GR.le {E : Env} {μ ν : Mu} (h : μ.le ν) (k : GR E μ) : GR E ν := fun g hg => by
  obtain ⟨n, hn⟩ := k g hg
  exact ⟨n, h _ _ _ hn⟩
theorem HR.argIv {μ : Mu} {h : Hp} {B : Nat} {W : World} {f : Key} {lo hi : Int} (hH : HR B μ h W) (hno : ∀ g, μ f g = none) (h1 : lo ≤ Val.n f) (h2 : Val.n f ≤ hi) : HR B μ (hset f (.iv lo hi) h) W := by
  refine ⟨hH.inj, hH.lt, fun f1 => ?_, hH.side, hH.fk, hH.start⟩
  by_cases hff : f = f1
  · subst hff
    rw [hget_hset]
    exact ⟨hno, h1, h2⟩
  · rw [hget_hset_ne hff]; exact hH.obj f1
end
theorem callsD [Val] [Fk] {a : AV} {E : Env} {P : Program} (hE : EnvOk E P) {W : World} {vs : List AV} {args : Array Value} {h : Hp} {nx : Key} {μ : Mu} (hv : VRs μ vs args.toList) (hr : HR W.heap.size μ h W) (hg : GR E μ)
    (hrun : ∃ c, enter E E.root vs false [] h nx = .go c ∧ ∀ cs m, Sim E P ⟨cs, W⟩ c m → Done E P ⟨cs, W⟩ a m) :
    Calls P E.root args W (fun e w' => ∃ v, e = .returned v ∧ (∃ ν, VR ν a v) ∧ Ext W.heap.size W w') := by
  intro cs
  have hgo := enter_good0 (E := E) (P := P) hE (C := ⟨cs, W⟩) (f := E.root) (nx := nx) hv hr hg (Ext.refl _ _)
  obtain ⟨c, hen, hok⟩ := hrun
  rw [hen] at hgo
  obtain ⟨m', h1, h2⟩ := hgo
  obtain ⟨fr, w, v, ν, k1, k2, k3, k4, k5⟩ := hok cs m' h2
  exact ⟨.returned v, w, fr, ⟨v, rfl, ⟨ν, k3⟩, k4⟩, h1.trans k1, k5, k2⟩
def withIv (l : List (Key × Int × Int)) (c : Cfg) : Cfg := match c with
  | .mk L td fi cs h nx => .mk L td fi cs (List.rec (motive := fun _ => Hp) h (fun x _ ih => hset x.1 (.iv x.2.1 x.2.2) ih) l) nx
theorem sim_iv {v : Val} {F : Fk} {E : Env} {P : Program} {C : Call0} {L : Lo} {td : List Ci} {fi : FI} {cs : List Fr} {h : Hp} {nx : Key} {m : Machine} {f : Key} {a b lo hi : Int} (k : @Sim v F E P C (.mk L td fi cs h nx) m)
    (ho : hget f h = .iv a b) (h1 : lo ≤ v.n f) (h2 : v.n f ≤ hi) : @Sim v F E P C (.mk L td fi cs (hset f (.iv lo hi) h) nx) m := by
  cases k with
  | mk hr hg he hf hst hk =>
    refine @Sim.mk v F _ _ _ _ _ _ _ _ _ _ _ _ _ _ _ (@HR.argIv v F _ _ _ _ _ _ _ hr (fun g => ?_) h1 h2) hg he hf hst ⟨hk.1, fun f' hf' => ?_⟩
    · have := @HR.obj v F _ _ _ _ hr f
      rw [ho] at this
      exact this.1 g
    · obtain ⟨e1, e2⟩ := hk.2 f' hf'
      refine ⟨?_, e2⟩
      by_cases e : f = f'
      · subst e; rw [hget_hset]; rfl
      · rw [hget_hset_ne e]; exact e1
theorem sim_ivs {v : Val} {F : Fk} {E : Env} {P : Program} {C : Call0} : ∀ (l : List (Key × Int × Int)) {c : Cfg} {m : Machine}, (∀ x ∈ l, ∃ a b, hget x.1 c.hp = .iv a b) → (∀ x ∈ l, x.2.1 ≤ v.n x.1 ∧ v.n x.1 ≤ x.2.2) →
    @Sim v F E P C c m → @Sim v F E P C (withIv l c) m ∧ ∀ k a b, hget k c.hp = .iv a b → ∃ a b, hget k (withIv l c).hp = .iv a b
  | [], .mk _ _ _ _ _ _, _, _, _, k => ⟨k, fun k a b h => ⟨a, b, h⟩⟩
  | x :: l, .mk L td fi cs h nx, m, h1, h2, k => by
    obtain ⟨k1, k2⟩ := sim_ivs l (fun y hy => h1 y (List.mem_cons_of_mem _ hy)) (fun y hy => h2 y (List.mem_cons_of_mem _ hy)) k
    obtain ⟨a, b, e⟩ := h1 x (List.mem_cons_self ..)
    obtain ⟨a', b', e'⟩ := k2 x.1 a b e
    obtain ⟨b1, b2⟩ := h2 x (List.mem_cons_self ..)
    refine ⟨sim_iv k1 e' b1 b2, fun k a b hk => ?_⟩
    show ∃ a b, hget k (hset x.1 (.iv x.2.1 x.2.2) _) = .iv a b
    by_cases e : x.1 = k
    · subst e; rw [hget_hset]; exact ⟨_, _, rfl⟩
    · rw [hget_hset_ne e]; exact k2 k a b hk
def enterT [Fk] (E : Env) (hd : Cfg → Bool) (n : Nat) (sg : Sg) (ks : List Key) (gr : List Gr) (H : Cfg) (vs : List AV) (h : Hp) (nx : Key) : Option (List Et) :=
  Sp.rec (motive := fun _ => Option (List Et)) (fun c => turnT E hd n sg ks gr H c) (fun _ => none) (fun _ => none) none (enter E E.root vs false [] h nx)
theorem enterT_some {F : Fk} {E : Env} {hd : Cfg → Bool} {n : Nat} {sg : Sg} {ks : List Key} {gr : List Gr} {H : Cfg} {vs : List AV} {h : Hp} {nx : Key} {l : List Et} (e : @enterT F E hd n sg ks gr H vs h nx = some l) :
    ∃ c, enter E E.root vs false [] h nx = .go c ∧ @turnT F E hd n sg ks gr H c = some l := by
  unfold enterT at e
  cases hen : enter E E.root vs false [] h nx with
  | go c => rw [hen] at e; exact ⟨c, rfl, e⟩
  | _ => rw [hen] at e; cases e
theorem map_one {α β : Type} {f g : α → β} {l : List α} (h : l.map f = l.map g) {a : α} (ha : a ∈ l) : f a = g a := (List.map_inj_left.1 h) a ha
end
end Go.Ev

namespace Go.Ev
set_option linter.unusedVariables false
set_option linter.unusedSectionVars false
set_option linter.unusedSimpArgs false
noncomputable section
theorem cells_get {w : World} {a : Addr} {n : Nat} {l : List Value} (h : w.cells? 0 a n = some l) : l.length = n ∧ ∀ j, j < n → ∃ v, w.cell? (a.add j) = some v ∧ l[j]? = some v := by
  unfold World.cells? at h
  rw [if_pos (Nat.zero_le _)] at h
  have h1 := mapM_some_length h
  rw [List.length_range] at h1
  refine ⟨h1, fun j hj => ?_⟩
  have h2 := mapM_some_get h j j (by simp [hj])
  have h3 : j < l.length := by omega
  exact ⟨l[j], by rw [h2, List.getElem?_eq_getElem h3], List.getElem?_eq_getElem h3⟩
theorem add_eq (a : Addr) (n : Nat) : (a.add n).block = a.block ∧ (a.add n).off = a.off + n ∧ ((a.add n).spot = none → n = 0 → a.spot = none) := by
  unfold Addr.add
  split
  · rename_i h; subst h; exact ⟨rfl, rfl, fun h _ => h⟩
  · rename_i h; exact ⟨rfl, rfl, fun _ h' => absurd h' h⟩
theorem cell_some {w : World} {a : Addr} {v : Value} (h : w.cell? a = some v) : a.spot = none ∧ ∃ cs e fz, w.heap[a.block]? = some (.cells cs e fz) ∧ cs[a.off]? = some v := by
  unfold World.cell? at h
  split at h
  · rename_i cs e fz hb
    split at h
    · cases h
    · rename_i hs
      refine ⟨by cases hh : a.spot with | none => rfl | some x => rw [hh] at hs; simp at hs, cs, e, fz, hb, h⟩
  · cases h
section
variable {E : Env} {P : Program} (hE : EnvOk E P) {w : World} {H : Type} {enc : TypeId × Value → H}
include hE
theorem slice_cells {k fuel : Nat} {t e : TypeId} {cs0 : List Value} {x0 : DataW H × List MemPlace} (hu : E.und t = some (.slice e)) (hsz : E.size e = some (k + 1)) (h : DataW.trod enc P w 0 (fun _ => true) true fuel t cs0 = some x0) :
    ∃ v rows, cs0 = [v] ∧ LaR w v (k + 1) rows ∧ rows.length ≤ maxLen ∧ ∀ row ∈ rows, ∃ fuel x, DataW.trod enc P w 0 (fun _ => true) true fuel e row = some x := by
  have hup := @EnvOk.und dV dF E P hE t _ hu
  have hcell : P.cellsOf e = k + 1 := @EnvOk.cellsOf dV dF E P hE e _ hsz
  rcases DataW.trod_slice hup h with ⟨h1, _⟩ | ⟨a, len, cap, elems, rest, n, rfl, rfl, h2, h3, h4, h5, h6, h7, h8, _⟩
  · subst h1
    exact ⟨.slice none 0 0, [], rfl, ⟨by simp, none, 0, rfl, Nat.le_refl _, .inl rfl⟩, Nat.zero_le _, by simp⟩
  · rw [hcell] at h7 h8
    obtain ⟨h9, h8⟩ := h8 rfl
    have el : ∀ i, i < len → ∃ row x, w.cells? 0 (a.add (i * (k + 1))) (k + 1) = some row ∧ DataW.trod enc P w 0 (fun _ => true) true n e row = some x := by
      intro i hi
      have := h7 i hi
      rw [List.getElem?_eq_getElem (by omega)] at this
      obtain ⟨row, e1, e2⟩ := Option.bind_eq_some_iff.1 this
      exact ⟨row, _, e1, e2⟩
    have any : ∀ i, i < cap → ∃ row, w.cells? 0 (a.add (i * (k + 1))) (k + 1) = some row := by
      intro i hi
      by_cases hlt : i < len
      · obtain ⟨row, _, e1, _⟩ := el i hlt; exact ⟨row, e1⟩
      · have := h8 (i - len) (by omega)
        rw [List.getElem?_eq_getElem (by omega)] at this
        obtain ⟨row, e1, e2⟩ := Option.bind_eq_some_iff.1 this
        exact ⟨row, by rwa [show len + (i - len) = i from by omega] at e1⟩
    let rows := (List.range len).map fun i => (w.cells? 0 (a.add (i * (k + 1))) (k + 1)).getD []
    have hlen : rows.length = len := by simp [rows]
    have hget : ∀ (i : Nat) row, rows[i]? = some row → i < len ∧ w.cells? 0 (a.add (i * (k + 1))) (k + 1) = some row := by
      intro i row hi
      have hlt : i < len := by rw [← hlen]; exact (List.getElem?_eq_some_iff.1 hi).1
      obtain ⟨row', _, e1, _⟩ := el i hlt
      have : rows[i]? = some row' := by simp [rows, hlt, e1]
      rw [this] at hi
      cases hi
      exact ⟨hlt, e1⟩
    refine ⟨.slice (some a) len cap, rows, rfl, ⟨fun row hrow => ?_, some a, cap, by rw [hlen], by omega, ?_⟩, by omega, fun row hrow => ?_⟩
    · obtain ⟨i, hi⟩ := List.getElem?_of_mem hrow
      exact (cells_get (hget i row hi).2).1
    · rcases Nat.eq_zero_or_pos cap with h0 | h0
      · exact .inl h0
      · right
        obtain ⟨row, hr⟩ := any (cap - 1) (by omega)
        obtain ⟨_, hc⟩ := cells_get hr
        obtain ⟨x, hx, _⟩ := hc k (by omega)
        obtain ⟨hs, cs, el', fz, hb, hx⟩ := cell_some hx
        obtain ⟨row0, hr0⟩ := any 0 h0
        obtain ⟨_, hc0⟩ := cells_get hr0
        obtain ⟨x0, hx0, _⟩ := hc0 0 (by omega)
        obtain ⟨hs0, _⟩ := cell_some hx0
        have hsp : a.spot = none := by
          have h1 := (add_eq (a.add (0 * (k + 1))) 0).2.2 hs0 rfl
          exact (add_eq a (0 * (k + 1))).2.2 h1 (by omega)
        obtain ⟨blk, off, spot⟩ := a
        have hs : spot = none := hsp
        subst hs
        have hlt := (Array.getElem?_eq_some_iff.1 hx).1
        rw [(add_eq _ _).1, (add_eq _ _).1] at hb
        rw [(add_eq _ _).2.1, (add_eq _ _).2.1] at hlt
        have hb : w.heap[blk]? = some (.cells cs el' fz) := hb
        have hlt : off + (cap - 1) * (k + 1) + k < cs.size := hlt
        refine ⟨blk, off, rfl, cs, el', fz, hb, ?_, fun i row hi j y hj => ?_⟩
        · have : (cap - 1) * (k + 1) + (k + 1) = cap * (k + 1) := by rw [← Nat.succ_mul]; congr 1; omega
          omega
        · obtain ⟨_, hr⟩ := hget i row hi
          obtain ⟨hl, hc⟩ := cells_get hr
          obtain ⟨z, hz, hz2⟩ := hc j (by have := (List.getElem?_eq_some_iff.1 hj).1; omega)
          obtain ⟨_, cs', e', fz', hb', hz⟩ := cell_some hz
          rw [(add_eq _ _).1, (add_eq _ _).1] at hb'
          rw [(add_eq _ _).2.1, (add_eq _ _).2.1] at hz
          have hb' : w.heap[blk]? = some (.cells cs' e' fz') := hb'
          rw [hb] at hb'
          cases hb'
          rw [hj] at hz2
          cases hz2
          exact hz
    · obtain ⟨i, hi⟩ := List.getElem?_of_mem hrow
      obtain ⟨hlt, hr⟩ := hget i row hi
      obtain ⟨row', x, e1, e2⟩ := el i hlt
      rw [hr] at e1
      cases e1
      exact ⟨n, x, e2⟩
theorem slice_rows {r : Reach} {b0 k : Nat} {t e : TypeId} {v : Value} {d : DataW H} {ps : List MemPlace} (hu : E.und t = some (.slice e)) (hsz : E.size e = some (k + 1)) (hok : Value.okWide P w r b0 t v)
    (h : DataW.Trod enc P w 0 (fun _ => true) true t v d ps) :
    ∃ rows, LaR w v (k + 1) rows ∧ rows.length ≤ maxLen ∧ ∀ row ∈ rows, ∃ fuel x, DataW.trod enc P w 0 (fun _ => true) true fuel e row = some x := by
  have hup := @EnvOk.und dV dF E P hE t _ hu
  obtain ⟨base, len, cap, rfl⟩ : ∃ base len cap, v = .slice base len cap := by
    unfold Value.okWide at hok
    rw [hup] at hok
    simp only at hok
    unfold Cell.okWide at hok
    rw [hup] at hok
    simp only at hok
    unfold Cell.ok at hok
    rw [hup] at hok
    cases v <;> first | exact ⟨_, _, _, rfl⟩ | exact hok.elim
  obtain ⟨fuel, h⟩ := h
  obtain ⟨v, rows, e1, h1⟩ := slice_cells hE hu hsz (show DataW.trod enc P w 0 (fun _ => true) true fuel t [.slice base len cap] = some (d, ps) from h)
  cases e1
  exact ⟨rows, h1⟩
end
end
end Go.Ev

namespace Go.Ev
set_option linter.unusedVariables false
set_option linter.unusedSectionVars false
set_option linter.unusedSimpArgs false
noncomputable section
/-! # calls that compare data: data of numbers, booleans, lists of rows -/
inductive Td where
  | i (k : IntKind)
  | b
  | l (ts : List Td)
inductive Dc where
  | i (n : Int)
  | b (b : Bool)
  | l (rows : List (List Dc))
def Dc.num : Dc → Int
  | .i n => n
  | .b true => 1
  | _ => 0
def kmn : IntKind → Int
  | .i64 => -9223372036854775808
  | _ => 0
def kmx : IntKind → Int
  | .i64 => 9223372036854775807
  | .u32 => 4294967295
  | _ => 255
mutual
def RdC (W : World) : Td → Dc → Value → Prop
  | .i k, d, v => ∃ n, d = .i n ∧ v = .int k n ∧ kmn k ≤ n ∧ n ≤ kmx k ∧ fitK k (kmn k) (kmx k) = true
  | .b, d, v => ∃ b, d = .b b ∧ v = .bool b
  | .l ts, d, v => ∃ drs vrs, d = .l drs ∧ LaR W v ts.length vrs ∧ vrs.length ≤ 9223372036854775807 ∧ drs.length = vrs.length ∧ ∀ (i : Nat) dr vr, drs[i]? = some dr → vrs[i]? = some vr → RdR W ts dr vr
def RdR (W : World) : List Td → List Dc → List Value → Prop
  | [], ds, vs => ds = [] ∧ vs = []
  | t :: ts, ds, vs => ∃ d v ds' vs', ds = d :: ds' ∧ vs = v :: vs' ∧ RdC W t d v ∧ RdR W ts ds' vs'
end
theorem LaR.ext {W w : World} {v : Value} {sz : Nat} {rows : List (List Value)} (h : LaR W v sz rows) (he : Ext W.heap.size W w) : LaR w v sz rows := by
  obtain ⟨h1, base, cap, h2, h3, h4⟩ := h
  refine ⟨h1, base, cap, h2, h3, ?_⟩
  rcases h4 with h4 | ⟨b, off, h4, cs, e, fz, h5, h6⟩
  · exact .inl h4
  · exact .inr ⟨b, off, h4, cs, e, fz, by rw [he.block b (Array.getElem?_eq_some_iff.1 h5).1]; exact h5, h6⟩
mutual
theorem RdC.ext {W w : World} (he : Ext W.heap.size W w) : ∀ (t : Td) (d : Dc) (v : Value), RdC W t d v → RdC w t d v
  | .i k, d, v, h => by simpa only [RdC] using h
  | .b, d, v, h => by simpa only [RdC] using h
  | .l ts, d, v, h => by
    simp only [RdC] at h ⊢
    obtain ⟨drs, vrs, h1, h2, h3, h4, h5⟩ := h
    exact ⟨drs, vrs, h1, h2.ext he, h3, h4, fun i dr vr a b => RdR.ext he ts dr vr (h5 i dr vr a b)⟩
theorem RdR.ext {W w : World} (he : Ext W.heap.size W w) : ∀ (ts : List Td) (ds : List Dc) (vs : List Value), RdR W ts ds vs → RdR w ts ds vs
  | [], ds, vs, h => by simpa only [RdR] using h
  | t :: ts, ds, vs, h => by
    simp only [RdR] at h ⊢
    obtain ⟨d, v, ds', vs', h1, h2, h3, h4⟩ := h
    exact ⟨d, v, ds', vs', h1, h2, RdC.ext he t d v h3, RdR.ext he ts ds' vs' h4⟩
end
theorem RdR.len {W : World} : ∀ {ts : List Td} {ds : List Dc} {vs : List Value}, RdR W ts ds vs → ds.length = ts.length ∧ vs.length = ts.length
  | [], ds, vs, h => by simp only [RdR] at h; obtain ⟨rfl, rfl⟩ := h; exact ⟨rfl, rfl⟩
  | t :: ts, ds, vs, h => by
    simp only [RdR] at h
    obtain ⟨d, v, ds', vs', rfl, rfl, _, h4⟩ := h
    have := RdR.len h4
    simp [this.1, this.2]
theorem RdR.get {W : World} : ∀ {ts : List Td} {ds : List Dc} {vs : List Value}, RdR W ts ds vs → ∀ {j : Nat} {t : Td}, ts[j]? = some t → ∃ d v, ds[j]? = some d ∧ vs[j]? = some v ∧ RdC W t d v
  | [], ds, vs, h, j, t, hj => by simp at hj
  | t0 :: ts, ds, vs, h, j, t, hj => by
    simp only [RdR] at h
    obtain ⟨d, v, ds', vs', rfl, rfl, h3, h4⟩ := h
    cases j with
    | zero => simp at hj; subst hj; exact ⟨d, v, rfl, rfl, h3⟩
    | succ j => simpa using RdR.get h4 (by simpa using hj)
theorem RdR.drop {W : World} : ∀ {ts : List Td} {ds : List Dc} {vs : List Value}, RdR W ts ds vs → ∀ n, RdR W (ts.drop n) (ds.drop n) (vs.drop n)
  | _, _, _, h, 0 => by simpa using h
  | [], ds, vs, h, n + 1 => by simp only [RdR] at h; obtain ⟨rfl, rfl⟩ := h; simp [RdR]
  | t :: ts, ds, vs, h, n + 1 => by
    simp only [RdR] at h
    obtain ⟨d, v, ds', vs', rfl, rfl, h3, h4⟩ := h
    simpa using h4.drop n
theorem RdR.take {W : World} : ∀ {ts : List Td} {ds : List Dc} {vs : List Value}, RdR W ts ds vs → ∀ n, RdR W (ts.take n) (ds.take n) (vs.take n)
  | _, _, _, h, 0 => by simp [RdR]
  | [], ds, vs, h, n + 1 => by simp only [RdR] at h; obtain ⟨rfl, rfl⟩ := h; simp [RdR]
  | t :: ts, ds, vs, h, n + 1 => by
    simp only [RdR] at h
    obtain ⟨d, v, ds', vs', rfl, rfl, h3, h4⟩ := h
    simp only [List.take_succ_cons, RdR]
    exact ⟨d, v, _, _, rfl, rfl, h3, h4.take n⟩
def eqB {α : Type} (a b : α) : Bool := @decide (a = b) (Classical.propDecidable _)
theorem eqB_iff {α : Type} {a b : α} : eqB a b = true ↔ a = b := by unfold eqB; exact @decide_eq_true_iff _ (Classical.propDecidable _)
theorem eqB_false {α : Type} {a b : α} : eqB a b = false ↔ a ≠ b := by
  rw [← Bool.not_eq_true, eqB_iff]
/-! ## names of cells -/
def Key.nat : Key → Nat
  | .mk a b c d e => (((a.toNat * 8 + b.toNat) * 8 + c.toNat) * 8 + d.toNat) * 8 + e.toNat
theorem D.nat_ofNat : ∀ x, x < 8 → (D.ofNat x).toNat = x := by
  intro x hx
  rcases x with _ | _ | _ | _ | _ | _ | _ | _ | x <;> first | rfl | omega
theorem Key.nat_ofNat {m : Nat} (h : m < 32768) : (Key.ofNat m).nat = m := by
  unfold Key.ofNat Key.nat
  have e : ∀ a b : Nat, Nat.mod a b = a % b := fun _ _ => rfl
  have e2 : ∀ a b : Nat, Nat.div a b = a / b := fun _ _ => rfl
  simp only [e, e2]
  rw [D.nat_ofNat _ (by omega), D.nat_ofNat _ (by omega), D.nat_ofNat _ (by omega), D.nat_ofNat _ (by omega), D.nat_ofNat _ (by omega)]
  omega
theorem Key.ne_kZ {m : Nat} (h : m < 32767) : Key.beq (Key.ofNat m) kZ = false := by
  cases e : Key.beq (Key.ofNat m) kZ with
  | false => rfl
  | true =>
    have e1 := congrArg Key.nat (Key.beq_eq e)
    rw [Key.nat_ofNat (by omega)] at e1
    have : kZ.nat = 32767 := rfl
    omega
def cellA (t : Td) (k : Key) : AV :=
  match t with
  | .i kd => .sx kd k 0 (kmn kd) (kmx kd)
  | .b => .eqv k 1 false
  | .l _ => .nv k true
def rowA : List Td → Nat → List AV
  | [], _ => []
  | t :: ts, n => cellA t (Key.ofNat n) :: rowA ts (n + 1)
def Fx [Val] (a : AV) (v : Value) : Prop := ∀ μ u, VR μ a u ↔ u = v
def FxR [Val] : List AV → List Value → Prop
  | [], vs => vs = []
  | a :: l, vs => ∃ v r, vs = v :: r ∧ Fx a v ∧ FxR l r
section
variable [Val]
theorem FxR.vrs : ∀ {l : List AV} {vs : List Value}, FxR l vs → ∀ μ, VRs μ l vs
  | [], vs, h, μ => by rw [show vs = [] from h]; exact .nil
  | a :: l, vs, h, μ => by
    obtain ⟨v, r, rfl, h1, h2⟩ := h
    exact .cons ((h1 μ v).2 rfl) (h2.vrs μ)
theorem FxR.uniq : ∀ {l : List AV} {vs : List Value}, FxR l vs → ∀ {μ : Mu} {us : List Value}, VRs μ l us → us = vs
  | [], vs, h, μ, us, k => by rw [show vs = [] from h]; exact k.nil_inv
  | a :: l, vs, h, μ, us, k => by
    obtain ⟨v, r, rfl, h1, h2⟩ := h
    obtain ⟨u, s, rfl, k1, k2⟩ := k.cons_inv
    rw [(h1 μ u).1 k1, h2.uniq k2]
theorem FxR.agg {l : List AV} {vs : List Value} (h : FxR l vs) : Fx (.agg l) (.agg vs.toArray) := by
  intro μ u
  simp only [VR]
  constructor
  · rintro ⟨cs, rfl, k⟩
    have := h.uniq k
    rw [← this]
  · rintro rfl
    exact ⟨_, rfl, h.vrs μ⟩
theorem FxR.set : ∀ {l : List AV} {vs : List Value}, FxR l vs → ∀ {j : Nat} {a : AV} , (∀ v, vs[j]? = some v → Fx a v) → FxR (l.set j a) vs
  | [], vs, h, j, a, k => by simpa using h
  | b :: l, vs, h, j, a, k => by
    obtain ⟨v, r, rfl, h1, h2⟩ := h
    cases j with
    | zero => exact ⟨v, r, rfl, k v rfl, h2⟩
    | succ j => exact ⟨v, r, rfl, h1, h2.set fun u hu => k u (by simpa using hu)⟩
theorem FxR.take : ∀ {l : List AV} {vs : List Value}, FxR l vs → ∀ n, FxR (l.take n) (vs.take n)
  | _, _, h, 0 => by simp [FxR]
  | [], vs, h, n + 1 => by rw [show vs = [] from h]; simp [FxR]
  | a :: l, vs, h, n + 1 => by
    obtain ⟨v, r, rfl, h1, h2⟩ := h
    exact ⟨v, _, rfl, h1, h2.take n⟩
theorem FxR.drop : ∀ {l : List AV} {vs : List Value}, FxR l vs → ∀ n, FxR (l.drop n) (vs.drop n)
  | _, _, h, 0 => by simpa using h
  | [], vs, h, n + 1 => by rw [show vs = [] from h]; simp [FxR]
  | a :: l, vs, h, n + 1 => by
    obtain ⟨v, r, rfl, h1, h2⟩ := h
    simpa using h2.drop n
theorem FxR.get : ∀ {l : List AV} {vs : List Value}, FxR l vs → ∀ {j : Nat} {a : AV}, l[j]? = some a → ∃ v, vs[j]? = some v ∧ Fx a v
  | [], vs, h, j, a, hj => by simp at hj
  | b :: l, vs, h, j, a, hj => by
    obtain ⟨v, r, rfl, h1, h2⟩ := h
    cases j with
    | zero => simp at hj; subst hj; exact ⟨v, rfl, h1⟩
    | succ j => simpa using h2.get (by simpa using hj)
theorem Fx.bool (b : Bool) : Fx (.bool b) (.bool b) := fun μ u => by simp only [VR]
theorem Fx.cell {W : World} {t : Td} {d : Dc} {v : Value} {k : Key} (h : RdC W t d v) (hn : Val.n k = d.num) (hl : Val.l k = [[v]]) : Fx (cellA t k) v := by
  intro μ u
  cases t with
  | i kd =>
    simp only [RdC] at h
    obtain ⟨n, rfl, rfl, h1, h2, h3⟩ := h
    have hn : Val.n k = n := hn
    show VR μ (.sx kd k 0 (kmn kd) (kmx kd)) u ↔ _
    simp only [VR, hn, Int.add_zero, fitW h3 h1 h2]
    exact ⟨fun h => h.1, fun h => ⟨h, h1, h2⟩⟩
  | b =>
    simp only [RdC] at h
    obtain ⟨b, rfl, rfl⟩ := h
    show VR μ (.eqv k 1 false) u ↔ _
    simp only [VR, hn]
    cases b <;> simp [Dc.num]
  | l ts =>
    simp only [RdC] at h
    obtain ⟨drs, vrs, rfl, ⟨h1, base, cap, rfl, h2, h3⟩, h4, _⟩ := h
    show VR μ (.nv k true) u ↔ _
    simp only [VR, hl]
    constructor
    · rintro ⟨⟨h, _⟩, _⟩
      simp only [List.cons.injEq, and_true] at h
      exact h.symm
    · rintro rfl
      exact ⟨⟨rfl, fun h => by cases h⟩, trivial, fun _ => ⟨_, _, _, rfl, h4⟩⟩
theorem FxR.row {W : World} : ∀ {ts : List Td} {ds : List Dc} {vs : List Value} {n : Nat}, RdR W ts ds vs → (∀ j d v, ds[j]? = some d → vs[j]? = some v → Val.n (Key.ofNat (n + j)) = d.num ∧ Val.l (Key.ofNat (n + j)) = [[v]]) → FxR (rowA ts n) vs
  | [], ds, vs, n, h, _ => by simp only [RdR] at h; exact h.2
  | t :: ts, ds, vs, n, h, k => by
    simp only [RdR] at h
    obtain ⟨d, v, ds', vs', rfl, rfl, h3, h4⟩ := h
    refine ⟨v, vs', rfl, Fx.cell h3 (k 0 d v rfl rfl).1 (k 0 d v rfl rfl).2, FxR.row h4 fun j d' v' e1 e2 => ?_⟩
    have := k (j + 1) d' v' (by simpa using e1) (by simpa using e2)
    rw [show n + (j + 1) = n + 1 + j from by omega] at this
    exact this
end
end
end Go.Ev

namespace Go.Ev
set_option linter.unusedVariables false
set_option linter.unusedSectionVars false
set_option linter.unusedSimpArgs false
noncomputable section
/-! ## comparisons of two rows, one behind the other -/
inductive Cm where
  | cell (j : Nat)
  | many (g j n : Nat)
  | list (g j : Nat) (ex : List AV)
def Cm.is (da db : List Dc) : Cm → Bool
  | .cell j => eqB da[j]? db[j]?
  | .many _ j n => eqB ((da.drop j).take n) ((db.drop j).take n)
  | .list _ j _ => eqB da[j]? db[j]?
def Cm.has (c : Cm) (j : Nat) : Bool := match c with
  | .cell i => Nat.beq i j
  | .many _ i n => cnd (Nat.ble i j) (Nat.blt j (i + n)) false
  | .list _ i _ => Nat.beq i j
def covers (n : Nat) (cs : List Cm) : Bool := (List.range n).all fun j => cs.any fun c => c.has j
def CmpS (P : Program) (f : Nat) (ts : List Td) : Prop := ∀ (W : World) (da db : List Dc) (va vb : Array Value), RdR W ts da va.toList → RdR W ts db vb.toList →
  Calls P f #[.agg va, .agg vb] W (fun e w' => e = .returned (.bool (eqB da db)) ∧ Ext W.heap.size W w')
def exV : List AV → List Value
  | [] => []
  | .func (.fn f) [] [] :: l => .func f #[] #[] :: exV l
  | _ :: l => exV l
def exOk : List AV → Bool
  | [] => true
  | .func (.fn _) [] [] :: l => exOk l
  | _ => false
def CmpL (P : Program) (f : Nat) (ts : List Td) (ex : List AV) : Prop := ∀ (W : World) (da db : Dc) (va vb : Value), RdC W (.l ts) da va → RdC W (.l ts) db vb →
  Calls P f (va :: vb :: exV ex).toArray W (fun e w' => e = .returned (.bool (eqB da db)) ∧ Ext W.heap.size W w')
def Cm.ok (P : Program) (ts : List Td) : Cm → Prop
  | .cell j => ∃ t, ts[j]? = some t ∧ ∀ l, t ≠ .l l
  | .many g j n => CmpS P g ((ts.drop j).take n)
  | .list g j ex => exOk ex = true ∧ ∃ l, ts[j]? = some (.l l) ∧ CmpL P g l ex
theorem is_all {W : World} {ts : List Td} {da db : List Dc} {va vb : List Value} (ha : RdR W ts da va) (hb : RdR W ts db vb) {cs : List Cm} (hc : covers ts.length cs = true) (h : ∀ c ∈ cs, c.is da db = true) : da = db := by
  apply List.ext_getElem?
  intro j
  by_cases hj : j < ts.length
  · have := List.all_eq_true.1 hc j (List.mem_range.2 hj)
    obtain ⟨c, hc1, hc2⟩ := List.any_eq_true.1 this
    have hi := h c hc1
    cases c with
    | cell i => rw [← Nat.eq_of_beq_eq_true hc2]; exact eqB_iff.1 hi
    | list g i ex => rw [← Nat.eq_of_beq_eq_true hc2]; exact eqB_iff.1 hi
    | many g i n =>
      obtain ⟨h1, h2⟩ := an2 hc2
      have h1 := Nat.le_of_ble_eq_true h1
      have h2 : j < i + n := by simpa [Nat.blt_eq] using h2
      have := congrArg (fun l : List Dc => l[j - i]?) (eqB_iff.1 hi)
      simp only [List.getElem?_take, List.getElem?_drop] at this
      rw [if_pos (by omega), if_pos (by omega), show i + (j - i) = j from by omega] at this
      exact this
  · rw [List.getElem?_eq_none (by rw [ha.len.1]; omega), List.getElem?_eq_none (by rw [hb.len.1]; omega)]
theorem is_no {da db : List Dc} {c : Cm} (h : c.is da db = false) : da ≠ db := by
  rintro rfl
  cases c <;> exact eqB_false.1 h rfl
/-! what is known in the class where the comparison p is the first that says no -/
def clsB (ts : List Td) (n : Nat) : List Cm → List AV → List AV
  | [], l => l
  | .cell j :: cs, l => clsB ts n cs (l.set j (cellA (ts.getD j .b) (Key.ofNat (n + j))))
  | _ :: cs, l => clsB ts n cs l
def clsU (ts : List Td) (u : Bool) (c : Option Cm) (l : List AV) : List AV :=
  match c with
  | some (.cell j) => (match ts[j]? with
    | some .b => l.set j (.bool u)
    | _ => l)
  | _ => l
def clsR (ts : List Td) (n m : Nat) (c : Option Cm) : List Rl :=
  match c with
  | some (.cell j) => (match ts[j]? with
    | some (.i _) => [.ne (Key.ofNat (n + j)) (Key.ofNat (m + j))]
    | _ => [])
  | _ => []
def smOf (la lb : List AV) (b : Bool) : Cm → List Sme
  | .cell _ => []
  | .many g j n => [.mk g [.agg ((la.drop j).take n), .agg ((lb.drop j).take n)] (.bool b) []]
  | .list g j ex => [.mk g (la.getD j .top :: lb.getD j .top :: ex) (.bool b) []]
def smAll (la lb : List AV) (cs : List Cm) (p : Nat) : List Sme := (cs.take p).flatMap (smOf la lb true) ++ (cs[p]?.toList.flatMap (smOf la lb false))
def rowsA (ts : List Td) (n : Nat) (cs : List Cm) (p : Nat) (u : Bool) : List AV := clsU ts u cs[p]? (rowA ts n)
def rowsB (ts : List Td) (n m : Nat) (cs : List Cm) (p : Nat) (u : Bool) : List AV := clsU ts (!u) cs[p]? (clsB ts n (cs.take p) (rowA ts m))
def firstNo (da db : List Dc) : List Cm → Nat
  | [] => 0
  | c :: cs => cnd (c.is da db) (firstNo da db cs + 1) 0
theorem firstNo_le {da db : List Dc} : ∀ cs : List Cm, firstNo da db cs ≤ cs.length
  | [] => Nat.le_refl _
  | c :: cs => by
    unfold firstNo
    cases c.is da db with
    | true => have := firstNo_le (da := da) (db := db) cs; show firstNo da db cs + 1 ≤ _; simp; omega
    | false => exact Nat.zero_le _
theorem firstNo_take {da db : List Dc} : ∀ cs : List Cm, ∀ c ∈ cs.take (firstNo da db cs), c.is da db = true
  | [], c, h => by simp at h
  | c0 :: cs, c, h => by
    unfold firstNo at h
    cases hc : c0.is da db with
    | true =>
      rw [hc] at h
      have h : c ∈ c0 :: cs.take (firstNo da db cs) := h
      rcases List.mem_cons.1 h with rfl | h
      · exact hc
      · exact firstNo_take cs c h
    | false => rw [hc] at h; simp [cnd] at h
theorem firstNo_at {da db : List Dc} : ∀ cs : List Cm, ∀ c, cs[firstNo da db cs]? = some c → c.is da db = false
  | [], c, h => by simp at h
  | c0 :: cs, c, h => by
    unfold firstNo at h
    cases hc : c0.is da db with
    | true => rw [hc] at h; exact firstNo_at cs c (by simpa [cnd] using h)
    | false => rw [hc] at h; simp [cnd] at h; rw [← h]; exact hc
section
variable [Val]
structure Nms (n : Nat) (ds : List Dc) (vs : List Value) : Prop where
  nm : ∀ j d v, ds[j]? = some d → vs[j]? = some v → Val.n (Key.ofNat (n + j)) = d.num ∧ Val.l (Key.ofNat (n + j)) = [[v]]
theorem nocell {W : World} {t : Td} {d : Dc} {v v' : Value} (ht : ∀ l, t ≠ .l l) (h : RdC W t d v) (k : RdC W t d v') : v = v' := by
  cases t with
  | i k0 => simp only [RdC] at h k; obtain ⟨n, rfl, rfl, _⟩ := h; obtain ⟨m, e, rfl, _⟩ := k; cases e; rfl
  | b => simp only [RdC] at h k; obtain ⟨n, rfl, rfl⟩ := h; obtain ⟨m, e, rfl⟩ := k; cases e; rfl
  | l ts => exact absurd rfl (ht ts)
variable {P : Program} {W : World} {ts : List Td} {da db : List Dc} {va vb : List Value} (ha : RdR W ts da va) (hb : RdR W ts db vb) {n m : Nat} (na : Nms n da va) (nb : Nms m db vb)
include ha hb na in
theorem clsB_fx : ∀ (cs : List Cm), (∀ c ∈ cs, c.ok P ts ∧ c.is da db = true) → ∀ {l : List AV}, FxR l vb → FxR (clsB ts n cs l) vb
  | [], _, l, hl => hl
  | c :: cs, h, l, hl => by
    have ht : ∀ c ∈ cs, c.ok P ts ∧ c.is da db = true := fun c hc => h c (List.mem_cons_of_mem _ hc)
    cases c with
    | cell j =>
      obtain ⟨⟨t, h1, h2⟩, h3⟩ := h _ (List.mem_cons_self ..)
      refine clsB_fx cs ht (hl.set fun v hv => ?_)
      obtain ⟨d, v1, e1, e2, e3⟩ := ha.get h1
      obtain ⟨d', v2, e4, e5, e6⟩ := hb.get h1
      have he : da[j]? = db[j]? := eqB_iff.1 h3
      rw [e1, e4] at he
      cases he
      rw [e5] at hv
      cases hv
      rw [List.getD_eq_getElem?_getD, h1]
      rw [nocell h2 e6 e3]
      exact Fx.cell e3 (na.nm j d v1 e1 e2).1 (na.nm j d v1 e1 e2).2
    | many g j k => exact clsB_fx cs ht hl
    | list g j ex => exact clsB_fx cs ht hl
end
end
end Go.Ev

namespace Go.Ev
set_option linter.unusedVariables false
set_option linter.unusedSectionVars false
set_option linter.unusedSimpArgs false
noncomputable section
def uOf (da : List Dc) (c : Option Cm) : Bool :=
  match c with
  | some (.cell j) => (match da[j]? with
    | some (.b u) => u
    | _ => true)
  | _ => true
theorem exOk_fx [Val] : ∀ {ex : List AV}, exOk ex = true → FxR ex (exV ex)
  | [], _ => rfl
  | .func (.fn f) [] [] :: l, h => by
    refine ⟨.func f #[] #[], exV l, rfl, fun μ u => ?_, exOk_fx (ex := l) h⟩
    simp only [VR, FnR]
    constructor
    · rintro ⟨F, fs, cs, rfl, rfl, h1, h2⟩
      have e1 : fs = #[] := Array.toList_inj.1 h1.nil_inv
      have e2 : cs = #[] := Array.toList_inj.1 h2.nil_inv
      rw [e1, e2]
    · rintro rfl
      exact ⟨f, #[], #[], rfl, rfl, .nil, .nil⟩
  | .func (.yield _) _ _ :: l, h => by cases h
  | .func (.fn _) (_ :: _) _ :: l, h => by cases h
  | .func (.fn _) [] (_ :: _) :: l, h => by cases h
  | .top :: _, h => by cases h
  | .any :: _, h => by cases h
  | .ub :: _, h => by cases h
  | .bool _ :: _, h => by cases h
  | .int _ _ :: _, h => by cases h
  | .rng _ _ _ :: _, h => by cases h
  | .md _ _ _ :: _, h => by cases h
  | .sl _ _ :: _, h => by cases h
  | .str _ :: _, h => by cases h
  | .ptr0 :: _, h => by cases h
  | .ptr _ _ _ :: _, h => by cases h
  | .slice0 :: _, h => by cases h
  | .slice _ _ _ _ _ _ _ :: _, h => by cases h
  | .map0 :: _, h => by cases h
  | .map _ :: _, h => by cases h
  | .nilFunc :: _, h => by cases h
  | .iface _ _ :: _, h => by cases h
  | .nilIface :: _, h => by cases h
  | .agg _ :: _, h => by cases h
  | .tuple _ :: _, h => by cases h
  | .sx _ _ _ _ _ :: _, h => by cases h
  | .le _ _ _ :: _, h => by cases h
  | .eqv _ _ _ :: _, h => by cases h
  | .stx _ :: _, h => by cases h
  | .nsl _ _ _ _ _ _ _ _ :: _, h => by cases h
  | .nix _ _ _ _ _ _ :: _, h => by cases h
  | .stq _ :: _, h => by cases h
  | .nv _ _ :: _, h => by cases h
section
variable [Val] {P : Program} {W : World} {ts : List Td} {da db : List Dc} {va vb : List Value} (ha : RdR W ts da va) (hb : RdR W ts db vb) {n m : Nat} (na : Nms n da va) (nb : Nms m db vb) {cs : List Cm} (hok : ∀ c ∈ cs, c.ok P ts)
include ha na in
theorem rowA_fx : FxR (rowA ts n) va := FxR.row ha na.nm
include ha hb in
theorem bools {j : Nat} (h : ts[j]? = some .b) (hne : da[j]? ≠ db[j]?) : ∃ u, da[j]? = some (.b u) ∧ db[j]? = some (.b !u) ∧ va[j]? = some (.bool u) ∧ vb[j]? = some (.bool !u) := by
  obtain ⟨d, v, e1, e2, e3⟩ := ha.get h
  obtain ⟨d', v', e4, e5, e6⟩ := hb.get h
  simp only [RdC] at e3 e6
  obtain ⟨b, rfl, rfl⟩ := e3
  obtain ⟨b', rfl, rfl⟩ := e6
  have : b' = !b := by
    cases b <;> cases b' <;> first | rfl | (rw [e1, e4] at hne; exact absurd rfl hne)
  subst this
  exact ⟨b, e1, e4, e2, e5⟩
include ha hb in
theorem clsU_fx {c : Option Cm} (hc : ∀ x, c = some x → x.is da db = false) {la lb : List AV} (h1 : FxR la va) (h2 : FxR lb vb) : FxR (clsU ts (uOf da c) c la) va ∧ FxR (clsU ts (!uOf da c) c lb) vb := by
  unfold clsU
  split
  · rename_i j
    split
    · rename_i hj
      obtain ⟨u, e1, e2, e3, e4⟩ := bools ha hb hj (eqB_false.1 (hc _ rfl))
      have hu : uOf da (some (.cell j)) = u := by simp only [uOf, e1]
      rw [hu]
      refine ⟨h1.set fun v hv => ?_, h2.set fun v hv => ?_⟩
      · rw [e3] at hv; cases hv; exact Fx.bool _
      · rw [e4] at hv; cases hv; exact Fx.bool _
    · exact ⟨h1, h2⟩
  · exact ⟨h1, h2⟩
include ha hb na nb hok in
theorem rows_fx : FxR (rowsA ts n cs (firstNo da db cs) (uOf da cs[firstNo da db cs]?)) va ∧ FxR (rowsB ts n m cs (firstNo da db cs) (uOf da cs[firstNo da db cs]?)) vb := by
  have hB := clsB_fx (P := P) ha hb na (cs.take (firstNo da db cs)) (fun c hc => ⟨hok c (List.mem_of_mem_take hc), firstNo_take cs c hc⟩) (rowA_fx hb nb)
  exact clsU_fx ha hb (fun x hx => firstNo_at cs x hx) (rowA_fx ha na) hB
include ha hb na nb in
theorem clsR_ok {c : Option Cm} (hc : ∀ x, c = some x → x.is da db = false) (hn : n + ts.length < 32767) (hm : m + ts.length < 32767) : ∀ x ∈ clsR ts n m c, RlOk x := by
  intro x hx
  unfold clsR at hx
  split at hx
  · rename_i j
    split at hx
    · rename_i k hj
      obtain rfl := List.mem_singleton.1 hx
      have hlt : j < ts.length := (List.getElem?_eq_some_iff.1 hj).1
      obtain ⟨d, v, e1, e2, e3⟩ := ha.get hj
      obtain ⟨d', v', e4, e5, e6⟩ := hb.get hj
      have hne := eqB_false.1 (hc _ rfl)
      simp only [RdC] at e3 e6
      obtain ⟨b, rfl, rfl, _⟩ := e3
      obtain ⟨b', rfl, rfl, _⟩ := e6
      simp only [RlOk]
      rw [nz_ne (Key.ne_kZ (by omega)), nz_ne (Key.ne_kZ (by omega)), (na.nm j _ _ e1 e2).1, (nb.nm j _ _ e4 e5).1]
      intro e
      have e : b = b' := e
      rw [e1, e4, e] at hne
      exact hne rfl
    · cases hx
  · cases hx
include ha hb hok in
theorem smOf_ok {C : Call0} (hW : C.W = W) {la lb : List AV} (h1 : FxR la va) (h2 : FxR lb vb) {c : Cm} (hc : c ∈ cs) {b : Bool} (hb' : c.is da db = b) : ∀ s ∈ smOf la lb b c, SmOk P C s := by
  intro s hs
  have ho := hok c hc
  cases c with
  | cell j => cases hs
  | many g j k =>
    obtain rfl := List.mem_singleton.1 hs
    intro w μ args he hv _
    rw [hW] at he
    obtain ⟨u1, r1, e1, k1, k2⟩ := hv.cons_inv
    obtain ⟨u2, r2, e2, k3, k4⟩ := k2.cons_inv
    have e3 := k4.nil_inv
    rw [(((h1.drop j).take k).agg μ u1).1 k1] at e1
    rw [(((h2.drop j).take k).agg μ u2).1 k3] at e2
    subst e3 e2
    have : args = #[.agg ((va.drop j).take k).toArray, .agg ((vb.drop j).take k).toArray] := by apply Array.toList_inj.1; rw [e1]
    subst this
    have hcl := ho w ((da.drop j).take k) ((db.drop j).take k) ((va.drop j).take k).toArray ((vb.drop j).take k).toArray (RdR.ext he _ _ _ ((ha.drop j).take k)) (RdR.ext he _ _ _ ((hb.drop j).take k))
    refine hcl.mono fun e w' ⟨e1, e2⟩ => ⟨_, e1, fun ν => ?_, e2⟩
    simp only [VR]
    rw [show eqB ((da.drop j).take k) ((db.drop j).take k) = b from hb']
  | list g j ex =>
    obtain rfl := List.mem_singleton.1 hs
    obtain ⟨hx, l, hj, hcl⟩ := ho
    obtain ⟨d, v, e1, e2, e3⟩ := ha.get hj
    obtain ⟨d', v', e4, e5, e6⟩ := hb.get hj
    have lenV : ∀ {l : List AV} {vs : List Value}, FxR l vs → l.length = vs.length := fun h => (h.vrs (fun _ _ => none)).length
    have ga : ∃ a, la[j]? = some a := ⟨_, List.getElem?_eq_getElem (by rw [lenV h1]; exact (List.getElem?_eq_some_iff.1 e2).1)⟩
    have gb : ∃ a, lb[j]? = some a := ⟨_, List.getElem?_eq_getElem (by rw [lenV h2]; exact (List.getElem?_eq_some_iff.1 e5).1)⟩
    obtain ⟨a, ga⟩ := ga
    obtain ⟨a', gb⟩ := gb
    obtain ⟨w1, f1, f2⟩ := h1.get ga
    obtain ⟨w2, f3, f4⟩ := h2.get gb
    rw [e2] at f1; cases f1
    rw [e5] at f3; cases f3
    rw [List.getD_eq_getElem?_getD, List.getD_eq_getElem?_getD, ga, gb]
    intro w μ args he hv _
    rw [hW] at he
    obtain ⟨u1, r1, q1, k1, k2⟩ := hv.cons_inv
    obtain ⟨u2, r2, q2, k3, k4⟩ := k2.cons_inv
    have q3 := (exOk_fx hx).uniq k4
    rw [(f2 μ u1).1 k1] at q1
    rw [(f4 μ u2).1 k3] at q2
    subst q3 q2
    have : args = (v :: v' :: exV ex).toArray := by apply Array.toList_inj.1; rw [q1]
    subst this
    refine (hcl w d d' v v' (RdC.ext he _ _ _ e3) (RdC.ext he _ _ _ e6)).mono fun e w' ⟨e1', e2'⟩ => ⟨_, e1', fun ν => ?_, e2'⟩
    simp only [VR]
    have : eqB da[j]? db[j]? = b := hb'
    rw [e1, e4] at this
    rw [← this]
    congr 1
    rw [Bool.eq_iff_iff, eqB_iff, eqB_iff]
    simp
include ha hb na nb hok in
theorem sm_ok {C : Call0} (hW : C.W = W) {la lb : List AV} (h1 : FxR la va) (h2 : FxR lb vb) : ∀ s ∈ smAll la lb cs (firstNo da db cs), SmOk P C s := by
  intro s hs
  rcases List.mem_append.1 hs with hs | hs
  · obtain ⟨c, hc, hs⟩ := List.mem_flatMap.1 hs
    exact smOf_ok ha hb hok hW h1 h2 (List.mem_of_mem_take hc) (firstNo_take cs c hc) s hs
  · obtain ⟨c, hc, hs⟩ := List.mem_flatMap.1 hs
    have hc : cs[firstNo da db cs]? = some c := by simpa using hc
    exact smOf_ok ha hb hok hW h1 h2 (List.mem_of_getElem? hc) (firstNo_at cs c hc) s hs
end
theorem eq_first {W : World} {ts : List Td} {da db : List Dc} {va vb : List Value} (ha : RdR W ts da va) (hb : RdR W ts db vb) {cs : List Cm} (hc : covers ts.length cs = true) : eqB da db = Nat.beq (firstNo da db cs) cs.length := by
  by_cases h : firstNo da db cs = cs.length
  · rw [h, Nat.beq_refl]
    refine eqB_iff.2 (is_all ha hb hc fun c hc' => firstNo_take cs c ?_)
    rw [h, List.take_length]; exact hc'
  · have hlt := firstNo_le (da := da) (db := db) cs
    have hi : firstNo da db cs < cs.length := by omega
    have := firstNo_at (da := da) (db := db) cs _ (List.getElem?_eq_getElem hi)
    rw [eqB_false.2 (is_no this)]
    cases e : Nat.beq (firstNo da db cs) cs.length with
    | false => rfl
    | true => exact absurd (Nat.eq_of_beq_eq_true e) h
end
end Go.Ev

namespace Go.Ev
set_option linter.unusedVariables false
set_option linter.unusedSectionVars false
set_option linter.unusedSimpArgs false
noncomputable section
def vsn (ra rb : List (List Value)) (i : Nat) (da db ea eb : List Dc) (k : Nat) : Int :=
  if k = 20 then ra.length else if k = 21 then rb.length else if k = 22 then i else if k < 50 then (da.getD (k - 30) (.i 0)).num else if k < 70 then (db.getD (k - 50) (.i 0)).num
    else if k < 90 then (ea.getD (k - 70) (.i 0)).num else (eb.getD (k - 90) (.i 0)).num
def vsl (ra rb : List (List Value)) (va vb ua ub : List Value) (k : Nat) : List (List Value) :=
  if k = 20 then ra else if k = 21 then rb else if k < 50 then [[va.getD (k - 30) undef]] else if k < 70 then [[vb.getD (k - 50) undef]]
    else if k < 90 then [[ua.getD (k - 70) undef]] else [[ub.getD (k - 90) undef]]
@[reducible] def VS (ra rb : List (List Value)) (i : Nat) (da db : List Dc) (va vb : List Value) (ea eb : List Dc) (ua ub : List Value) : Val :=
  ⟨fun k => vsn ra rb i da db ea eb k.nat, fun k => vsl ra rb va vb ua ub k.nat⟩
section
variable {ra rb : List (List Value)} {i : Nat} {da db : List Dc} {va vb : List Value} {ea eb : List Dc} {ua ub : List Value}
theorem getD_some {α : Type} {l : List α} {j : Nat} {x d : α} (h : l[j]? = some x) : l.getD j d = x := by rw [List.getD_eq_getElem?_getD, h]; rfl
theorem vs_of {n : Nat} {ds : List Dc} {vs : List Value} (h : ∀ j d v, j < ds.length → ds[j]? = some d → vs[j]? = some v → vsn ra rb i da db ea eb (n + j) = d.num ∧ vsl ra rb va vb ua ub (n + j) = [[v]]) (hn : n + ds.length < 32768) :
    @Nms (VS ra rb i da db va vb ea eb ua ub) n ds vs := by
  refine @Nms.mk (VS ra rb i da db va vb ea eb ua ub) n ds vs fun j d v h1 h2 => ?_
  have hj : j < ds.length := (List.getElem?_eq_some_iff.1 h1).1
  show vsn ra rb i da db ea eb (Key.ofNat (n + j)).nat = d.num ∧ vsl ra rb va vb ua ub (Key.ofNat (n + j)).nat = [[v]]
  rw [Key.nat_ofNat (by omega)]
  exact h j d v hj h1 h2
theorem vs_a (h : da.length ≤ 20) : @Nms (VS ra rb i da db va vb ea eb ua ub) 30 da va := vs_of (fun j d v hj h1 h2 => by
  unfold vsn vsl
  rw [if_neg (by omega), if_neg (by omega), if_neg (by omega), if_pos (by omega), if_neg (by omega), if_neg (by omega), if_pos (by omega), show 30 + j - 30 = j from by omega, getD_some h1, getD_some h2]
  exact ⟨rfl, rfl⟩) (by omega)
theorem vs_b (h : db.length ≤ 20) : @Nms (VS ra rb i da db va vb ea eb ua ub) 50 db vb := vs_of (fun j d v hj h1 h2 => by
  unfold vsn vsl
  rw [if_neg (by omega), if_neg (by omega), if_neg (by omega), if_neg (by omega), if_pos (by omega), if_neg (by omega), if_neg (by omega), if_neg (by omega), if_pos (by omega), show 50 + j - 50 = j from by omega, getD_some h1, getD_some h2]
  exact ⟨rfl, rfl⟩) (by omega)
theorem vs_c (h : ea.length ≤ 20) : @Nms (VS ra rb i da db va vb ea eb ua ub) 70 ea ua := vs_of (fun j d v hj h1 h2 => by
  unfold vsn vsl
  rw [if_neg (by omega), if_neg (by omega), if_neg (by omega), if_neg (by omega), if_neg (by omega), if_pos (by omega), if_neg (by omega), if_neg (by omega), if_neg (by omega), if_neg (by omega), if_pos (by omega), show 70 + j - 70 = j from by omega, getD_some h1, getD_some h2]
  exact ⟨rfl, rfl⟩) (by omega)
theorem vs_d (h : eb.length ≤ 20) : @Nms (VS ra rb i da db va vb ea eb ua ub) 90 eb ub := vs_of (fun j d v hj h1 h2 => by
  unfold vsn vsl
  rw [if_neg (by omega), if_neg (by omega), if_neg (by omega), if_neg (by omega), if_neg (by omega), if_neg (by omega), if_neg (by omega), if_neg (by omega), if_neg (by omega), if_neg (by omega), if_neg (by omega), show 90 + j - 90 = j from by omega, getD_some h1, getD_some h2]
  exact ⟨rfl, rfl⟩) (by omega)
end
/-! nothing is known of memory -/
def mu0 : Mu := fun _ _ => none
theorem hr_0 [Val] [Fk] (hF : FkOk) (B : Nat) (W : World) : HR B mu0 hp0 W :=
  { inj := fun _ _ _ _ _ _ _ _ _ h _ _ => (by cases h), lt := fun _ _ _ _ _ h => (by cases h), obj := fun f => (by rw [hget_hp0]; exact fun _ => rfl), side := fun _ _ _ _ _ _ _ _ h _ _ => (by cases h), fk := hF, start := fun _ _ _ _ h => (by cases h) }
theorem gr_0 {E : Env} (h : E.gm = 0) (μ : Mu) : GR E μ := by
  intro g hg
  exfalso
  have hg : Nat.beq (Nat.land E.gm (Nat.pow 2 g)) (Nat.pow 2 g) = true := hg
  rw [h] at hg
  have h1 := Nat.eq_of_beq_eq_true hg
  have h2 : Nat.land 0 (Nat.pow 2 g) = 0 := Nat.zero_and _
  rw [h2] at h1
  have : 0 < 2 ^ g := Nat.two_pow_pos g
  have h3 : (0 : Nat) = 2 ^ g := h1
  omega
def runB [Fk] (E : Env) (vs : List AV) (h : Hp) (nx : Key) : Bool :=
  match enter E E.root vs false [] h nx with
  | .go c => (match turnsC E (fun _ => false) 100000 c with
    | some [] => true
    | _ => false)
  | _ => false
theorem runB_some [Fk] {E : Env} {vs : List AV} {h : Hp} {nx : Key} (e : runB E vs h nx = true) : ∃ c, enter E E.root vs false [] h nx = .go c ∧ turnsC E (fun _ => false) 100000 c = some [] := by
  unfold runB at e
  split at e
  · rename_i c hc
    split at e
    · rename_i h2; exact ⟨c, hc, h2⟩
    · cases e
  · cases e
def runK [Fk] (E : Env) (c : Cfg) : Bool := match turnsC E (fun _ => false) 100000 c with
  | some [] => true
  | _ => false
theorem runK_some [Fk] {E : Env} {c : Cfg} (e : runK E c = true) : turnsC E (fun _ => false) 100000 c = some [] := by
  unfold runK at e
  split at e
  · rename_i h; exact h
  · cases e
theorem turns_done [Val] [Fk] {E : Env} {P : Program} (hE : EnvOk E P) {C : Call0} (hS : SumOk E P C) {hd : Cfg → Bool} {n : Nat} {c : Cfg} {m : Machine} (h : turnsC E hd n c = some []) (hs : Sim E P C c m) : Done E P C Fk.rv m := by
  rcases turns_sound hE hS (drawn_ok hE hS) n h hs with h | ⟨c', h, _⟩
  · exact h
  · cases h
theorem callsB [Val] [Fk] {b : Bool} {E : Env} {P : Program} (hE : EnvOk E P) {W : World} {vs : List AV} {args : Array Value} {h : Hp} {nx : Key} {μ : Mu} (hv : VRs μ vs args.toList) (hr : HR W.heap.size μ h W) (hg : GR E μ)
    (hrun : ∃ c, enter E E.root vs false [] h nx = .go c ∧ ∀ cs m, Sim E P ⟨cs, W⟩ c m → Done E P ⟨cs, W⟩ (.bool b) m) :
    Calls P E.root args W (fun e w' => e = .returned (.bool b) ∧ Ext W.heap.size W w') :=
  (callsD hE hv hr hg hrun).mono fun e w' ⟨v, h1, ⟨ν, h2⟩, h3⟩ => by
    simp only [VR] at h2
    subst h2
    exact ⟨h1, h3⟩
def nx0 : Key := Key.ofNat 200
@[reducible] def fkS (ts : List Td) (cs : List Cm) (p : Nat) (u : Bool) : Fk :=
  { rel := clsR ts 30 50 cs[p]?, rows := [], us := [], sm := smAll (rowsA ts 30 cs p u) (rowsB ts 30 50 cs p u) cs p, rv := .bool (Nat.beq p cs.length) }
def structB (E : Env) (ts : List Td) (cs : List Cm) : Bool :=
  (List.range (cs.length + 1)).all fun p => cnd (@runB (fkS ts cs p true) E [.agg (rowsA ts 30 cs p true), .agg (rowsB ts 30 50 cs p true)] hp0 nx0)
    (@runB (fkS ts cs p false) E [.agg (rowsA ts 30 cs p false), .agg (rowsB ts 30 50 cs p false)] hp0 nx0) false
theorem cmpS_of {E : Env} {P : Program} (hE : EnvOk E P) (hgm : E.gm = 0) (hsum : hasBody E E.sum = false) {ts : List Td} {cs : List Cm} (hl : ts.length ≤ 20) (hc : covers ts.length cs = true) (hok : ∀ c ∈ cs, c.ok P ts) (hck : structB E ts cs = true) : CmpS P E.root ts := by
  intro W da db va vb ha hb
  have na := vs_a (ra := []) (rb := []) (i := 0) (db := db) (va := va.toList) (vb := vb.toList) (ea := []) (eb := []) (ua := []) (ub := []) (da := da) (by rw [ha.len.1]; exact hl)
  have nb := vs_b (ra := []) (rb := []) (i := 0) (da := da) (va := va.toList) (vb := vb.toList) (ea := []) (eb := []) (ua := []) (ub := []) (db := db) (by rw [hb.len.1]; exact hl)
  generalize hV : VS [] [] 0 da db va.toList vb.toList [] [] [] [] = V at na nb
  have hp := firstNo_le (da := da) (db := db) cs
  obtain ⟨fa, fb⟩ := @rows_fx V P W ts da db _ _ ha hb 30 50 na nb cs hok
  have hrel := @clsR_ok V W ts da db _ _ ha hb 30 50 na nb cs[firstNo da db cs]? (fun x hx => firstNo_at cs x hx) (by omega) (by omega)
  have hsm := fun C hW => @sm_ok V P W ts da db _ _ ha hb 30 50 na nb cs hok C hW _ _ fa fb
  have heq := eq_first ha hb hc
  have hrun := List.all_eq_true.1 hck (firstNo da db cs) (List.mem_range.2 (by omega))
  obtain ⟨r1, r2⟩ := an2 hrun
  have hrun : @runB (fkS ts cs (firstNo da db cs) (uOf da cs[firstNo da db cs]?)) E [.agg (rowsA ts 30 cs (firstNo da db cs) (uOf da cs[firstNo da db cs]?)), .agg (rowsB ts 30 50 cs (firstNo da db cs) (uOf da cs[firstNo da db cs]?))] hp0 nx0 = true := by
    cases uOf da cs[firstNo da db cs]? with
    | true => exact r1
    | false => exact r2
  rw [heq]
  generalize firstNo da db cs = p at *
  generalize uOf da cs[p]? = u at *
  letI : Val := V
  letI F : Fk := fkS ts cs p u
  have hF : FkOk := ⟨hrel, fun x hx => (by cases hx), fun x hx => (by cases hx)⟩
  obtain ⟨c, h1, h2⟩ := runB_some hrun
  refine callsB (μ := mu0) hE (.cons ((fa.agg _ _).2 (by simp)) (.cons ((fb.agg _ _).2 (by simp)) .nil)) (hr_0 hF _ _) (gr_0 hgm _) ⟨c, h1, fun cs' m hs => ?_⟩
  have hS : SumOk E P ⟨cs', W⟩ := ⟨fun w _ h => by (rw [hsum] at h; cases h), fun s hs => hsm _ rfl s hs⟩
  exact turns_done hE hS h2 hs
end
end Go.Ev

namespace Go.Ev
set_option linter.unusedVariables false
set_option linter.unusedSectionVars false
set_option linter.unusedSimpArgs false
noncomputable section
/-! ## a loop over the rows of two lists of one length -/
theorem done_x {v0 v1 : Val} {E : Env} {P : Program} {C : Call0} {m : Machine} {a : AV} (ha : closedA a = true) (h : @Done v0 E P C a m) : @Done v1 E P C a m := by
  obtain ⟨fr, w, v, μ, h1, h2, h3, h4⟩ := h
  exact ⟨fr, w, v, μ, h1, h2, closedA_r a v ha h3, h4⟩
theorem done_st {v : Val} {E : Env} {P : Program} {C : Call0} {m m' : Machine} {a : AV} (h : @Done v E P C a m') (s : Steps P m m') : @Done v E P C a m := by
  obtain ⟨fr, w, u, μ, h1, h2⟩ := h
  exact ⟨fr, w, u, μ, s.trans h1, h2⟩
def kLQ : Key := Key.ofNat 20
def kLP : Key := Key.ofNat 21
def kLI : Key := Key.ofNat 22
def kLF : Key := Key.ofNat 23
def kLG : Key := Key.ofNat 24
def mxI : Int := 9223372036854775807
section
variable {ra rb : List (List Value)} {i : Nat} {da db : List Dc} {va vb : List Value} {ea eb : List Dc} {ua ub : List Value}
theorem nz_Q : @nz (VS ra rb i da db va vb ea eb ua ub) kLQ = ra.length := @nz_ne (VS ra rb i da db va vb ea eb ua ub) kLQ rfl
theorem nz_P : @nz (VS ra rb i da db va vb ea eb ua ub) kLP = rb.length := @nz_ne (VS ra rb i da db va vb ea eb ua ub) kLP rfl
theorem nz_I : @nz (VS ra rb i da db va vb ea eb ua ub) kLI = i := @nz_ne (VS ra rb i da db va vb ea eb ua ub) kLI rfl
theorem l_Q : (VS ra rb i da db va vb ea eb ua ub).l kLQ = ra := rfl
theorem l_P : (VS ra rb i da db va vb ea eb ua ub).l kLP = rb := rfl
end
@[reducible] def fkL (lo hi : Int) (ts : List Td) (cs : List Cm) (p : Nat) (u b : Bool) : Fk :=
  { rel := clsR ts 30 50 cs[p]? ++ [.mk kLQ kLP 0 0, .mk kZ kLQ 1 mxI, .mk kZ kLI 0 (mxI - 1), .mk kLI kLQ lo hi, .mk kLI kLP lo hi],
    rows := [.mk kLQ kLI 0 (rowsA ts 30 cs p u), .mk kLP kLI 0 (rowsB ts 30 50 cs p u)], us := [], sm := smAll (rowsA ts 30 cs p u) (rowsB ts 30 50 cs p u) cs p, rv := .bool b }
def sgT : Sg := .mk [.mk kLI kLI 1 0 (mxI - 1), .mk kLQ kLQ 0 1 mxI, .mk kLP kLP 0 1 mxI] [(kLQ, kLQ), (kLP, kLP)] [] []
def sgF : Sg := .mk [.mk kLI kZ 0 0 (mxI - 1), .mk kLQ kLQ 0 1 mxI, .mk kLP kLP 0 1 mxI] [(kLQ, kLQ), (kLP, kLP)] [] []
def noB (E : Env) (ts : List Td) (cs : List Cm) (H : Cfg) : Bool :=
  (List.range cs.length).all fun p => cnd (@runK (fkL 1 mxI ts cs p true false) E H) (@runK (fkL 1 mxI ts cs p false false) E H) false
structure LoopOk (E : Env) (ts : List Td) (cs : List Cm) (H : Cfg) (ks : List Key) : Prop where
  cl : gcH ks H.hp = H.hp
  turn : ∃ hd n, ∀ b, @turnT (fkL 2 mxI ts cs cs.length true b) E hd n sgT ks [] H H = some [headE [] H]
  last : @runK (fkL 1 1 ts cs cs.length true true) E H = true
  no : noB E ts cs H = true
structure Two (W : World) (ts : List Td) (dra drb : List (List Dc)) (ra rb : List (List Value)) : Prop where
  la : dra.length = ra.length
  lb : drb.length = rb.length
  ll : ra.length = rb.length
  mx : ra.length ≤ 9223372036854775807
  ga : ∀ (i : Nat) d v, dra[i]? = some d → ra[i]? = some v → RdR W ts d v
  gb : ∀ (i : Nat) d v, drb[i]? = some d → rb[i]? = some v → RdR W ts d v
section
variable {W : World} {ts : List Td} {dra drb : List (List Dc)} {ra rb : List (List Value)} (h2 : Two W ts dra drb ra rb) (hts : ts.length ≤ 20) {E : Env} {P : Program} (hE : EnvOk E P) (hsum : hasBody E E.sum = false)
  {cs : List Cm} (hok : ∀ c ∈ cs, c.ok P ts) (hcov : covers ts.length cs = true)
@[reducible] def VI (dra drb : List (List Dc)) (ra rb : List (List Value)) (i : Nat) : Val := VS ra rb i (dra.getD i []) (drb.getD i []) (ra.getD i []) (rb.getD i []) [] [] [] []
def pI (dra drb : List (List Dc)) (cs : List Cm) (i : Nat) : Nat := firstNo (dra.getD i []) (drb.getD i []) cs
def uI (dra drb : List (List Dc)) (cs : List Cm) (i : Nat) : Bool := uOf (dra.getD i []) cs[pI dra drb cs i]?
include h2 hts hok in
theorem fkL_ok {i : Nat} (hi : i < ra.length) {lo hi' : Int} (h3 : lo ≤ (ra.length : Int) - i) (h4 : (ra.length : Int) - i ≤ hi') (b : Bool) {C : Call0} (hW : C.W = W) :
    @FkOk (VI dra drb ra rb i) (fkL lo hi' ts cs (pI dra drb cs i) (uI dra drb cs i) b) ∧ (∀ s ∈ (fkL lo hi' ts cs (pI dra drb cs i) (uI dra drb cs i) b).sm, @SmOk (VI dra drb ra rb i) P C s) ∧
      RdR W ts (dra.getD i []) (ra.getD i []) ∧ RdR W ts (drb.getD i []) (rb.getD i []) := by
  have e1 : dra[i]? = some (dra.getD i []) := by rw [List.getD_eq_getElem?_getD, List.getElem?_eq_getElem (by rw [h2.la]; exact hi)]; rfl
  have e2 : drb[i]? = some (drb.getD i []) := by rw [List.getD_eq_getElem?_getD, List.getElem?_eq_getElem (by rw [h2.lb, ← h2.ll]; exact hi)]; rfl
  have e3 : ra[i]? = some (ra.getD i []) := by rw [List.getD_eq_getElem?_getD, List.getElem?_eq_getElem hi]; rfl
  have e4 : rb[i]? = some (rb.getD i []) := by rw [List.getD_eq_getElem?_getD, List.getElem?_eq_getElem (by rw [← h2.ll]; exact hi)]; rfl
  have ha := h2.ga i _ _ e1 e3
  have hb := h2.gb i _ _ e2 e4
  have na := vs_a (ra := ra) (rb := rb) (i := i) (db := drb.getD i []) (va := ra.getD i []) (vb := rb.getD i []) (ea := []) (eb := []) (ua := []) (ub := []) (da := dra.getD i []) (by rw [ha.len.1]; exact hts)
  have nb := vs_b (ra := ra) (rb := rb) (i := i) (da := dra.getD i []) (va := ra.getD i []) (vb := rb.getD i []) (ea := []) (eb := []) (ua := []) (ub := []) (db := drb.getD i []) (by rw [hb.len.1]; exact hts)
  obtain ⟨fa, fb⟩ := @rows_fx (VI dra drb ra rb i) P W ts _ _ _ _ ha hb 30 50 na nb cs hok
  have hrel := @clsR_ok (VI dra drb ra rb i) W ts _ _ _ _ ha hb 30 50 na nb cs[pI dra drb cs i]? (fun x hx => firstNo_at cs x hx) (by omega) (by omega)
  have hsm := @sm_ok (VI dra drb ra rb i) P W ts _ _ _ _ ha hb 30 50 na nb cs hok C hW _ _ fa fb
  have hmx := h2.mx
  have hll := h2.ll
  refine ⟨@FkOk.mk (VI dra drb ra rb i) (fkL lo hi' ts cs (pI dra drb cs i) (uI dra drb cs i) b) (fun x hx => ?_) (fun x hx => ?_) (fun x hx => by cases hx), hsm, ha, hb⟩
  · rcases List.mem_append.1 hx with hx | hx
    · exact hrel x hx
    · simp only [List.mem_cons, List.not_mem_nil, or_false] at hx
      rcases hx with rfl | rfl | rfl | rfl | rfl <;> simp only [RlOk, nz_Q, nz_P, nz_I, nz_kZ, mxI] <;> omega
  · have hx : x ∈ [Rf.mk kLQ kLI 0 (rowsA ts 30 cs (pI dra drb cs i) (uI dra drb cs i)), .mk kLP kLI 0 (rowsB ts 30 50 cs (pI dra drb cs i) (uI dra drb cs i))] := hx
    simp only [List.mem_cons, List.not_mem_nil, or_false] at hx
    rcases hx with rfl | rfl
    · exact ⟨i, _, by rw [nz_I]; simp, e3, @FxR.vrs (VI dra drb ra rb i) _ _ fa⟩
    · exact ⟨i, _, by rw [nz_I]; simp, e4, @FxR.vrs (VI dra drb ra rb i) _ _ fb⟩
theorem drop_eqB {α : Type} {a b : List α} {i : Nat} (ha : i < a.length) (hb : i < b.length) : eqB (a.drop i) (b.drop i) = (eqB a[i] b[i] && eqB (a.drop (i + 1)) (b.drop (i + 1))) := by
  rw [Bool.eq_iff_iff, Bool.and_eq_true, eqB_iff, eqB_iff, eqB_iff, List.drop_eq_getElem_cons ha, List.drop_eq_getElem_cons hb, List.cons.injEq]
def loI (n i p l : Nat) : Int := if p = l then (if i + 1 = n then 1 else 2) else 1
def hiI (n i p l : Nat) : Int := if p = l then (if i + 1 = n then 1 else mxI) else mxI
@[reducible] def FI0 (ts : List Td) (dra drb : List (List Dc)) (cs : List Cm) (n i : Nat) (b : Bool) : Fk := fkL (loI n i (pI dra drb cs i) cs.length) (hiI n i (pI dra drb cs i) cs.length) ts cs (pI dra drb cs i) (uI dra drb cs i) b
include h2 hts hok in
theorem FI0_ok {i : Nat} (hi : i < ra.length) (b : Bool) {C : Call0} (hW : C.W = W) :
    @FkOk (VI dra drb ra rb i) (FI0 ts dra drb cs ra.length i b) ∧ (∀ s ∈ (FI0 ts dra drb cs ra.length i b).sm, @SmOk (VI dra drb ra rb i) P C s) ∧ RdR W ts (dra.getD i []) (ra.getD i []) ∧ RdR W ts (drb.getD i []) (rb.getD i []) := by
  have := h2.mx
  refine fkL_ok h2 hts hok hi ?_ ?_ b hW
  · unfold loI; split <;> (try split) <;> omega
  · unfold hiI mxI; split <;> (try split) <;> omega
variable {H : Cfg} {ks : List Key} (hL : LoopOk E ts cs H ks)
include h2 hts hE hsum hok hcov hL in
theorem loop_at {C : Call0} (hW : C.W = W) : ∀ (k i : Nat), i + k + 1 = ra.length → ∀ (b : Bool) (m : Machine), b = eqB (dra.drop i) (drb.drop i) → @Sim (VI dra drb ra rb i) (FI0 ts dra drb cs ra.length i b) E P C H m → ∀ v, @Done v E P C (.bool b) m := by
  intro k
  induction k with
  | zero =>
    intro i hk b m hb hs v
    have hi : i < ra.length := by omega
    have hda : i < dra.length := by rw [h2.la]; exact hi
    have hdb : i < drb.length := by rw [h2.lb, ← h2.ll]; exact hi
    obtain ⟨hF, hsm, hra, hrb⟩ := FI0_ok h2 hts hok hi b hW
    have hS : @SumOk (VI dra drb ra rb i) (FI0 ts dra drb cs ra.length i b) E P C := @SumOk.mk (VI dra drb ra rb i) (FI0 ts dra drb cs ra.length i b) E P C (fun w _ h => by rw [hsum] at h; cases h) hsm
    have heq := eq_first hra hrb hcov
    have gA : dra.getD i [] = dra[i] := getD_some (List.getElem?_eq_getElem hda)
    have gB : drb.getD i [] = drb[i] := getD_some (List.getElem?_eq_getElem hdb)
    have hb' := drop_eqB hda hdb
    rw [List.drop_eq_nil_of_le (show dra.length ≤ i + 1 by rw [h2.la]; omega), List.drop_eq_nil_of_le (show drb.length ≤ i + 1 by rw [h2.lb, ← h2.ll]; omega), eqB_iff.2 rfl, Bool.and_true, ← gA, ← gB, heq] at hb'
    rw [hb'] at hb
    by_cases hp : pI dra drb cs i = cs.length
    · have hbt : b = true := by rw [hb]; show Nat.beq (pI dra drb cs i) cs.length = true; rw [hp]; exact Nat.beq_refl _
      have hFe : FI0 ts dra drb cs ra.length i b = fkL 1 1 ts cs cs.length true true := by
        have hu : uI dra drb cs i = true := by unfold uI; rw [hp]; simp [uOf]
        unfold FI0 loI hiI
        rw [hp, if_pos rfl, if_pos rfl, if_pos (show i + 1 = ra.length by omega), if_pos (show i + 1 = ra.length by omega), hu, hbt]
      rw [hFe] at hs hS
      exact done_x (a := .bool b) rfl (by have := @turns_done (VI dra drb ra rb i) (fkL 1 1 ts cs cs.length true true) E P hE C hS _ _ _ _ (@runK_some (fkL 1 1 ts cs cs.length true true) _ _ hL.last) hs; rw [hbt]; exact this)
    · have hlt : pI dra drb cs i < cs.length := by have := firstNo_le (da := dra.getD i []) (db := drb.getD i []) cs; unfold pI at hp ⊢; omega
      have hbf : b = false := by
        rw [hb]
        cases e : Nat.beq (pI dra drb cs i) cs.length with
        | false => exact e
        | true => exact absurd (Nat.eq_of_beq_eq_true e) hp
      have hFe : FI0 ts dra drb cs ra.length i b = fkL 1 mxI ts cs (pI dra drb cs i) (uI dra drb cs i) false := by
        unfold FI0 loI hiI; rw [if_neg hp, if_neg hp, hbf]
      rw [hFe] at hs hS
      have hno := List.all_eq_true.1 hL.no _ (List.mem_range.2 hlt)
      obtain ⟨n1, n2⟩ := an2 hno
      have hrun : @runK (fkL 1 mxI ts cs (pI dra drb cs i) (uI dra drb cs i) false) E H = true := by
        cases uI dra drb cs i with
        | true => exact n1
        | false => exact n2
      exact done_x (a := .bool b) rfl (by have := @turns_done (VI dra drb ra rb i) (fkL 1 mxI ts cs (pI dra drb cs i) (uI dra drb cs i) false) E P hE C hS _ _ _ _ (@runK_some (fkL 1 mxI ts cs (pI dra drb cs i) (uI dra drb cs i) false) _ _ hrun) hs; rw [hbf]; exact this)
  | succ k ih =>
    intro i hk b m hb hs v
    have hi : i < ra.length := by omega
    have hda : i < dra.length := by rw [h2.la]; exact hi
    have hdb : i < drb.length := by rw [h2.lb, ← h2.ll]; exact hi
    obtain ⟨hF, hsm, hra, hrb⟩ := FI0_ok h2 hts hok hi b hW
    have hS : @SumOk (VI dra drb ra rb i) (FI0 ts dra drb cs ra.length i b) E P C := @SumOk.mk (VI dra drb ra rb i) (FI0 ts dra drb cs ra.length i b) E P C (fun w _ h => by rw [hsum] at h; cases h) hsm
    have heq := eq_first hra hrb hcov
    have gA : dra.getD i [] = dra[i] := getD_some (List.getElem?_eq_getElem hda)
    have gB : drb.getD i [] = drb[i] := getD_some (List.getElem?_eq_getElem hdb)
    have hb' := drop_eqB hda hdb
    rw [← gA, ← gB, heq] at hb'
    by_cases hp : pI dra drb cs i = cs.length
    · have hbt : b = eqB (dra.drop (i + 1)) (drb.drop (i + 1)) := by
        rw [hb, hb']
        have : Nat.beq (firstNo (dra.getD i []) (drb.getD i []) cs) cs.length = true := by show Nat.beq (pI dra drb cs i) cs.length = true; rw [hp]; exact Nat.beq_refl _
        rw [this, Bool.true_and]
      have hFe : FI0 ts dra drb cs ra.length i b = fkL 2 mxI ts cs cs.length true b := by
        have hu : uI dra drb cs i = true := by unfold uI; rw [hp]; simp [uOf]
        unfold FI0 loI hiI
        rw [hp, if_pos rfl, if_pos rfl, if_neg (show ¬ i + 1 = ra.length by omega), if_neg (show ¬ i + 1 = ra.length by omega), hu]
      rw [hFe] at hs hS
      obtain ⟨hd, n, hturn⟩ := hL.turn
      have hF1 := (FI0_ok h2 hts hok (show i + 1 < ra.length by omega) b hW).1
      have hmx := h2.mx
      have hll := h2.ll
      have hsg : SgOk (VI dra drb ra rb i) (VI dra drb ra rb (i + 1)) sgT := by
        refine ⟨fun x hx => ?_, fun x hx => ?_, rfl, fun x hx => by cases hx⟩
        · simp only [sgT, Sg.ns, List.mem_cons, List.not_mem_nil, or_false] at hx
          rcases hx with rfl | rfl | rfl <;> simp only [NnOk, nz_Q, nz_P, nz_I, mxI] <;> omega
        · simp only [sgT, Sg.ls, List.mem_cons, List.not_mem_nil, or_false] at hx
          rcases hx with rfl | rfl <;> rfl
      rcases turn_sim hsg hF1 hE hS (j := 1) (fun g hg => by cases hg) hL.cl rfl rfl (hturn b) hs with h | ⟨m', h3, h4⟩
      · exact done_x rfl h
      · exact done_st (ih (i + 1) (by omega) b m' hbt h4 v) h3
    · have hlt : pI dra drb cs i < cs.length := by have := firstNo_le (da := dra.getD i []) (db := drb.getD i []) cs; unfold pI at hp ⊢; omega
      have hbf : b = false := by
        rw [hb, hb']
        have : Nat.beq (firstNo (dra.getD i []) (drb.getD i []) cs) cs.length = false := by
          cases e : Nat.beq (pI dra drb cs i) cs.length with
          | false => exact e
          | true => exact absurd (Nat.eq_of_beq_eq_true e) hp
        rw [this, Bool.false_and]
      have hFe : FI0 ts dra drb cs ra.length i b = fkL 1 mxI ts cs (pI dra drb cs i) (uI dra drb cs i) false := by
        unfold FI0 loI hiI; rw [if_neg hp, if_neg hp, hbf]
      rw [hFe] at hs hS
      have hno := List.all_eq_true.1 hL.no _ (List.mem_range.2 hlt)
      obtain ⟨n1, n2⟩ := an2 hno
      have hrun : @runK (fkL 1 mxI ts cs (pI dra drb cs i) (uI dra drb cs i) false) E H = true := by
        cases uI dra drb cs i with
        | true => exact n1
        | false => exact n2
      exact done_x (a := .bool b) rfl (by have := @turns_done (VI dra drb ra rb i) (fkL 1 mxI ts cs (pI dra drb cs i) (uI dra drb cs i) false) E P hE C hS _ _ _ _ (@runK_some (fkL 1 mxI ts cs (pI dra drb cs i) (uI dra drb cs i) false) _ _ hrun) hs; rw [hbf]; exact this)
end
end
end Go.Ev

namespace Go.Ev
set_option linter.unusedVariables false
set_option linter.unusedSectionVars false
set_option linter.unusedSimpArgs false
noncomputable section
/-! ## from the call to the loop -/
def hL (sz : Nat) : Hp := hset kLF (.lst true lstGen sz kLQ []) (hset kLG (.lst true lstGen sz kLP []) hp0)
def aF (sz : Nat) : AV := .nsl kLF lstGen sz kZ 0 kLQ 0 0
def aG (sz : Nat) : AV := .nsl kLG lstGen sz kZ 0 kLP 0 0
@[reducible] def fkE (rel : List Rl) (sm : List Sme) (b : Bool) : Fk := { rel, rows := [], us := [], sm, rv := .bool b }
def relN0 : List Rl := [.ne kLQ kLP, .mk kZ kLQ 0 mxI, .mk kZ kLP 0 mxI]
def relE0 : List Rl := [.mk kLQ kLP 0 0, .mk kZ kLQ 0 0, .mk kZ kLP 0 0]
def relS0 : List Rl := [.mk kLQ kLP 0 0, .mk kZ kLQ 1 mxI, .mk kZ kLP 1 mxI]
theorem hr_two {v : Val} {F : Fk} (hF : @FkOk v F) {W : World} {sz : Nat} {va vb : Value} (h1 : @nz v kLQ = (v.l kLQ).length) (h2 : @nz v kLP = (v.l kLP).length) (ha : LaR W va sz (v.l kLQ)) (hb : LaR W vb sz (v.l kLP)) :
    ∃ ν, @HR v F W.heap.size ν (hL sz) W ∧ @VR v ν (aF sz) va ∧ @VR v ν (aG sz) vb := by
  obtain ⟨ν1, l1, o1, r1, k1⟩ := @HR.argL v F mu0 hp0 W kLG kLP sz vb (@hr_0 v F hF _ _) (fun _ => rfl) h2 hb
  obtain ⟨ν2, l2, o2, r2, k2⟩ := @HR.argL v F ν1 _ W kLF kLQ sz va r1 (fun g => by rw [o1 kLF (Key.beq_ne rfl) g]; rfl) h1 ha
  exact ⟨ν2, r2, k2, @VR.mono v _ _ l2 _ _ k1⟩
theorem no_sum {E : Env} (hsum : hasBody E E.sum = false) {P : Program} {v : Val} {F : Fk} {C : Call0} (h : ∀ s ∈ F.sm, @SmOk v P C s) : @SumOk v F E P C :=
  @SumOk.mk v F E P C (fun w _ h => by rw [hsum] at h; cases h) h
structure ListOk (E : Env) (sz : Nat) (ex : List AV) (H : Cfg) (ks : List Key) : Prop where
  ne : @runB (fkE relN0 [] false) E (aF sz :: aG sz :: ex) (hL sz) nx0 = true
  no : @runB (fkE relE0 [] true) E (aF sz :: aG sz :: ex) (hL sz) nx0 = true
  first : ∃ hd n, ∀ b, @enterT (fkE relS0 [] b) E hd n sgF ks [] H (aF sz :: aG sz :: ex) (hL sz) nx0 = some [headE [] H]
theorem RdC.two {W : World} {ts : List Td} {da db : Dc} {va vb : Value} (ha : RdC W (.l ts) da va) (hb : RdC W (.l ts) db vb) : ∃ dra drb ra rb, da = .l dra ∧ db = .l drb ∧ LaR W va ts.length ra ∧ LaR W vb ts.length rb ∧ dra.length = ra.length ∧ drb.length = rb.length ∧
    ra.length ≤ 9223372036854775807 ∧ rb.length ≤ 9223372036854775807 ∧ (ra.length = rb.length → Two W ts dra drb ra rb) := by
  simp only [RdC] at ha hb
  obtain ⟨dra, ra, e1, e2, e3, e4, e5⟩ := ha
  obtain ⟨drb, rb, f1, f2, f3, f4, f5⟩ := hb
  exact ⟨dra, drb, ra, rb, e1, f1, e2, f2, e4, f4, e3, f3, fun h => ⟨e4, f4, h, e3, e5, f5⟩⟩
theorem eqB_l {a b : List (List Dc)} : eqB (Dc.l a) (Dc.l b) = eqB a b := by
  rw [Bool.eq_iff_iff, eqB_iff, eqB_iff, Dc.l.injEq]
theorem cmpL_of {E : Env} {P : Program} (hE : EnvOk E P) (hgm : E.gm = 0) (hsum : hasBody E E.sum = false) {ts : List Td} {cs : List Cm} (hl : ts.length ≤ 20) (hc : covers ts.length cs = true) (hok : ∀ c ∈ cs, c.ok P ts) {ex : List AV} (hex : exOk ex = true)
    {H : Cfg} {ks : List Key} (hL0 : ListOk E ts.length ex H ks) (hLp : LoopOk E ts cs H ks) : CmpL P E.root ts ex := by
  intro W da db va vb ha hb
  obtain ⟨dra, drb, ra, rb, rfl, rfl, la, lb, e1, e2, m1, m2, htwo⟩ := RdC.two ha hb
  rw [eqB_l]
  have key : ∀ (v : Val) (rel : List Rl) (b : Bool), v = VI dra drb ra rb 0 → (∀ x ∈ rel, @RlOk v x) → (∃ c, enter E E.root (aF ts.length :: aG ts.length :: ex) false [] (hL ts.length) nx0 = .go c ∧ ∀ cs m, @Sim v (fkE rel [] b) E P ⟨cs, W⟩ c m → @Done v E P ⟨cs, W⟩ (.bool b) m) →
      Calls P E.root (va :: vb :: exV ex).toArray W (fun e w' => e = .returned (.bool b) ∧ Ext W.heap.size W w') := by
    intro v rel b hv hrel hrun
    have hF : @FkOk v (fkE rel [] b) := @FkOk.mk v (fkE rel [] b) hrel (fun x hx => by cases hx) (fun x hx => by cases hx)
    subst hv
    obtain ⟨ν, h1, h2, h3⟩ := @hr_two (VI dra drb ra rb 0) _ hF W ts.length va vb nz_Q nz_P la lb
    exact @callsB (VI dra drb ra rb 0) (fkE rel [] b) b E P hE W (aF ts.length :: aG ts.length :: ex) _ _ nx0 ν (@VRs.cons (VI dra drb ra rb 0) ν _ _ _ _ h2 (@VRs.cons (VI dra drb ra rb 0) ν _ _ _ _ h3 (@FxR.vrs (VI dra drb ra rb 0) _ _ (@exOk_fx (VI dra drb ra rb 0) _ hex) ν))) h1 (@gr_0 E hgm ν) hrun
  have hS : ∀ (rel : List Rl) (b : Bool) (v : Val) (C : Call0), @SumOk v (fkE rel [] b) E P C := fun rel b v C => no_sum hsum fun s hs => by cases hs
  by_cases hlen : ra.length = rb.length
  · by_cases h0 : ra.length = 0
    · have z1 : dra = [] := List.length_eq_zero_iff.1 (by omega)
      have z2 : drb = [] := List.length_eq_zero_iff.1 (by omega)
      rw [z1, z2, eqB_iff.2 rfl]
      obtain ⟨c, h1, h2⟩ := @runB_some (fkE relE0 [] true) _ _ _ _ hL0.no
      refine key (VI dra drb ra rb 0) relE0 true rfl (fun x hx => ?_) ⟨c, h1, fun cs' m hs => @turns_done (VI dra drb ra rb 0) (fkE relE0 [] true) E P hE _ (hS ..) _ _ _ _ h2 hs⟩
      simp only [relE0, List.mem_cons, List.not_mem_nil, or_false] at hx
      rcases hx with rfl | rfl | rfl <;> simp only [RlOk, nz_Q, nz_P, nz_kZ] <;> omega
    · have h2 := htwo hlen
      obtain ⟨hd, n, hfirst⟩ := hL0.first
      have hfirst := hfirst (eqB dra drb)
      obtain ⟨c, h1, h3⟩ := @enterT_some (fkE relS0 [] (eqB dra drb)) _ _ _ _ _ _ _ _ _ _ _ hfirst
      refine key (VI dra drb ra rb 0) relS0 (eqB dra drb) rfl (fun x hx => ?_) ⟨c, h1, fun cs' m hs => ?_⟩
      · simp only [relS0, List.mem_cons, List.not_mem_nil, or_false] at hx
        rcases hx with rfl | rfl | rfl <;> simp only [RlOk, nz_Q, nz_P, nz_kZ, mxI] <;> omega
      · have hsg : SgOk (VI dra drb ra rb 0) (VI dra drb ra rb 0) sgF := by
          refine ⟨fun x hx => ?_, fun x hx => ?_, rfl, fun x hx => by cases hx⟩
          · simp only [sgF, Sg.ns, List.mem_cons, List.not_mem_nil, or_false] at hx
            rcases hx with rfl | rfl | rfl <;> simp only [NnOk, nz_Q, nz_P, nz_I, nz_kZ, mxI] <;> omega
          · simp only [sgF, Sg.ls, List.mem_cons, List.not_mem_nil, or_false] at hx
            rcases hx with rfl | rfl <;> rfl
        have hF1 := (FI0_ok (P := P) h2 hl hok (show 0 < ra.length by omega) (eqB dra drb) (C := ⟨cs', W⟩) rfl).1
        rcases turn_sim hsg hF1 hE (hS ..) (j := 1) (fun g hg => by cases hg) hLp.cl rfl rfl h3 hs with h | ⟨m', h4, h5⟩
        · exact h
        · exact done_st (loop_at h2 hl hE hsum hok hc hLp (C := ⟨cs', W⟩) rfl (ra.length - 1) 0 (by omega) (eqB dra drb) m' (by simp) h5 _) h4
  · have hne : dra ≠ drb := by rintro rfl; exact hlen (by rw [← e1, ← e2])
    rw [eqB_false.2 hne]
    obtain ⟨c, h1, h2⟩ := @runB_some (fkE relN0 [] false) _ _ _ _ hL0.ne
    refine key (VI dra drb ra rb 0) relN0 false rfl (fun x hx => ?_) ⟨c, h1, fun cs' m hs => @turns_done (VI dra drb ra rb 0) (fkE relN0 [] false) E P hE _ (hS ..) _ _ _ _ h2 hs⟩
    simp only [relN0, List.mem_cons, List.not_mem_nil, or_false] at hx
    rcases hx with rfl | rfl | rfl <;> simp only [RlOk, nz_Q, nz_P, nz_kZ, mxI] <;> omega
end
end Go.Ev

namespace Go.Ev
set_option linter.unusedVariables false
set_option linter.unusedSectionVars false
set_option linter.unusedSimpArgs false
noncomputable section
/-! ## a call that compares two structs, one field of which it goes over itself -/
def argA (ts : List Td) (cs : List Cm) (jl sz p : Nat) (u : Bool) : AV := .agg ((rowsA ts 30 cs p u).set jl (aF sz))
def argB (ts : List Td) (cs : List Cm) (jl sz p : Nat) (u : Bool) : AV := .agg ((rowsB ts 30 50 cs p u).set jl (aG sz))
@[reducible] def fkP (ts : List Td) (cs : List Cm) (p : Nat) (u : Bool) (rel : List Rl) (b : Bool) : Fk :=
  { rel := clsR ts 30 50 cs[p]? ++ rel, rows := [], us := [], sm := smAll (rowsA ts 30 cs p u) (rowsB ts 30 50 cs p u) cs p, rv := .bool b }
def preB (E : Env) (ts : List Td) (cs : List Cm) (jl sz : Nat) : Bool :=
  (List.range cs.length).all fun p => cnd (@runB (fkP ts cs p true [] false) E [argA ts cs jl sz p true, argB ts cs jl sz p true] (hL sz) nx0) (@runB (fkP ts cs p false [] false) E [argA ts cs jl sz p false, argB ts cs jl sz p false] (hL sz) nx0) false
structure PreOk (E : Env) (ts : List Td) (cs : List Cm) (jl sz : Nat) (H : Cfg) (ks : List Key) : Prop where
  pre : preB E ts cs jl sz = true
  ne : @runB (fkP ts cs cs.length true relN0 false) E [argA ts cs jl sz cs.length true, argB ts cs jl sz cs.length true] (hL sz) nx0 = true
  no : @runB (fkP ts cs cs.length true relE0 true) E [argA ts cs jl sz cs.length true, argB ts cs jl sz cs.length true] (hL sz) nx0 = true
  first : ∃ hd n, ∀ b, @enterT (fkP ts cs cs.length true relS0 b) E hd n sgF ks [] H [argA ts cs jl sz cs.length true, argB ts cs jl sz cs.length true] (hL sz) nx0 = some [headE [] H]
def coversX (n jl : Nat) (cs : List Cm) : Bool := (List.range n).all fun j => cnd (Nat.beq j jl) true (cs.any fun c => c.has j)
theorem is_allX {W : World} {ts : List Td} {da db : List Dc} {va vb : List Value} (ha : RdR W ts da va) (hb : RdR W ts db vb) {cs : List Cm} {jl : Nat} (hc : coversX ts.length jl cs = true) (h : ∀ c ∈ cs, c.is da db = true) (hj : da[jl]? = db[jl]?) : da = db := by
  apply List.ext_getElem?
  intro j
  by_cases hj' : j < ts.length
  · have := List.all_eq_true.1 hc j (List.mem_range.2 hj')
    by_cases e : j = jl
    · rw [e]; exact hj
    · have hb' : Nat.beq j jl = false := by
        cases e2 : Nat.beq j jl with
        | false => rfl
        | true => exact absurd (Nat.eq_of_beq_eq_true e2) e
      rw [hb'] at this
      obtain ⟨c, hc1, hc2⟩ := List.any_eq_true.1 (show cs.any (fun c => c.has j) = true from this)
      have hi := h c hc1
      cases c with
      | cell i => rw [← Nat.eq_of_beq_eq_true hc2]; exact eqB_iff.1 hi
      | list g i ex => rw [← Nat.eq_of_beq_eq_true hc2]; exact eqB_iff.1 hi
      | many g i n =>
        obtain ⟨h1, h2⟩ := an2 hc2
        have h1 := Nat.le_of_ble_eq_true h1
        have h2 : j < i + n := by simpa [Nat.blt_eq] using h2
        have := congrArg (fun l : List Dc => l[j - i]?) (eqB_iff.1 hi)
        simp only [List.getElem?_take, List.getElem?_drop] at this
        rw [if_pos (by omega), if_pos (by omega), show i + (j - i) = j from by omega] at this
        exact this
  · rw [List.getElem?_eq_none (by rw [ha.len.1]; omega), List.getElem?_eq_none (by rw [hb.len.1]; omega)]
theorem VRs.set [Val] {μ : Mu} : ∀ {l : List AV} {vs : List Value}, VRs μ l vs → ∀ {j : Nat} {a : AV}, (∀ v, vs[j]? = some v → VR μ a v) → VRs μ (l.set j a) vs
  | [], vs, h, j, a, k => by simpa using h
  | b :: l, vs, h, j, a, k => by
    obtain ⟨v, r, rfl, h1, h2⟩ := h.cons_inv
    cases j with
    | zero => exact .cons (k v rfl) h2
    | succ j => exact .cons h1 (h2.set fun u hu => k u (by simpa using hu))
theorem cmpSL_of {E : Env} {P : Program} (hE : EnvOk E P) (hgm : E.gm = 0) (hsum : hasBody E E.sum = false) {ts : List Td} {cs0 : List Cm} (hl0 : ts.length ≤ 20) {jl : Nat} {tl : List Td} (hjl : ts[jl]? = some (.l tl)) (hc0 : coversX ts.length jl cs0 = true) (hok0 : ∀ c ∈ cs0, c.ok P ts)
    {cs : List Cm} (hl : tl.length ≤ 20) (hc : covers tl.length cs = true) (hok : ∀ c ∈ cs, c.ok P tl) {H : Cfg} {ks : List Key} (hP : PreOk E ts cs0 jl tl.length H ks) (hLp : LoopOk E tl cs H ks) : CmpS P E.root ts := by
  intro W da db va vb ha hb
  obtain ⟨d, v, j1, j2, j3⟩ := ha.get hjl
  obtain ⟨d', v', j4, j5, j6⟩ := hb.get hjl
  obtain ⟨dra, drb, ra, rb, rfl, rfl, la, lb, e1, e2, m1, m2, htwo⟩ := RdC.two j3 j6
  have na := vs_a (ra := ra) (rb := rb) (i := 0) (db := db) (va := va.toList) (vb := vb.toList) (ea := []) (eb := []) (ua := []) (ub := []) (da := da) (by rw [ha.len.1]; exact hl0)
  have nb := vs_b (ra := ra) (rb := rb) (i := 0) (da := da) (va := va.toList) (vb := vb.toList) (ea := []) (eb := []) (ua := []) (ub := []) (db := db) (by rw [hb.len.1]; exact hl0)
  have hp := firstNo_le (da := da) (db := db) cs0
  obtain ⟨fa, fb⟩ := @rows_fx (VS ra rb 0 da db va.toList vb.toList [] [] [] []) P W ts da db _ _ ha hb 30 50 na nb cs0 hok0
  have hrel0 := @clsR_ok (VS ra rb 0 da db va.toList vb.toList [] [] [] []) W ts da db _ _ ha hb 30 50 na nb cs0[firstNo da db cs0]? (fun x hx => firstNo_at cs0 x hx) (by omega) (by omega)
  have hsm := fun C hW => @sm_ok (VS ra rb 0 da db va.toList vb.toList [] [] [] []) P W ts da db _ _ ha hb 30 50 na nb cs0 hok0 C hW _ _ fa fb
  have key : ∀ (rel : List Rl) (b : Bool), (∀ x ∈ rel, @RlOk (VS ra rb 0 da db va.toList vb.toList [] [] [] []) x) →
      (∃ c, enter E E.root [argA ts cs0 jl tl.length (firstNo da db cs0) (uOf da cs0[firstNo da db cs0]?), argB ts cs0 jl tl.length (firstNo da db cs0) (uOf da cs0[firstNo da db cs0]?)] false [] (hL tl.length) nx0 = .go c ∧
        ∀ cs' m, @Sim (VS ra rb 0 da db va.toList vb.toList [] [] [] []) (fkP ts cs0 (firstNo da db cs0) (uOf da cs0[firstNo da db cs0]?) rel b) E P ⟨cs', W⟩ c m → @SumOk (VS ra rb 0 da db va.toList vb.toList [] [] [] []) (fkP ts cs0 (firstNo da db cs0) (uOf da cs0[firstNo da db cs0]?) rel b) E P ⟨cs', W⟩ →
          @Done (VS ra rb 0 da db va.toList vb.toList [] [] [] []) E P ⟨cs', W⟩ (.bool b) m) →
      Calls P E.root #[.agg va, .agg vb] W (fun e w' => e = .returned (.bool b) ∧ Ext W.heap.size W w') := by
    intro rel b hrel hrun
    generalize hV : VS ra rb 0 da db va.toList vb.toList [] [] [] [] = V at *
    have hF : @FkOk V (fkP ts cs0 (firstNo da db cs0) (uOf da cs0[firstNo da db cs0]?) rel b) := @FkOk.mk V (fkP ts cs0 (firstNo da db cs0) (uOf da cs0[firstNo da db cs0]?) rel b) (fun x hx => by
      rcases List.mem_append.1 hx with hx | hx
      · exact hrel0 x hx
      · exact hrel x hx) (fun x hx => by cases hx) (fun x hx => by cases hx)
    obtain ⟨ν, h1, h2, h3⟩ := @hr_two V _ hF W tl.length v v' (by rw [← hV]; exact nz_Q) (by rw [← hV]; exact nz_P) (by rw [← hV]; exact la) (by rw [← hV]; exact lb)
    obtain ⟨c, g1, g2⟩ := hrun
    refine @callsB V (fkP ts cs0 (firstNo da db cs0) (uOf da cs0[firstNo da db cs0]?) rel b) b E P hE W _ _ _ nx0 ν (@VRs.cons V ν _ _ _ _ ?_ (@VRs.cons V ν _ _ _ _ ?_ (@VRs.nil V ν))) h1 (@gr_0 E hgm ν) ⟨c, g1, fun cs' m hs => g2 cs' m hs (no_sum hsum fun s hs => hsm _ rfl s hs)⟩
    · simp only [argA, VR]
      exact ⟨va, rfl, @VRs.set V ν _ _ (@FxR.vrs V _ _ fa ν) _ _ fun x hx => by rw [j2] at hx; cases hx; exact h2⟩
    · simp only [argB, VR]
      exact ⟨vb, rfl, @VRs.set V ν _ _ (@FxR.vrs V _ _ fb ν) _ _ fun x hx => by rw [j5] at hx; cases hx; exact h3⟩
  by_cases hpl : firstNo da db cs0 = cs0.length
  · have hu : uOf da cs0[firstNo da db cs0]? = true := by rw [hpl]; simp [uOf]
    rw [hu, hpl] at key
    have hall : ∀ c ∈ cs0, c.is da db = true := fun c hc' => firstNo_take cs0 c (by rw [hpl, List.take_length]; exact hc')
    have heq : eqB da db = eqB dra drb := by
      rw [Bool.eq_iff_iff, eqB_iff, eqB_iff]
      constructor
      · rintro rfl; rw [j1] at j4; cases j4; rfl
      · rintro rfl; exact is_allX ha hb hc0 hall (by rw [j1, j4])
    rw [heq]
    by_cases hlen : ra.length = rb.length
    · by_cases h0 : ra.length = 0
      · have z1 : dra = [] := List.length_eq_zero_iff.1 (by omega)
        have z2 : drb = [] := List.length_eq_zero_iff.1 (by omega)
        rw [z1, z2, eqB_iff.2 rfl]
        obtain ⟨c, h1, h2⟩ := @runB_some (fkP ts cs0 cs0.length true relE0 true) _ _ _ _ hP.no
        refine key relE0 true (fun x hx => ?_) ⟨c, h1, fun cs' m hs hS => @turns_done (VS ra rb 0 da db va.toList vb.toList [] [] [] []) (fkP ts cs0 cs0.length true relE0 true) E P hE _ hS _ _ _ _ h2 hs⟩
        simp only [relE0, List.mem_cons, List.not_mem_nil, or_false] at hx
        rcases hx with rfl | rfl | rfl <;> simp only [RlOk, nz_Q, nz_P, nz_kZ] <;> omega
      · have h2 := htwo hlen
        obtain ⟨hd, n, hfirst⟩ := hP.first
        have hfirst := hfirst (eqB dra drb)
        obtain ⟨c, h1, h3⟩ := @enterT_some (fkP ts cs0 cs0.length true relS0 (eqB dra drb)) _ _ _ _ _ _ _ _ _ _ _ hfirst
        refine key relS0 (eqB dra drb) (fun x hx => ?_) ⟨c, h1, fun cs' m hs hS => ?_⟩
        · simp only [relS0, List.mem_cons, List.not_mem_nil, or_false] at hx
          rcases hx with rfl | rfl | rfl <;> simp only [RlOk, nz_Q, nz_P, nz_kZ, mxI] <;> omega
        · have hsg : SgOk (VS ra rb 0 da db va.toList vb.toList [] [] [] []) (VI dra drb ra rb 0) sgF := by
            refine ⟨fun x hx => ?_, fun x hx => ?_, rfl, fun x hx => by cases hx⟩
            · simp only [sgF, Sg.ns, List.mem_cons, List.not_mem_nil, or_false] at hx
              rcases hx with rfl | rfl | rfl <;> simp only [NnOk, nz_Q, nz_P, nz_I, nz_kZ, mxI] <;> omega
            · simp only [sgF, Sg.ls, List.mem_cons, List.not_mem_nil, or_false] at hx
              rcases hx with rfl | rfl <;> rfl
          have hF1 := (FI0_ok (P := P) h2 hl hok (show 0 < ra.length by omega) (eqB dra drb) (C := ⟨cs', W⟩) rfl).1
          rcases turn_sim hsg hF1 hE hS (j := 1) (fun g hg => by cases hg) hLp.cl rfl rfl h3 hs with h | ⟨m', h4, h5⟩
          · exact done_x rfl h
          · exact done_st (loop_at h2 hl hE hsum hok hc hLp (C := ⟨cs', W⟩) rfl (ra.length - 1) 0 (by omega) (eqB dra drb) m' (by simp) h5 _) h4
    · have hne : dra ≠ drb := by rintro rfl; exact hlen (by rw [← e1, ← e2])
      rw [eqB_false.2 hne]
      obtain ⟨c, h1, h2⟩ := @runB_some (fkP ts cs0 cs0.length true relN0 false) _ _ _ _ hP.ne
      refine key relN0 false (fun x hx => ?_) ⟨c, h1, fun cs' m hs hS => @turns_done (VS ra rb 0 da db va.toList vb.toList [] [] [] []) (fkP ts cs0 cs0.length true relN0 false) E P hE _ hS _ _ _ _ h2 hs⟩
      simp only [relN0, List.mem_cons, List.not_mem_nil, or_false] at hx
      rcases hx with rfl | rfl | rfl <;> simp only [RlOk, nz_Q, nz_P, nz_kZ, mxI] <;> omega
  · have hlt : firstNo da db cs0 < cs0.length := by omega
    have hno := firstNo_at (da := da) (db := db) cs0 _ (List.getElem?_eq_getElem hlt)
    rw [eqB_false.2 (is_no hno)]
    obtain ⟨r1, r2⟩ := an2 (List.all_eq_true.1 hP.pre _ (List.mem_range.2 hlt))
    have hrun : @runB (fkP ts cs0 (firstNo da db cs0) (uOf da cs0[firstNo da db cs0]?) [] false) E [argA ts cs0 jl tl.length (firstNo da db cs0) (uOf da cs0[firstNo da db cs0]?), argB ts cs0 jl tl.length (firstNo da db cs0) (uOf da cs0[firstNo da db cs0]?)] (hL tl.length) nx0 = true := by
      cases uOf da cs0[firstNo da db cs0]? with
      | true => exact r1
      | false => exact r2
    obtain ⟨c, h1, h2⟩ := @runB_some (fkP ts cs0 (firstNo da db cs0) (uOf da cs0[firstNo da db cs0]?) [] false) _ _ _ _ hrun
    exact key [] false (fun x hx => by cases hx) ⟨c, h1, fun cs' m hs hS => @turns_done (VS ra rb 0 da db va.toList vb.toList [] [] [] []) (fkP ts cs0 (firstNo da db cs0) (uOf da cs0[firstNo da db cs0]?) [] false) E P hE _ hS _ _ _ _ h2 hs⟩
end
end Go.Ev
