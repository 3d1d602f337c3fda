/- THE EVALUATOR, part 12 of 12: EvTurn2 EvLst EvLst2 EvOk2 -/
import Derived.Test.YtdhfgfdpncmopaaGreatDoorEv11
set_option linter.unusedVariables false
set_option linter.unusedSectionVars false
set_option linter.unusedSimpArgs false
namespace Go.Ev
set_option linter.unusedVariables false
set_option linter.unusedSectionVars false
set_option linter.unusedSimpArgs false
noncomputable section
section
variable {v0 v1 : Val}
def GrOk (v0 v1 : Val) : Gr → Prop
  | .grow _ q q' sz exp => @nz v1 q' = (v1.l q').length ∧ (∀ row ∈ v1.l q', row.length = sz) ∧ ∀ μ rows, VRR v0 μ exp rows → v1.l q' = v0.l q ++ rows
  | .new _ q' sz exp => @nz v1 q' = (v1.l q').length ∧ (∀ row ∈ v1.l q', row.length = sz) ∧ ∀ μ rows, VRR v0 μ exp rows → v1.l q' = rows
  | _ => True
def IvOk (v : Val) (h : Hp) : Prop := ∀ f lo hi, hget f h = .iv lo hi → lo ≤ v.n f ∧ v.n f ≤ hi
theorem avE {a b : AV} (h : aveq a b = true) : a = b := @aveq_eq dV dF a b h
theorem asIvI {R : Type} {o : Ob} {e : R} {k : Int → Int → R} : (∃ lo hi, o = .iv lo hi ∧ asIv o e k = k lo hi) ∨ asIv o e k = e := by
  cases o <;> first | exact .inl ⟨_, _, rfl, rfl⟩ | exact .inr rfl
theorem ivNorm_ok {h : Hp} {μ : Mu} {x : AV} {u : Value} (hiv : IvOk v0 h) (hx : @VR v0 μ x u) : @VR v0 μ (ivNorm h x) u := by
  unfold ivNorm
  split
  · rename_i k f c a b
    rcases asIvI (o := hget f h) (e := AV.sx k f c a b) (k := fun lo hi => cnd (cnd (ieq lo hi) (fitK k (iadd lo c) (iadd lo c)) false) (.int k (iadd lo c)) (.sx k f c a b)) with ⟨lo, hi, e1, e2⟩ | e2
    · rw [e2]
      cases hc : cnd (ieq lo hi) (fitK k (iadd lo c) (iadd lo c)) false with
      | false => exact hx
      | true =>
        obtain ⟨h1, h2⟩ := an2 hc
        rw [ieqE] at h1
        obtain rfl := of_decide_eq_true h1
        have := hiv f _ _ e1
        simp only [VR] at hx
        obtain ⟨hx, _⟩ := hx
        have hn : @Val.n v0 f = lo := by omega
        show @VR v0 μ (.int k (iadd lo c)) u
        simp only [VR]
        rw [hx, hn, iaddE] at *
        rw [fitW h2 (Int.le_refl _) (Int.le_refl _)]
    · rw [e2]; exact hx
  · exact hx
theorem sameX_ok {h : Hp} {μ : Mu} {x y : AV} {u : Value} (hiv : IvOk v0 h) (hx : @VR v0 μ x u) (e : sameX h x y = true) : @VR v0 μ y u := by
  have hx := ivNorm_ok hiv hx
  unfold sameX at e
  generalize ivNorm h x = z at hx e
  split at e
  · rename_i k f c lo0 hi0 l f' c' lo hi
    replace e := an2 e
    obtain ⟨e1, e⟩ := e
    replace e := an2 e
    obtain ⟨e2, e⟩ := e
    replace e := an2 e
    obtain ⟨e3, e⟩ := e
    obtain rfl := keqT e1
    obtain rfl := Key.beq_eq e2
    rw [ieqE] at e3
    obtain rfl := of_decide_eq_true e3
    rcases asIvI (o := hget f h) (e := false) (k := fun a b => cnd (ile lo (iadd a c)) (ile (iadd b c) hi) false) with ⟨a, b, e4, e5⟩ | e5
    · rw [e5] at e
      obtain ⟨e6, e7⟩ := an2 e
      rw [ileE, iaddE] at e6 e7
      have e6 := of_decide_eq_true e6
      have e7 := of_decide_eq_true e7
      have := hiv f a b e4
      simp only [VR] at hx ⊢
      exact ⟨hx.1, by omega, by omega⟩
    · rw [e5] at e; cases e
  · rw [← avE e]; exact hx
theorem sameXs_ok {h : Hp} {μ : Mu} (hiv : IvOk v0 h) : ∀ {x y : List AV} {u : List Value}, @VRs v0 μ x u → sameXs h x y = true → @VRs v0 μ y u
  | [], [], _, hx, _ => hx
  | [], _ :: _, _, _, e => by cases e
  | _ :: _, [], _, _, e => by cases e
  | x :: xs, y :: ys, u, hx, e => by
    obtain ⟨e1, e2⟩ := an2 (show cnd (sameX h x y) (sameXs h xs ys) false = true from e)
    simp only [VRs] at hx ⊢
    obtain ⟨v, r, e, h1, h2⟩ := hx
    exact ⟨v, r, e, sameX_ok hiv h1 e1, sameXs_ok hiv h2 e2⟩
theorem sameRows_ok {h : Hp} {μ : Mu} (hiv : IvOk v0 h) : ∀ {x y : List (List AV)} {u : List (List Value)}, VRR v0 μ x u → sameRows h x y = true → VRR v0 μ y u
  | [], [], _, hx, _ => hx
  | [], _ :: _, _, _, e => by cases e
  | _ :: _, [], _, _, e => by cases e
  | x :: xs, y :: ys, _, .cons h1 h2, e => by
    obtain ⟨e1, e2⟩ := an2 (show cnd (sameXs h x y) (sameRows h xs ys) false = true from e)
    exact .cons (sameXs_ok hiv h1 e1) (sameRows_ok hiv h2 e2)
theorem ensEq_eq : ∀ {a b : List En}, ensEq a b = true → a = b
  | [], [], _ => rfl
  | [], _ :: _, e => by cases e
  | _ :: _, [], e => by cases e
  | .mk k v n :: l, .mk k' v' n' :: l', e => by
    obtain ⟨e1, e⟩ := an2 (show cnd (aveq k k') (cnd (aveq v v') (cnd (Nat.beq n n') (ensEq l l') false) false) false = true from e)
    replace e := an2 e
    obtain ⟨e2, e⟩ := e
    obtain ⟨e3, e4⟩ := an2 e
    rw [avE e1, avE e2, Nat.eq_of_beq_eq_true e3, ensEq_eq e4]
theorem stEq_eq {a b : LoopState} (h : stEq a b = true) : a = b := by cases a <;> cases b <;> first | rfl | cases h
mutual
theorem closedA_r {μ ν : Mu} : ∀ (a : AV) (v : Value), closedA a = true → @VR v0 μ a v → @VR v1 ν a v
  | .bool b, v, _, h => by simpa only [VR] using h
  | .int k n, v, _, h => by simpa only [VR] using h
  | .str s, v, _, h => by simpa only [VR] using h
  | .ptr0, v, _, h => by simpa only [VR] using h
  | .slice0, v, _, h => by simpa only [VR] using h
  | .map0, v, _, h => by simpa only [VR] using h
  | .nilFunc, v, _, h => by simpa only [VR] using h
  | .nilIface, v, _, h => by simpa only [VR] using h
  | .agg l, v, e, h => by
    simp only [VR] at h ⊢
    obtain ⟨cs, h1, h2⟩ := h
    exact ⟨cs, h1, closedAs_r l _ e h2⟩
  | .top, _, e, _ => by cases e
  | .any, _, e, _ => by cases e
  | .ub, _, e, _ => by cases e
  | .rng .., _, e, _ => by cases e
  | .md .., _, e, _ => by cases e
  | .sl .., _, e, _ => by cases e
  | .ptr .., _, e, _ => by cases e
  | .slice .., _, e, _ => by cases e
  | .map .., _, e, _ => by cases e
  | .func .., _, e, _ => by cases e
  | .iface .., _, e, _ => by cases e
  | .tuple .., _, e, _ => by cases e
  | .sx .., _, e, _ => by cases e
  | .le .., _, e, _ => by cases e
  | .eqv .., _, e, _ => by cases e
  | .stx .., _, e, _ => by cases e
  | .nsl .., _, e, _ => by cases e
  | .nix .., _, e, _ => by cases e
  | .stq .., _, e, _ => by cases e
  | .nv .., _, e, _ => by cases e
theorem closedAs_r {μ ν : Mu} : ∀ (l : List AV) (vs : List Value), closedAs l = true → @VRs v0 μ l vs → @VRs v1 ν l vs
  | [], vs, _, h => by simpa only [VRs] using h
  | a :: l, vs, e, h => by
    obtain ⟨e1, e2⟩ := an2 (show cnd (closedA a) (closedAs l) false = true from e)
    simp only [VRs] at h ⊢
    obtain ⟨v, r, e3, h1, h2⟩ := h
    exact ⟨v, r, e3, closedA_r a v e1 h1, closedAs_r l r e2 h2⟩
end
theorem closedAs_get : ∀ {l : List AV} {j : Nat} {a : AV}, closedAs l = true → l[j]? = some a → closedA a = true
  | [], j, a, _, hj => by simp at hj
  | x :: l, j, a, e, hj => by
    obtain ⟨e1, e2⟩ := an2 (show cnd (closedA x) (closedAs l) false = true from e)
    cases j with
    | zero => simp at hj; subst hj; exact e1
    | succ j => exact closedAs_get e2 (by simpa using hj)
theorem closedTr_get : ∀ {c : Tr Row} {r : Nat} {l : List AV} {gw : Nat}, closedTr c = true → c.get r = some (.mk l gw) → closedAs l = true
  | .e, r, l, gw, _, hg => by cases hg
  | .lf (.mk l' g'), r, l, gw, e, hg => by
    rw [Tr.get_lf] at hg
    split at hg
    · cases hg; exact e
    · cases hg
  | .n a b, r, l, gw, e, hg => by
    obtain ⟨e1, e2⟩ := an2 (show cnd (closedTr a) (closedTr b) false = true from e)
    rw [Tr.get_n] at hg
    split at hg
    · exact closedTr_get e1 hg
    · exact closedTr_get e2 hg
theorem or_keep {sg : Sg} {B : Nat} {μ : Mu} {w : World} {f : Key} {o : Ob} (e0 : notG sg f = true) (e1 : closedOb o = true) (k : @OR v0 B μ w f o) : @OR v1 B (remu sg μ) w f o := by
  cases o <;> first | (cases e1; done) | skip
  rename_i ro gen sz dp ext c
  have e1 : closedTr c = true := e1
  obtain ⟨k1, ⟨k3, k4⟩, k5⟩ := k
  refine ⟨k1, ⟨fun g hg => by rw [remu_notG e0]; exact k3 g hg, k4⟩, fun g b s n hm => ?_⟩
  rw [remu_notG e0] at hm
  obtain ⟨a1, a2, cs, e, fz, a3, a4, a5, a6⟩ := k5 g b s n hm
  refine ⟨a1, a2, cs, e, fz, a3, a4, a5, fun r l gw hg hgw hsr => ?_⟩
  obtain ⟨b1, b2, b3⟩ := a6 r l gw hg hgw hsr
  refine ⟨b1, b2, fun j a hj => ?_⟩
  obtain ⟨v, c1, c2⟩ := b3 j a hj
  exact ⟨v, c1, closedA_r a v (closedAs_get (closedTr_get e1 hg) hj) c2⟩
theorem gr_or {sg : Sg} (hs : SgOk v0 v1 sg) {B : Nat} {μ : Mu} {w : World} {h h' : Hp} {g : Gr} (hiv : IvOk v0 h) (hg : GrOk v0 v1 g) (e : grB sg h h' g = true) (hc : codes h [g] = codes h' [g]) (ho : obsOf h [g] = obsOf h' [g]) (hcl : closedGr h' [g] = true)
    (hst : ∀ b s n, μ g.key 0 = some (b, s, n) → s = 0) (k : @OR v0 B μ w g.key (hget g.key h)) : @OR v1 B (remu sg μ) w g.key (hget g.key h') := by
  cases g with
  | keep f =>
    simp only [grB] at e
    simp only [Gr.key] at k hst ⊢
    simp only [obsOf, List.cons.injEq, and_true] at ho
    rw [ho] at k
    exact or_keep e (an2 (show cnd (closedOb (hget f h')) true false = true from hcl)).1 k
  | grow f q q' sz exp =>
    simp only [grB] at e
    simp only [Gr.key] at k hst ⊢
    split at e
    · rename_i gen z p sfx gen' z' p' hX hX'
      replace e := an2 e
      obtain ⟨e1, e⟩ := e
      replace e := an2 e
      obtain ⟨e2, e⟩ := e
      replace e := an2 e
      obtain ⟨e3, e⟩ := e
      replace e := an2 e
      obtain ⟨e4, e⟩ := e
      obtain rfl := Nat.eq_of_beq_eq_true e1
      obtain rfl := Nat.eq_of_beq_eq_true e2
      obtain rfl := Key.beq_eq e3
      obtain rfl := Key.beq_eq e4
      cases hf : findG f sg.gs with
      | none => rw [hf] at e; cases e
      | some x =>
        rw [hf] at e
        obtain ⟨x1, x2⟩ := x
        obtain ⟨e5, e⟩ := an2 (show cnd (Nat.beq x1 gen) (cnd (Nat.beq x2 gen') (sameRows h sfx exp) false) false = true from e)
        obtain ⟨e6, e7⟩ := an2 e
        obtain rfl := Nat.eq_of_beq_eq_true e5
        obtain rfl := Nat.eq_of_beq_eq_true e6
        rw [hX] at k
        rw [hX']
        exact or_grow hs hf hg.1 hg.2.1 (fun μ rows hr => hg.2.2 μ rows (sameRows_ok hiv hr e7)) k
    · cases e
  | new f q' sz exp =>
    simp only [grB] at e
    simp only [Gr.key] at k hst ⊢
    split at e
    · rename_i z dp ext c gen' z' p' hX hX'
      replace e := an2 e
      obtain ⟨e1, e⟩ := e
      replace e := an2 e
      obtain ⟨e2, e⟩ := e
      replace e := an2 e
      obtain ⟨e3, e⟩ := e
      obtain rfl := Nat.eq_of_beq_eq_true e1
      obtain rfl := Nat.eq_of_beq_eq_true e2
      obtain rfl := Key.beq_eq e3
      cases hf : findG f sg.gs with
      | none => rw [hf] at e; cases e
      | some x =>
        rw [hf] at e
        obtain ⟨x1, x2⟩ := x
        obtain ⟨e5, e⟩ := an2 (show cnd (Nat.beq x1 0) (cnd (Nat.beq x2 gen') (opt (getRows c 0 exp.length 0) false fun sfx => sameRows h sfx exp) false) false = true from e)
        obtain ⟨e6, e7⟩ := an2 e
        obtain rfl := Nat.eq_of_beq_eq_true e5
        obtain rfl := Nat.eq_of_beq_eq_true e6
        cases hr : getRows c 0 exp.length 0 with
        | none => rw [hr] at e7; cases e7
        | some sfx =>
          rw [hr] at e7
          have e7 : sameRows h sfx exp = true := e7
          have hlen : ∀ {a b : List (List AV)}, sameRows h a b = true → a.length = b.length := by
            intro a
            induction a with
            | nil => intro b hb; cases b <;> first | rfl | cases hb
            | cons x a ih =>
              intro b hb
              cases b with
              | nil => cases hb
              | cons y b => simp [ih (an2 (show cnd (sameXs h x y) (sameRows h a b) false = true from hb)).2]
          rw [← hlen e7] at hr
          rw [hX] at k
          rw [hX']
          exact or_new hs hst hf hr hg.1 hg.2.1 (fun μ rows hr => hg.2.2 μ rows (sameRows_ok hiv hr e7)) k
    · cases e
  | loop f =>
    simp only [grB] at e
    simp only [Gr.key] at k hst ⊢
    split at e
    · rename_i st fn tm ps a0 b0 df a b c st' fn' tm' ps' a0' b0' df' a' b' c' hX hX'
      simp only [codes, hX, hX', List.cons.injEq, and_true] at hc
      obtain ⟨rfl, rfl⟩ := hc
      replace e := an2 e
      obtain ⟨e1, e⟩ := e
      replace e := an2 e
      obtain ⟨e2, e⟩ := e
      replace e := an2 e
      obtain ⟨e3, e⟩ := e
      replace e := an2 e
      obtain ⟨e4, e⟩ := e
      replace e := an2 e
      obtain ⟨e5, e⟩ := e
      replace e := an2 e
      obtain ⟨e6, e⟩ := e
      replace e := an2 e
      obtain ⟨e7, e⟩ := e
      replace e := an2 e
      obtain ⟨e8, e⟩ := e
      obtain ⟨e9, e10⟩ := an2 e
      obtain rfl := stEq_eq e2
      obtain rfl := Nat.eq_of_beq_eq_true e3
      rw [show natsEq ps ps' = leq ps ps' from rfl, leqE] at e5
      obtain rfl := of_decide_eq_true e5
      obtain rfl := Key.beq_eq e6
      obtain rfl := Nat.eq_of_beq_eq_true e8
      obtain rfl := Nat.eq_of_beq_eq_true e9
      obtain rfl := Nat.eq_of_beq_eq_true e10
      rw [hX] at k
      rw [hX']
      exact or_loop hs e1 e4 e7 k
    · cases e
  | mapu f =>
    simp only [grB] at e
    simp only [Gr.key] at k hst ⊢
    split at e
    · rename_i es es' hX hX'
      replace e := an2 e
      obtain ⟨e1, e⟩ := e
      obtain ⟨e2, e3⟩ := an2 e
      obtain rfl := ensEq_eq e2
      rw [hX] at k
      rw [hX']
      exact or_mapu hs e1 e3 k
    · cases e
theorem codes_one {sg : Sg} {h h' : Hp} : ∀ {gr : List Gr}, grsB sg h h' gr = true → codes h gr = codes h' gr → obsOf h gr = obsOf h' gr → closedGr h' gr = true →
    ∀ g ∈ gr, grB sg h h' g = true ∧ codes h [g] = codes h' [g] ∧ obsOf h [g] = obsOf h' [g] ∧ closedGr h' [g] = true
  | [], _, _, _, _, g, hg => by cases hg
  | x :: gr, e, hc, ho, hcl, g, hg => by
    obtain ⟨e1, e2⟩ := an2 (show cnd (grB sg h h' x) (grsB sg h h' gr) false = true from e)
    have key : (codes h [x] = codes h' [x] ∧ codes h gr = codes h' gr) ∧ (obsOf h [x] = obsOf h' [x] ∧ obsOf h gr = obsOf h' gr) ∧ (closedGr h' [x] = true ∧ closedGr h' gr = true) := by
      cases x with
      | grow f q q' sz exp => exact ⟨⟨rfl, hc⟩, ⟨rfl, ho⟩, ⟨rfl, hcl⟩⟩
      | new f q' sz exp => exact ⟨⟨rfl, hc⟩, ⟨rfl, ho⟩, ⟨rfl, hcl⟩⟩
      | mapu f => exact ⟨⟨rfl, hc⟩, ⟨rfl, ho⟩, ⟨rfl, hcl⟩⟩
      | keep f =>
        simp only [obsOf, List.cons.injEq] at ho ⊢
        obtain ⟨c1, c2⟩ := an2 (show cnd (closedOb (hget f h')) (closedGr h' gr) false = true from hcl)
        exact ⟨⟨rfl, hc⟩, ⟨⟨ho.1, trivial⟩, ho.2⟩, ⟨by show cnd (closedOb (hget f h')) true false = true; rw [c1]; rfl, c2⟩⟩
      | loop f =>
        refine ⟨?_, ⟨rfl, ho⟩, ⟨rfl, hcl⟩⟩
        simp only [grB] at e1
        split at e1
        · rename_i hX hX'
          simp only [codes, hX, hX', List.cons.injEq] at hc ⊢
          exact ⟨⟨hc.1, hc.2.1, trivial⟩, hc.2.2⟩
        · cases e1
    rcases List.mem_cons.1 hg with rfl | hg
    · exact ⟨e1, key.1.1, key.2.1.1, key.2.2.1⟩
    · exact codes_one e2 key.1.2 key.2.1.2 key.2.2.2 g hg
theorem gcH_in {h : Hp} {f : Key} (ks : List Key) (hf : inKs f ks = true) : hget f (gcH ks h) = hget f h := by
  have key : ∀ (ks : List Key) (h' : Hp), hget f (List.rec (motive := fun _ => Hp → Hp) (fun h' => h') (fun k _ ih h' => ih (hset k (hget k h) h')) ks h') = if inKs f ks = true then hget f h else hget f h' := by
    intro ks
    induction ks with
    | nil => intro h'; rw [if_neg (fun hh => by cases hh)]
    | cons k ks ih =>
      intro h'
      show hget f (List.rec (motive := fun _ => Hp → Hp) (fun h' => h') (fun k _ ih h' => ih (hset k (hget k h) h')) ks (hset k (hget k h) h')) = _
      rw [ih]
      cases hb : Key.beq k f with
      | true =>
        obtain rfl := Key.beq_eq hb
        rw [hget_hset]
        have : inKs k (k :: ks) = true := by unfold inKs; rw [hb]; rfl
        rw [if_pos this]
        split <;> rfl
      | false =>
        have : inKs f (k :: ks) = inKs f ks := by show cnd (Key.beq k f) true (inKs f ks) = _; rw [hb]; rfl
        rw [this, hget_hset_ne (Key.beq_ne hb)]
  have := key ks hp0
  rw [if_pos hf] at this
  exact this
theorem inKs_map {f : Key} : ∀ {gr : List Gr}, inKs f (gr.map Gr.key) = true → ∃ g ∈ gr, g.key = f
  | [], h => by cases h
  | g :: gr, h => by
    simp only [List.map_cons] at h
    unfold inKs at h
    cases hb : Key.beq g.key f with
    | true => exact ⟨g, List.mem_cons_self .., Key.beq_eq hb⟩
    | false => rw [hb] at h; obtain ⟨x, h1, h2⟩ := inKs_map h; exact ⟨x, List.mem_cons_of_mem _ h1, h2⟩
def zips : List Fr → List Fr → List Zf
  | .mk L td fi :: l, .mk L' _ fi' :: l' => .mk L L' td fi fi' :: zips l l'
  | _, _ => []
theorem zips_ok {sg : Sg} : ∀ {cs cs' : List Fr}, renCs sg cs cs' = true → (cs.map fun | .mk _ td _ => td) = (cs'.map fun | .mk _ td _ => td) → (zips cs cs').map Zf.a = cs ∧ (zips cs cs').map Zf.b = cs' ∧ renZs sg (zips cs cs') = true
  | [], [], _, _ => ⟨rfl, rfl, rfl⟩
  | [], _ :: _, e, _ => by cases e
  | .mk _ _ _ :: _, [], e, _ => by cases e
  | .mk L td fi :: l, .mk L' td' fi' :: l', e, ht => by
    obtain ⟨e1, e2⟩ := an2 (show cnd (renZ sg (.mk L L' td fi fi')) (renCs sg l l') false = true from e)
    simp only [List.map_cons, List.cons.injEq] at ht
    obtain ⟨rfl, ht⟩ := ht
    obtain ⟨h1, h2, h3⟩ := zips_ok e2 ht
    refine ⟨by simp only [zips, List.map_cons, h1]; rfl, by simp only [zips, List.map_cons, h2]; rfl, ?_⟩
    show cnd (renZ sg (.mk L L' td fi fi')) (renZs sg (zips l l')) false = true
    rw [e1, h3]; rfl
theorem map2_sel {α β γ : Type} (f : α → β → γ) (n : N α) (m : N β) (d : D) : N.sel d (N.map2 f n m) = f (N.sel d n) (N.sel d m) := by
  obtain ⟨a, b, c, d', e, g, i, j⟩ := n
  obtain ⟨a', b', c', d'', e', g', i', j'⟩ := m
  cases d <;> rfl
theorem maskTm_get (t' t : Tm) (a b c : D) : tget a b c (maskTm t' t) = maskA (tget a b c t') (tget a b c t) := by
  rw [tget_eq, tget_eq, tget_eq, maskTm, map2_sel, map2_sel, map2_sel]
theorem maskA_r {μ : Mu} {a' a : AV} {v : Value} (h : @VR v0 μ a v) : @VR v0 μ (maskA a' a) v := by
  unfold maskA
  split
  · simp only [VR]
  · exact h
theorem maskTm_r {nd : Nat} {X : Nat → Prop} {μ : Mu} {t' t : Tm} {tmps : Array Value} (k : @NeedR v0 nd X μ t tmps) : @NeedR v0 nd X μ (maskTm t' t) tmps := fun u h1 h2 => by
  show @VR v0 μ (tget _ _ _ (maskTm t' t)) _
  rw [maskTm_get]; exact maskA_r (k u h1 h2)
theorem maskKn {μ : Mu} {nd : Nat} {cl : Cl} {L' L : Lo} {tmps : Array Value} (k : @KnR v0 nd μ cl L tmps) : @KnR v0 nd μ cl (maskLo L' L) tmps := by
  obtain ⟨k1, k2, k3⟩ := k
  obtain ⟨t', a', b', c'⟩ := L'
  obtain ⟨t, a, b, c⟩ := L
  refine @KnR.mk v0 _ _ _ _ _ (maskTm_r k1) k2 fun u d x hm => ?_
  have hv := k3 u d x hm
  cases x with
  | w0 => exact maskA_r hv
  | w1 => exact maskA_r hv
  | w2 => exact maskA_r hv
  | t x y z => rw [getOt] at hv ⊢; show @VR v0 μ (tget x y z (maskTm t' t)) _; rw [maskTm_get]; exact maskA_r hv
  | c av => rw [getOc] at hv ⊢; exact hv
theorem maskBody {F0 : Fk} {sg : Sg} {E : Env} {fn : Nat} {μ : Mu} {L' L : Lo} {tmps : Array Value} {md : Md} {l : List Ci} {k : List Item} {F : List Key} (et : tdOk sg l = true)
    (b : @BodyR v0 F0 E fn μ L tmps md l k F) : F = [] ∧ @BodyR v0 F0 E fn μ (maskLo L' L) tmps md l k [] := by
  cases b with
  | plain h1 h2 => exact ⟨rfl, .plain (maskKn h1) h2⟩
  | waitP h1 h2 h3 h4 h5 => exact ⟨rfl, .waitP (maskKn h1) h2 h3 h4 h5⟩
  | inRFP h1 h2 h3 => exact ⟨rfl, .inRFP (maskKn h1) h2 h3⟩
  | out h0 h1 h2 =>
    refine ⟨rfl, .out h0 ?_ h2⟩
    obtain ⟨t', a', b', c'⟩ := L'
    obtain ⟨t, a, b, c⟩ := L
    exact maskTm_r h1
  | drawn h1 => cases h1 <;> cases et
theorem maskFr {F0 : Fk} {sg : Sg} {E : Env} {μ : Mu} {L' L : Lo} {l : List Ci} {fi : FI} {fr : Frame} {F : List Key} (et : tdOk sg l = true) (b : @FrR v0 F0 E μ L l fi fr F) : F = [] ∧ @FrR v0 F0 E μ (maskLo L' L) l fi fr [] := by
  cases b with
  | mk h1 h2 =>
    obtain ⟨e, h3⟩ := maskBody et h2
    exact ⟨e, .mk h1 h3⟩
theorem mask_sim {F0 : Fk} {sg : Sg} {E : Env} {P : Program} {C : Call0} {L L' : Lo} {td : List Ci} {fi : FI} {cs : List Fr} {h : Hp} {nx : Key} {m : Machine} (et : tdOk sg td = true)
    (k : @Sim v0 F0 E P C (.mk L td fi cs h nx) m) : @Sim v0 F0 E P C (.mk (maskLo L' L) td fi cs h nx) m := by
  cases k with
  | mk hr hg he hf hst hk =>
    obtain ⟨rfl, f1⟩ := maskFr (L' := L') et hf
    exact @Sim.mk v0 F0 _ _ _ _ _ _ _ _ _ _ _ _ _ _ _ hr hg he f1 hst hk
theorem end_sim {F0 F1 : Fk} {sg : Sg} (hs : SgOk v0 v1 sg) (hF : @FkOk v1 F1) {E : Env} {P : Program} {C : Call0} {ks : List Key} {gr : List Gr} {H c : Cfg} {m : Machine} (hg : ∀ g ∈ gr, GrOk v0 v1 g)
    (hH : gcH ks H.hp = H.hp) (e : endB E sg ks gr H c = true) (ht : c.tds = H.tds) (hc : codes c.hp gr = codes H.hp gr) (ho : obsOf c.hp gr = obsOf H.hp gr) (hcl : closedGr H.hp gr = true) (k : @Sim v0 F0 E P C c m) : @Sim v1 F1 E P C H m := by
  obtain ⟨L', td', fi', cs', h', nx'⟩ := H
  obtain ⟨L, td, fi, cs, h, nx⟩ := c
  simp only [Cfg.hp] at hH hc ho hcl
  simp only [Cfg.tds, List.cons.injEq] at ht
  obtain ⟨rfl, ht⟩ := ht
  obtain ⟨e1, e⟩ := an2 (show cnd (gcOk E ks (gcH ks h) (.mk (maskLo L' L) td fi cs h nx)) (cnd (renZ sg (.mk (maskLo L' L) L' td fi fi')) (cnd (renCs sg cs cs') (cnd (renObs sg (gr.map Gr.key) (gcH ks h) h' ks) (cnd (grsB sg h h' gr) (cnd (gmOk E.gm sg 64) (endB.subK gr ks) false) false) false) false) false) false = true from e)
  replace e := an2 e
  obtain ⟨e2, e⟩ := e
  replace e := an2 e
  obtain ⟨e3, e⟩ := e
  replace e := an2 e
  obtain ⟨e4, e⟩ := e
  replace e := an2 e
  obtain ⟨e5, e⟩ := e
  obtain ⟨e6, e7⟩ := an2 e
  have hiv : IvOk v0 h := by
    cases k with
    | mk hr _ _ _ _ _ => exact fun f lo hi ho => @HR.ivOf v0 F0 _ _ _ _ hr f lo hi ho
  have hgm : Nat.blt E.gm (2 ^ 64) = true := by
    obtain ⟨_, a⟩ := an2 (show cnd (okLo (gcH ks h) (maskLo L' L)) (cnd (okTd (gcH ks h) td) (cnd (okFI (gcH ks h) fi) (cnd (okFrs (gcH ks h) cs) (cnd (okObs (gcH ks h) ks) (cnd (Nat.blt E.gm (2 ^ 64)) (okGm E.gm (gcH ks h) 64) false) false) false) false) false) false = true from e1)
    replace a := an2 a
    obtain ⟨_, a⟩ := a
    replace a := an2 a
    obtain ⟨_, a⟩ := a
    replace a := an2 a
    obtain ⟨_, a⟩ := a
    replace a := an2 a
    obtain ⟨_, a⟩ := a
    exact (an2 a).1
  have et : tdOk sg td = true := (an2 (an2 (show cnd (renLo sg (maskLo L' L) L') (cnd (tdOk sg td) (renFI sg fi fi') false) false = true from e2)).2).1
  have k1 := @gc_sim F0 v0 E P C ks (maskLo L' L) td fi cs h nx m e1 (mask_sim et k)
  obtain ⟨z1, z2, z3⟩ := zips_ok e3 ht
  rw [← z1] at k1
  rw [← z2]
  refine ren_sim hs hF (supp_gc ks h) (by rw [← hH]; exact supp_gc ks h') e2 z3 e4 e6 hgm (fun f hf μ w hst hor => ?_) k1
  obtain ⟨g, g1, rfl⟩ := inKs_map hf
  obtain ⟨b1, b2, b3, b4⟩ := codes_one e5 hc ho hcl g g1
  have hin : inKs g.key ks = true := by
    have := List.all_eq_true.1 e7 g g1
    exact this
  rw [gcH_in ks hin] at hor
  exact gr_or hs hiv (hg g g1) b1 b2 b3 b4 hst hor
end
section
variable [Val] [Fk] {E : Env} {P : Program} (hE : EnvOk E P) {C : Call0} (hS : SumOk E P C) (hD : DrawnOk E P C)
include hE hS hD in
theorem turns_sound {hd : Cfg → Bool} : ∀ (n : Nat) {c : Cfg} {l : List Cfg} {m : Machine}, turnsC E hd n c = some l → Sim E P C c m → Done E P C Fk.rv m ∨ ∃ c' ∈ l, ∃ m', Steps P m m' ∧ Sim E P C c' m'
  | 0, _, _, _, h, _ => by cases h
  | n + 1, c, l, m, h, hs => by
    have hg := step_good hE hS hD hs
    have h : (Sp.rec (motive := fun _ => Option (List Cfg)) (fun c' => cnd (hd c) (some [c']) (back (turnsC E hd n) c')) (fun v => cnd (aveq v Fk.rv) (some []) none)
      (fun l => catO (turnsC E hd n) l) none (step E c) : Option (List Cfg)) = some l := h
    cases hc : step E c with
    | go c' =>
      rw [hc] at h hg
      obtain ⟨m', h1, h2⟩ := hg
      have h : cnd (hd c) (some [c']) (turnsC E hd n c') = some l := h
      cases hh : hd c with
      | true => rw [hh] at h; cases h; exact .inr ⟨c', by simp, m', h1, h2⟩
      | false =>
        rw [hh] at h
        rcases turns_sound n (c := c') h h2 with h3 | ⟨c2, h3, m2, h4, h5⟩
        · exact .inl (h3.of_steps h1)
        · exact .inr ⟨c2, h3, m2, h1.trans h4, h5⟩
    | done v =>
      rw [hc] at h hg
      obtain ⟨h1, _⟩ := cnI (show cnd (aveq v Fk.rv) (some []) none = some l from h)
      rw [← avE h1]
      exact .inl hg
    | br cs =>
      rw [hc] at h hg
      obtain ⟨c', hm, m', h1, h2⟩ := hg
      have key : ∀ (cs : List Cfg) (l : List Cfg), catO (turnsC E hd n) cs = some l → ∀ c' ∈ cs, ∃ l', turnsC E hd n c' = some l' ∧ ∀ x ∈ l', x ∈ l := by
        intro cs
        induction cs with
        | nil => intro l _ c' hc'; cases hc'
        | cons a cs ih =>
          intro l hl c' hc'
          obtain ⟨x, e1, e2⟩ := opI (show opt (turnsC E hd n a) none (fun x => opt (catO (turnsC E hd n) cs) none fun b => some (x ++ b)) = some l from hl)
          obtain ⟨y, e3, e4⟩ := opI e2
          cases e4
          rcases List.mem_cons.1 hc' with rfl | hc'
          · exact ⟨x, e1, fun z hz => List.mem_append_left _ hz⟩
          · obtain ⟨l', e5, e6⟩ := ih y e3 c' hc'
            exact ⟨l', e5, fun z hz => List.mem_append_right _ (e6 z hz)⟩
      obtain ⟨l', e1, e2⟩ := key cs l h c' hm
      rcases turns_sound n e1 h2 with h3 | ⟨c2, h3, m2, h4, h5⟩
      · exact .inl (h3.of_steps h1)
      · exact .inr ⟨c2, e2 _ h3, m2, h1.trans h4, h5⟩
    | fail => rw [hc] at h; cases h
theorem done_any {v0 v1 : Val} {E : Env} {P : Program} {C : Call0} {m : Machine} {a : AV} (ha : closedA a = true) (h : @Done v0 E P C a m) : @Done v1 E P C a m := by
  obtain ⟨fr, w, v, μ, h1, h2, h3, h4⟩ := h
  exact ⟨fr, w, v, μ, h1, h2, closedA_r a v ha h3, h4⟩
end
theorem turn_sim {v0 v1 : Val} {F0 F1 : Fk} {sg : Sg} (hs : SgOk v0 v1 sg) (hF : @FkOk v1 F1) {E : Env} {P : Program} (hE : EnvOk E P) {C : Call0} (hS : @SumOk v0 F0 E P C) {ks : List Key} {gr : List Gr} {hd : Cfg → Bool} {n j : Nat} {H c : Cfg} {m : Machine}
    (hg : ∀ g ∈ gr, GrOk v0 v1 g) (hH : gcH ks H.hp = H.hp) (hcl : closedGr H.hp gr = true) (hrv : closedA F0.rv = true) (e : @turnT F0 E hd n sg ks gr H c = some (List.replicate j (headE gr H))) (k : @Sim v0 F0 E P C c m) :
    @Done v1 E P C F0.rv m ∨ ∃ m', Steps P m m' ∧ @Sim v1 F1 E P C H m' := by
  obtain ⟨l, h1, h2⟩ := opI (show opt (@turnsC F0 E hd n c) none (fun l => some (l.map (endE E sg ks gr H))) = some _ from e)
  have h2 : l.map (endE E sg ks gr H) = List.replicate j (headE gr H) := Option.some.inj h2
  rcases @turns_sound v0 F0 E P hE C hS (@drawn_ok v0 F0 E P hE C hS) hd n c l m h1 k with h3 | ⟨c', h3, m', h4, h5⟩
  · exact .inl (done_any hrv h3)
  · right
    have : endE E sg ks gr H c' = headE gr H := by
      have hm : endE E sg ks gr H c' ∈ l.map (endE E sg ks gr H) := List.mem_map_of_mem h3
      rw [h2] at hm
      exact (List.mem_replicate.1 hm).2
    simp only [endE, headE, Prod.mk.injEq] at this
    obtain ⟨a1, a2, a3, a4⟩ := this
    exact ⟨m', h4, end_sim hs hF hg hH a4 a1 a2 a3 hcl h5⟩
theorem turn_done {v0 : Val} {F0 : Fk} {sg : Sg} {E : Env} {P : Program} (hE : EnvOk E P) {C : Call0} (hS : @SumOk v0 F0 E P C) {ks : List Key} {gr : List Gr} {hd : Cfg → Bool} {n : Nat} {H c : Cfg} {m : Machine}
    (e : @turnT F0 E hd n sg ks gr H c = some []) (k : @Sim v0 F0 E P C c m) : @Done v0 E P C F0.rv m := by
  obtain ⟨l, h1, h2⟩ := opI (show opt (@turnsC F0 E hd n c) none (fun l => some (l.map (endE E sg ks gr H))) = some _ from e)
  have h2 : l.map (endE E sg ks gr H) = [] := Option.some.inj h2
  rcases @turns_sound v0 F0 E P hE C hS (@drawn_ok v0 F0 E P hE C hS) hd n c l m h1 k with h3 | ⟨c', h3, _⟩
  · exact h3
  · rw [List.map_eq_nil_iff] at h2
    rw [h2] at h3; cases h3
end
end Go.Ev

namespace Go.Ev
set_option linter.unusedVariables false
set_option linter.unusedSectionVars false
set_option linter.unusedSimpArgs false
noncomputable section
/-! ## slices that come in, as named lists -/
section
variable [Val] [Fk]
theorem HR.argL {μ : Mu} {h : Hp} {W : World} {f q : Key} {sz : Nat} {v : Value} (hH : HR W.heap.size μ h W) (hno : ∀ g, μ f g = none) (hn : nz q = (Val.l q).length) (hr : LaR W v sz (Val.l q)) :
    ∃ ν, μ.le ν ∧ (∀ f', f ≠ f' → ∀ g, ν f' g = μ f' g) ∧ HR W.heap.size ν (hset f (.lst true lstGen sz q []) h) W ∧ VR ν (.nsl f lstGen sz kZ 0 q 0 0) v := by
  obtain ⟨hrows, base, cap, rfl, hcap, hb⟩ := hr
  have z := nz_kZ
  rcases hb with hb | ⟨b, off, rfl, cs, e, fz, hheap, hroom, hl⟩
  · refine ⟨μ, Mu.le_refl _, fun _ _ _ => rfl, ⟨hH.inj, hH.lt, fun f1 => ?_, hH.side, hH.fk, hH.start⟩, ?_⟩
    · by_cases hff : f = f1
      · subst hff
        rw [hget_hset]
        exact ⟨⟨⟨hn, hrows⟩, by simp⟩, ⟨fun g _ => hno g, fun hh => by cases hh⟩, fun g b s n hm => by rw [hno] at hm; cases hm⟩
      · rw [hget_hset_ne hff]; exact hH.obj f1
    · simp only [VR]
      exact ⟨base, _, cap, rfl, hcap, by omega, by omega, .inl hb⟩
  · have hlt : b < W.heap.size := (Array.getElem?_eq_some_iff.1 hheap).1
    have hle := Mu.ins_le (hno lstGen) (b, off, cs.size)
    refine ⟨μ.ins f lstGen (b, off, cs.size), hle, fun f' hf g => Mu.ins_other _ (.inl hf) _, ⟨fun f1 g1 b1 s1 n1 f2 g2 s2 n2 h1 h2 hc => ?_, fun f1 g1 b1 s1 n1 h1 => ?_, fun f1 => ?_, fun f1 g1 g2 b1 s1 n1 s2 n2 h1 h2 hg => ?_, hH.fk, fun f1 b1 s1 n1 h1 => ?_⟩, ?_⟩
    · rcases Mu.ins_inv h1 with ⟨_, rfl, e1⟩ | k1
      · cases e1; exfalso; rcases hc with ⟨hc, _⟩ | hc
        · exact absurd hc (Nat.lt_irrefl _)
        · omega
      · rcases Mu.ins_inv h2 with ⟨_, rfl, e2⟩ | k2
        · cases e2; exfalso; rcases hc with ⟨_, hc⟩ | hc
          · exact absurd hc (Nat.lt_irrefl _)
          · omega
        · exact hH.inj _ _ _ _ _ _ _ _ _ k1 k2 hc
    · rcases Mu.ins_inv h1 with ⟨_, _, e1⟩ | k1
      · cases e1; exact hlt
      · exact hH.lt _ _ _ _ _ k1
    · by_cases hff : f = f1
      · subst hff
        rw [hget_hset]
        refine ⟨⟨⟨hn, hrows⟩, by simp⟩, ⟨fun g hg => ?_, fun hh => (by cases hh)⟩, fun g b1 s1 n1 hm => ?_⟩
        · rw [Mu.ins_other _ (.inr (by omega)) _]; exact hno g
        · rcases Mu.ins_inv hm with ⟨_, rfl, e1⟩ | k1
          · cases e1
            exact ⟨⟨fun hh => (by cases hh), fun _ => Nat.le_refl _⟩, cs, e, fz, hheap, fun hh => (by cases hh), rfl, hl, fun _ i l hi => by simp at hi⟩
          · rw [hno] at k1; cases k1
      · rw [hget_hset_ne hff]
        exact OR.mono hle (fun g => Mu.ins_other _ (.inl hff) _) (fun _ _ _ _ _ => rfl) (hH.obj f1)
    · rcases Mu.ins_inv h1 with ⟨rfl, i1, e1⟩ | k1
      · rcases Mu.ins_inv h2 with ⟨_, i2, e2⟩ | k2
        · omega
        · rw [hno] at k2; cases k2
      · rcases Mu.ins_inv h2 with ⟨rfl, i2, e2⟩ | k2
        · rw [hno] at k1; cases k1
        · exact hH.side _ _ _ _ _ _ _ _ k1 k2 hg
    · rcases Mu.ins_inv h1 with ⟨_, i1, e1⟩ | k1
      · exact absurd i1 (by decide)
      · exact hH.start _ _ _ _ k1
    · simp only [VR]
      exact ⟨_, _, cap, rfl, hcap, by omega, by omega, .inr ⟨b, off, cs.size, 0, Mu.ins_same _ _ _ _, by omega, by simp, by simpa using hroom⟩⟩
theorem GR.le {E : Env} {μ ν : Mu} (h : μ.le ν) (k : GR E μ) : GR E ν := fun g hg => by
  obtain ⟨n, hn⟩ := k g hg
  exact ⟨n, h _ _ _ hn⟩
theorem HR.argIv {μ : Mu} {h : Hp} {B : Nat} {W : World} {f : Key} {lo hi : Int} (hH : HR B μ h W) (hno : ∀ g, μ f g = none) (h1 : lo ≤ Val.n f) (h2 : Val.n f ≤ hi) : HR B μ (hset f (.iv lo hi) h) W := by
  refine ⟨hH.inj, hH.lt, fun f1 => ?_, hH.side, hH.fk, hH.start⟩
  by_cases hff : f = f1
  · subst hff
    rw [hget_hset]
    exact ⟨hno, h1, h2⟩
  · rw [hget_hset_ne hff]; exact hH.obj f1
end
theorem callsD [Val] [Fk] {a : AV} {E : Env} {P : Program} (hE : EnvOk E P) {W : World} {vs : List AV} {args : Array Value} {h : Hp} {nx : Key} {μ : Mu} (hv : VRs μ vs args.toList) (hr : HR W.heap.size μ h W) (hg : GR E μ)
    (hrun : ∃ c, enter E E.root vs false [] h nx = .go c ∧ ∀ cs m, Sim E P ⟨cs, W⟩ c m → Done E P ⟨cs, W⟩ a m) :
    Calls P E.root args W (fun e w' => ∃ v, e = .returned v ∧ (∃ ν, VR ν a v) ∧ Ext W.heap.size W w') := by
  intro cs
  have hgo := enter_good0 (E := E) (P := P) hE (C := ⟨cs, W⟩) (f := E.root) (nx := nx) hv hr hg (Ext.refl _ _)
  obtain ⟨c, hen, hok⟩ := hrun
  rw [hen] at hgo
  obtain ⟨m', h1, h2⟩ := hgo
  obtain ⟨fr, w, v, ν, k1, k2, k3, k4, k5⟩ := hok cs m' h2
  exact ⟨.returned v, w, fr, ⟨v, rfl, ⟨ν, k3⟩, k4⟩, h1.trans k1, k5, k2⟩
def withIv (l : List (Key × Int × Int)) (c : Cfg) : Cfg := match c with
  | .mk L td fi cs h nx => .mk L td fi cs (List.rec (motive := fun _ => Hp) h (fun x _ ih => hset x.1 (.iv x.2.1 x.2.2) ih) l) nx
theorem sim_iv {v : Val} {F : Fk} {E : Env} {P : Program} {C : Call0} {L : Lo} {td : List Ci} {fi : FI} {cs : List Fr} {h : Hp} {nx : Key} {m : Machine} {f : Key} {a b lo hi : Int} (k : @Sim v F E P C (.mk L td fi cs h nx) m)
    (ho : hget f h = .iv a b) (h1 : lo ≤ v.n f) (h2 : v.n f ≤ hi) : @Sim v F E P C (.mk L td fi cs (hset f (.iv lo hi) h) nx) m := by
  cases k with
  | mk hr hg he hf hst hk =>
    refine @Sim.mk v F _ _ _ _ _ _ _ _ _ _ _ _ _ _ _ (@HR.argIv v F _ _ _ _ _ _ _ hr (fun g => ?_) h1 h2) hg he hf hst ⟨hk.1, fun f' hf' => ?_⟩
    · have := @HR.obj v F _ _ _ _ hr f
      rw [ho] at this
      exact this.1 g
    · obtain ⟨e1, e2⟩ := hk.2 f' hf'
      refine ⟨?_, e2⟩
      by_cases e : f = f'
      · subst e; rw [hget_hset]; rfl
      · rw [hget_hset_ne e]; exact e1
theorem sim_ivs {v : Val} {F : Fk} {E : Env} {P : Program} {C : Call0} : ∀ (l : List (Key × Int × Int)) {c : Cfg} {m : Machine}, (∀ x ∈ l, ∃ a b, hget x.1 c.hp = .iv a b) → (∀ x ∈ l, x.2.1 ≤ v.n x.1 ∧ v.n x.1 ≤ x.2.2) →
    @Sim v F E P C c m → @Sim v F E P C (withIv l c) m ∧ ∀ k a b, hget k c.hp = .iv a b → ∃ a b, hget k (withIv l c).hp = .iv a b
  | [], .mk _ _ _ _ _ _, _, _, _, k => ⟨k, fun k a b h => ⟨a, b, h⟩⟩
  | x :: l, .mk L td fi cs h nx, m, h1, h2, k => by
    obtain ⟨k1, k2⟩ := sim_ivs l (fun y hy => h1 y (List.mem_cons_of_mem _ hy)) (fun y hy => h2 y (List.mem_cons_of_mem _ hy)) k
    obtain ⟨a, b, e⟩ := h1 x (List.mem_cons_self ..)
    obtain ⟨a', b', e'⟩ := k2 x.1 a b e
    obtain ⟨b1, b2⟩ := h2 x (List.mem_cons_self ..)
    refine ⟨sim_iv k1 e' b1 b2, fun k a b hk => ?_⟩
    show ∃ a b, hget k (hset x.1 (.iv x.2.1 x.2.2) _) = .iv a b
    by_cases e : x.1 = k
    · subst e; rw [hget_hset]; exact ⟨_, _, rfl⟩
    · rw [hget_hset_ne e]; exact k2 k a b hk
def enterT [Fk] (E : Env) (hd : Cfg → Bool) (n : Nat) (sg : Sg) (ks : List Key) (gr : List Gr) (H : Cfg) (vs : List AV) (h : Hp) (nx : Key) : Option (List Et) :=
  Sp.rec (motive := fun _ => Option (List Et)) (fun c => turnT E hd n sg ks gr H c) (fun _ => none) (fun _ => none) none (enter E E.root vs false [] h nx)
theorem enterT_some {F : Fk} {E : Env} {hd : Cfg → Bool} {n : Nat} {sg : Sg} {ks : List Key} {gr : List Gr} {H : Cfg} {vs : List AV} {h : Hp} {nx : Key} {l : List Et} (e : @enterT F E hd n sg ks gr H vs h nx = some l) :
    ∃ c, enter E E.root vs false [] h nx = .go c ∧ @turnT F E hd n sg ks gr H c = some l := by
  unfold enterT at e
  cases hen : enter E E.root vs false [] h nx with
  | go c => rw [hen] at e; exact ⟨c, rfl, e⟩
  | _ => rw [hen] at e; cases e
theorem map_one {α β : Type} {f g : α → β} {l : List α} (h : l.map f = l.map g) {a : α} (ha : a ∈ l) : f a = g a := (List.map_inj_left.1 h) a ha
end
end Go.Ev

namespace Go.Ev
set_option linter.unusedVariables false
set_option linter.unusedSectionVars false
set_option linter.unusedSimpArgs false
noncomputable section
theorem cells_get {w : World} {a : Addr} {n : Nat} {l : List Value} (h : w.cells? 0 a n = some l) : l.length = n ∧ ∀ j, j < n → ∃ v, w.cell? (a.add j) = some v ∧ l[j]? = some v := by
  unfold World.cells? at h
  rw [if_pos (Nat.zero_le _)] at h
  have h1 := mapM_some_length h
  rw [List.length_range] at h1
  refine ⟨h1, fun j hj => ?_⟩
  have h2 := mapM_some_get h j j (by simp [hj])
  have h3 : j < l.length := by omega
  exact ⟨l[j], by rw [h2, List.getElem?_eq_getElem h3], List.getElem?_eq_getElem h3⟩
theorem add_eq (a : Addr) (n : Nat) : (a.add n).block = a.block ∧ (a.add n).off = a.off + n ∧ ((a.add n).spot = none → n = 0 → a.spot = none) := by
  unfold Addr.add
  split
  · rename_i h; subst h; exact ⟨rfl, rfl, fun h _ => h⟩
  · rename_i h; exact ⟨rfl, rfl, fun _ h' => absurd h' h⟩
theorem cell_some {w : World} {a : Addr} {v : Value} (h : w.cell? a = some v) : a.spot = none ∧ ∃ cs e fz, w.heap[a.block]? = some (.cells cs e fz) ∧ cs[a.off]? = some v := by
  unfold World.cell? at h
  split at h
  · rename_i cs e fz hb
    split at h
    · cases h
    · rename_i hs
      refine ⟨by cases hh : a.spot with | none => rfl | some x => rw [hh] at hs; simp at hs, cs, e, fz, hb, h⟩
  · cases h
section
variable {E : Env} {P : Program} (hE : EnvOk E P) {w : World} {H : Type} {enc : TypeId × Value → H}
include hE
theorem slice_cells {k fuel : Nat} {t e : TypeId} {cs0 : List Value} {x0 : DataW H × List MemPlace} (hu : E.und t = some (.slice e)) (hsz : E.size e = some (k + 1)) (h : DataW.trod enc P w 0 (fun _ => true) true fuel t cs0 = some x0) :
    ∃ v rows, cs0 = [v] ∧ LaR w v (k + 1) rows ∧ rows.length ≤ maxLen ∧ ∀ row ∈ rows, ∃ fuel x, DataW.trod enc P w 0 (fun _ => true) true fuel e row = some x := by
  have hup := @EnvOk.und dV dF E P hE t _ hu
  have hcell : P.cellsOf e = k + 1 := @EnvOk.cellsOf dV dF E P hE e _ hsz
  rcases DataW.trod_slice hup h with ⟨h1, _⟩ | ⟨a, len, cap, elems, rest, n, rfl, rfl, h2, h3, h4, h5, h6, h7, h8, _⟩
  · subst h1
    exact ⟨.slice none 0 0, [], rfl, ⟨by simp, none, 0, rfl, Nat.le_refl _, .inl rfl⟩, Nat.zero_le _, by simp⟩
  · rw [hcell] at h7 h8
    obtain ⟨h9, h8⟩ := h8 rfl
    have el : ∀ i, i < len → ∃ row x, w.cells? 0 (a.add (i * (k + 1))) (k + 1) = some row ∧ DataW.trod enc P w 0 (fun _ => true) true n e row = some x := by
      intro i hi
      have := h7 i hi
      rw [List.getElem?_eq_getElem (by omega)] at this
      obtain ⟨row, e1, e2⟩ := Option.bind_eq_some_iff.1 this
      exact ⟨row, _, e1, e2⟩
    have any : ∀ i, i < cap → ∃ row, w.cells? 0 (a.add (i * (k + 1))) (k + 1) = some row := by
      intro i hi
      by_cases hlt : i < len
      · obtain ⟨row, _, e1, _⟩ := el i hlt; exact ⟨row, e1⟩
      · have := h8 (i - len) (by omega)
        rw [List.getElem?_eq_getElem (by omega)] at this
        obtain ⟨row, e1, e2⟩ := Option.bind_eq_some_iff.1 this
        exact ⟨row, by rwa [show len + (i - len) = i from by omega] at e1⟩
    let rows := (List.range len).map fun i => (w.cells? 0 (a.add (i * (k + 1))) (k + 1)).getD []
    have hlen : rows.length = len := by simp [rows]
    have hget : ∀ (i : Nat) row, rows[i]? = some row → i < len ∧ w.cells? 0 (a.add (i * (k + 1))) (k + 1) = some row := by
      intro i row hi
      have hlt : i < len := by rw [← hlen]; exact (List.getElem?_eq_some_iff.1 hi).1
      obtain ⟨row', _, e1, _⟩ := el i hlt
      have : rows[i]? = some row' := by simp [rows, hlt, e1]
      rw [this] at hi
      cases hi
      exact ⟨hlt, e1⟩
    refine ⟨.slice (some a) len cap, rows, rfl, ⟨fun row hrow => ?_, some a, cap, by rw [hlen], by omega, ?_⟩, by omega, fun row hrow => ?_⟩
    · obtain ⟨i, hi⟩ := List.getElem?_of_mem hrow
      exact (cells_get (hget i row hi).2).1
    · rcases Nat.eq_zero_or_pos cap with h0 | h0
      · exact .inl h0
      · right
        obtain ⟨row, hr⟩ := any (cap - 1) (by omega)
        obtain ⟨_, hc⟩ := cells_get hr
        obtain ⟨x, hx, _⟩ := hc k (by omega)
        obtain ⟨hs, cs, el', fz, hb, hx⟩ := cell_some hx
        obtain ⟨row0, hr0⟩ := any 0 h0
        obtain ⟨_, hc0⟩ := cells_get hr0
        obtain ⟨x0, hx0, _⟩ := hc0 0 (by omega)
        obtain ⟨hs0, _⟩ := cell_some hx0
        have hsp : a.spot = none := by
          have h1 := (add_eq (a.add (0 * (k + 1))) 0).2.2 hs0 rfl
          exact (add_eq a (0 * (k + 1))).2.2 h1 (by omega)
        obtain ⟨blk, off, spot⟩ := a
        have hs : spot = none := hsp
        subst hs
        have hlt := (Array.getElem?_eq_some_iff.1 hx).1
        rw [(add_eq _ _).1, (add_eq _ _).1] at hb
        rw [(add_eq _ _).2.1, (add_eq _ _).2.1] at hlt
        have hb : w.heap[blk]? = some (.cells cs el' fz) := hb
        have hlt : off + (cap - 1) * (k + 1) + k < cs.size := hlt
        refine ⟨blk, off, rfl, cs, el', fz, hb, ?_, fun i row hi j y hj => ?_⟩
        · have : (cap - 1) * (k + 1) + (k + 1) = cap * (k + 1) := by rw [← Nat.succ_mul]; congr 1; omega
          omega
        · obtain ⟨_, hr⟩ := hget i row hi
          obtain ⟨hl, hc⟩ := cells_get hr
          obtain ⟨z, hz, hz2⟩ := hc j (by have := (List.getElem?_eq_some_iff.1 hj).1; omega)
          obtain ⟨_, cs', e', fz', hb', hz⟩ := cell_some hz
          rw [(add_eq _ _).1, (add_eq _ _).1] at hb'
          rw [(add_eq _ _).2.1, (add_eq _ _).2.1] at hz
          have hb' : w.heap[blk]? = some (.cells cs' e' fz') := hb'
          rw [hb] at hb'
          cases hb'
          rw [hj] at hz2
          cases hz2
          exact hz
    · obtain ⟨i, hi⟩ := List.getElem?_of_mem hrow
      obtain ⟨hlt, hr⟩ := hget i row hi
      obtain ⟨row', x, e1, e2⟩ := el i hlt
      rw [hr] at e1
      cases e1
      exact ⟨n, x, e2⟩
theorem slice_rows {r : Reach} {b0 k : Nat} {t e : TypeId} {v : Value} {d : DataW H} {ps : List MemPlace} (hu : E.und t = some (.slice e)) (hsz : E.size e = some (k + 1)) (hok : Value.okWide P w r b0 t v)
    (h : DataW.Trod enc P w 0 (fun _ => true) true t v d ps) :
    ∃ rows, LaR w v (k + 1) rows ∧ rows.length ≤ maxLen ∧ ∀ row ∈ rows, ∃ fuel x, DataW.trod enc P w 0 (fun _ => true) true fuel e row = some x := by
  have hup := @EnvOk.und dV dF E P hE t _ hu
  obtain ⟨base, len, cap, rfl⟩ : ∃ base len cap, v = .slice base len cap := by
    unfold Value.okWide at hok
    rw [hup] at hok
    simp only at hok
    unfold Cell.okWide at hok
    rw [hup] at hok
    simp only at hok
    unfold Cell.ok at hok
    rw [hup] at hok
    cases v <;> first | exact ⟨_, _, _, rfl⟩ | exact hok.elim
  obtain ⟨fuel, h⟩ := h
  obtain ⟨v, rows, e1, h1⟩ := slice_cells hE hu hsz (show DataW.trod enc P w 0 (fun _ => true) true fuel t [.slice base len cap] = some (d, ps) from h)
  cases e1
  exact ⟨rows, h1⟩
end
end
end Go.Ev

namespace Go.Ev
set_option linter.unusedVariables false
set_option linter.unusedSectionVars false
set_option linter.unusedSimpArgs false
noncomputable section
/-! ## long closed runs in pieces: between them states stand as text, without what is not needed any more -/
def sgI : Sg := .mk [] [] [] []
def maskCs : List Fr → List Fr → List Fr
  | .mk L' _ _ :: l', .mk L td fi :: l => .mk (maskLo L' L) td fi :: maskCs l' l
  | _, l => l
def tdsOk : List Fr → Bool
  | [] => true
  | .mk _ td _ :: l => cnd (tdOk sgI td) (tdsOk l) false
def maskF (H c : Cfg) : Option Cfg :=
  match H, c with
  | .mk _ _ _ cs' _ _, .mk L td fi cs h nx => cnd (tdsOk cs) (some (.mk L td fi (maskCs cs' cs) h nx)) none
theorem maskCs_r {v : Val} {F0 : Fk} {E : Env} {μ : Mu} : ∀ (l' l : List Fr) {frs : List Frame} {Fs : List Key}, tdsOk l = true → @StR v F0 E μ l frs Fs → @StR v F0 E μ (maskCs l' l) frs Fs
  | [], l, _, _, _, k => by cases l <;> exact k
  | .mk L' _ _ :: l', [], _, _, _, k => k
  | .mk L' _ _ :: l', .mk L td fi :: l, frs, Fs, e, k => by
    obtain ⟨e1, e2⟩ := an2 (show cnd (tdOk sgI td) (tdsOk l) false = true from e)
    cases k with
    | cons h1 h2 =>
      obtain ⟨rfl, h3⟩ := maskFr (L' := L') e1 h1
      exact .cons h3 (maskCs_r l' l e2 h2)
theorem maskF_sim {v : Val} {F0 : Fk} {E : Env} {P : Program} {C : Call0} {H c c' : Cfg} {m : Machine} (e : maskF H c = some c') (k : @Sim v F0 E P C c m) : @Sim v F0 E P C c' m := by
  obtain ⟨L', td', fi', cs', h', nx'⟩ := H
  obtain ⟨L, td, fi, cs, h, nx⟩ := c
  obtain ⟨e1, e2⟩ := cnI (show cnd (tdsOk cs) (some (Cfg.mk L td fi (maskCs cs' cs) h nx)) none = some c' from e)
  cases e2
  cases k with
  | mk hr hg he hf hst hk => exact @Sim.mk v F0 _ _ _ _ _ _ _ _ _ _ _ _ _ _ _ hr hg he hf (maskCs_r cs' cs e1 hst) hk
def lpG : List Key → List Gr
  | [] => []
  | k :: l => .loop k :: lpG l
theorem lpG_mem : ∀ {l : List Key} {g : Gr}, g ∈ lpG l → ∃ k, g = .loop k
  | [], g, hg => by cases hg
  | k :: l, g, hg => by
    rcases List.mem_cons.1 (show g ∈ Gr.loop k :: lpG l from hg) with rfl | hg
    · exact ⟨k, rfl⟩
    · exact lpG_mem hg
theorem lpG_ok {v : Val} {l : List Key} : ∀ g ∈ lpG l, GrOk v v g := fun g hg => by
  obtain ⟨k, rfl⟩ := lpG_mem hg
  trivial
theorem lpG_cl {h : Hp} : ∀ l : List Key, closedGr h (lpG l) = true
  | [] => rfl
  | _ :: l => lpG_cl l
def pieceT [Fk] (E : Env) (n : Nat) (ks ls : List Key) (H c : Cfg) : Option Et :=
  match runC E n c with
  | .go c1 => opt (maskF H c1) none fun c2 => some (endE E sgI ks (lpG ls) H c2)
  | _ => none
inductive Ok2 [Fk] (E : Env) : Cfg → Prop where
  | run {n : Nat} {c : Cfg} (h : run E n c = true) : Ok2 E c
  | piece {n : Nat} {ks ls : List Key} {H c : Cfg} (hH : gcH ks H.hp = H.hp) (h : pieceT E n ks ls H c = some (headE (lpG ls) H)) (k : Ok2 E H) : Ok2 E c
theorem sgI_ok (v : Val) : SgOk v v sgI := ⟨fun x hx => (by cases hx), fun x hx => (by cases hx), rfl, fun x hx => (by cases hx)⟩
section
variable [Val] [Fk] {E : Env} {P : Program} (hE : EnvOk E P) {C : Call0} (hS : SumOk E P C) (hF : FkOk)
include hE hS hF
theorem ok2_sound {c : Cfg} (ho : Ok2 E c) : ∀ {m : Machine}, Sim E P C c m → Done E P C (.bool true) m := by
  induction ho with
  | run h => exact fun hs => run_sound hE hS (drawn_ok hE hS) _ h hs
  | @piece n ks ls H c hH h _ ih =>
    intro m hs
    have hg := runC_good hE hS (drawn_ok hE hS) n hs
    unfold pieceT at h
    cases hc : runC E n c with
    | go c1 =>
      rw [hc] at h hg
      obtain ⟨m', h1, h2⟩ := hg
      obtain ⟨c2, hm, h⟩ := opI (show opt (maskF H c1) none (fun c2 => some (endE E sgI ks (lpG ls) H c2)) = _ from h)
      have h := Option.some.inj h
      simp only [endE, headE, Prod.mk.injEq] at h
      obtain ⟨a1, a2, a3, a4⟩ := h
      have := end_sim (sgI_ok _) hF lpG_ok hH a4 a1 a2 a3 (lpG_cl ls) (maskF_sim hm h2)
      exact (ih this).of_steps h1
    | done v => rw [hc] at h; cases h
    | br l => rw [hc] at h; cases h
    | fail => rw [hc] at h; cases h
end
def Start2 [Fk] (E : Env) (vs : List AV) (h : Hp) (nx : Key) : Prop := ∃ c, enter E E.root vs false [] h nx = .go c ∧ Ok2 E c
def startT [Fk] (E : Env) (n : Nat) (ks ls : List Key) (H : Cfg) (vs : List AV) (h : Hp) (nx : Key) : Option Et :=
  match enter E E.root vs false [] h nx with
  | .go c => pieceT E n ks ls H c
  | _ => none
theorem start2 [Fk] {E : Env} {n : Nat} {ks ls : List Key} {H : Cfg} {vs : List AV} {h : Hp} {nx : Key} (hH : gcH ks H.hp = H.hp) (e : startT E n ks ls H vs h nx = some (headE (lpG ls) H)) (k : Ok2 E H) : Start2 E vs h nx := by
  unfold startT at e
  split at e
  · rename_i c hc; exact ⟨c, hc, .piece hH e k⟩
  · cases e
theorem calls2 [Val] [Fk] {E : Env} {P : Program} (hE : EnvOk E P) {W : World} (hS : ∀ cs, SumOk E P ⟨cs, W⟩) (hF : FkOk) {vs : List AV} {args : Array Value} {h : Hp} {nx : Key} {μ : Mu}
    (hv : VRs μ vs args.toList) (hr : HR W.heap.size μ h W) (hg : GR E μ) (hrun : Start2 E vs h nx) : Calls P E.root args W (fun e w' => e = .returned (.bool true) ∧ Ext W.heap.size W w') := by
  obtain ⟨c, h1, h2⟩ := hrun
  exact (callsD (a := .bool true) hE hv hr hg ⟨c, h1, fun cs m hs => ok2_sound hE (hS cs) hF h2 hs⟩).mono fun e w' ⟨v, e1, ⟨ν, e2⟩, e3⟩ => by
    simp only [VR] at e2
    subst e2
    exact ⟨e1, e3⟩
theorem ini_calls2 [Val] [Fk] {E : Env} {P : Program} (hF : FkOk) (hE : EnvOk E P) {gs : List Gv} {W : World} (hi : IniR gs W) (hb : bitsOk E.gm gs = true) (hS : ∀ cs, SumOk E P ⟨cs, W⟩) {vs : List AV} {args : Array Value} {nx : Key}
    {ivs : List (Key × Int × Int)} (hok : ivsOk gs ivs = true) (hiv : ∀ x ∈ ivs, x.2.1 ≤ Val.n x.1 ∧ Val.n x.1 ≤ x.2.2) (hv : ∀ μ, VRs μ vs args.toList) (hrun : Start2 E vs (initHv gs ivs) nx) :
    Calls P E.root args W (fun e w' => e = .returned (.bool true) ∧ Ext W.heap.size W w') :=
  calls2 hE hS hF (hv _) (ini_HRv hi (ini_HR hF hi _) hok hiv) (ini_GR hb) hrun
end
end Go.Ev
