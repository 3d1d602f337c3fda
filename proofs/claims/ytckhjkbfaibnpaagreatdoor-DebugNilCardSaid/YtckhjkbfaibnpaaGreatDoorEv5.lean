/- THE EVALUATOR, part 5 of 9: EvEff6 EvEff7 EvEff8 EvSteps EvCtl1 EvCtl2 EvCtl3 -/
import Derived.Test.YtckhjkbfaibnpaaGreatDoorEv4
import GoSem.Extern.Table
import Derived.KernelRfl
import Derived.Calls
import Derived.Listen
set_option linter.unusedVariables false
set_option linter.unusedSectionVars false
set_option linter.unusedSimpArgs false
namespace Go.Ev
set_option linter.unusedVariables false
set_option linter.unusedSectionVars false
set_option linter.unusedSimpArgs false

mutual
theorem aveq_eq : ∀ (a b : AV), aveq a b = true → a = b
  | .any, b, h => by cases b <;> first | rfl | cases h
  | .bool x, b, h => by
    cases b <;> first | (cases h; done) | skip
    rename_i y; cases x <;> cases y <;> first | rfl | cases h
  | .int k n, b, h => by
    cases b <;> first | (cases h; done) | skip
    rename_i l m
    have h : cnd (keq k l) (ieq n m) false = true := h
    rw [cnd_eq] at h
    split at h
    · rename_i hk
      rw [keq_true hk]
      rw [ieq_eq] at h
      rw [of_decide_eq_true h]
    · cases h
  | .str s, b, h => by
    cases b <;> first | (cases h; done) | skip
    rename_i t
    have h : leq s t = true := h
    rw [leq_eq] at h
    rw [of_decide_eq_true h]
  | .ptr0, b, h => by cases b <;> first | rfl | cases h
  | .ptr f g o, b, h => by
    cases b <;> first | (cases h; done) | skip
    rename_i f' g' o'
    have h : cnd (Key.beq f f') (cnd (Nat.beq g g') (Nat.beq o o') false) false = true := h
    simp only [cnd_eq] at h
    split at h
    · rename_i h1
      split at h
      · rename_i h2
        rw [Key.beq_eq h1, Nat.eq_of_beq_eq_true h2, Nat.eq_of_beq_eq_true h]
      · cases h
    · cases h
  | .slice0, b, h => by cases b <;> first | rfl | cases h
  | .slice f g o l c s x, b, h => by
    cases b <;> first | (cases h; done) | skip
    rename_i f' g' o' l' c' s' x'
    have h : cnd (Key.beq f f') (cnd (Nat.beq g g') (cnd (Nat.beq o o') (cnd (Nat.beq l l') (cnd (Nat.beq c c') (cnd (Nat.beq s s') (cnd x x' (bnot x')) false) false) false) false) false) false = true := h
    simp only [cnd_eq] at h
    split at h <;> first | (cases h; done) | skip
    rename_i h1
    split at h <;> first | (cases h; done) | skip
    rename_i h2
    split at h <;> first | (cases h; done) | skip
    rename_i h3
    split at h <;> first | (cases h; done) | skip
    rename_i h4
    split at h <;> first | (cases h; done) | skip
    rename_i h5
    split at h <;> first | (cases h; done) | skip
    rename_i h6
    rw [Key.beq_eq h1, Nat.eq_of_beq_eq_true h2, Nat.eq_of_beq_eq_true h3, Nat.eq_of_beq_eq_true h4, Nat.eq_of_beq_eq_true h5, Nat.eq_of_beq_eq_true h6]
    cases x <;> cases x' <;> first | rfl | simp [bnot_eq] at h
  | .map0, b, h => by cases b <;> first | rfl | cases h
  | .map a, b, h => by
    cases b <;> first | (cases h; done) | skip
    rename_i b
    rw [Key.beq_eq (show Key.beq a b = true from h)]
  | .nilFunc, b, h => by cases b <;> first | rfl | cases h
  | .func fn a c, b, h => by
    cases b <;> first | (cases fn <;> cases h; done) | skip
    all_goals first
      | (cases fn with
        | yield l => cases h
        | fn F => cases F <;> cases h; done)
      | skip
    rename_i fn' a' c'
    cases fn with
    | yield l => cases h
    | fn F =>
      cases F <;> first | (cases h; done) | skip
      rename_i f
      cases fn' with
      | yield l => cases h
      | fn F' =>
        cases F' <;> first | (cases h; done) | skip
        rename_i f'
        have h : cnd (Nat.beq f f') (cnd (aveqs a a') (aveqs c c') false) false = true := h
        simp only [cnd_eq] at h
        split at h <;> first | (cases h; done) | skip
        rename_i h1
        split at h <;> first | (cases h; done) | skip
        rename_i h2
        rw [Nat.eq_of_beq_eq_true h1, aveqs_eq _ _ h2, aveqs_eq _ _ h]
  | .iface t v, b, h => by
    cases b <;> first | (cases h; done) | skip
    rename_i u w
    have h : cnd (Nat.beq t u) (aveq v w) false = true := h
    simp only [cnd_eq] at h
    split at h <;> first | (cases h; done) | skip
    rename_i h1
    rw [Nat.eq_of_beq_eq_true h1, aveq_eq _ _ h]
  | .nilIface, b, h => by cases b <;> first | rfl | cases h
  | .agg a, b, h => by
    cases b <;> first | (cases h; done) | skip
    rename_i b
    rw [aveqs_eq a b h]
  | .tuple a, b, h => by
    cases b <;> first | (cases h; done) | skip
    rename_i b
    rw [aveqs_eq a b h]
  | .top, b, h => by cases h
  | .ub, b, h => by cases h
  | .rng _ _ _, b, h => by cases h
  | .md _ _, b, h => by cases h
  | .sl _ _, b, h => by cases h
theorem aveqs_eq : ∀ (a b : List AV), aveqs a b = true → a = b
  | [], b, h => by cases b <;> first | rfl | cases h
  | x :: a, b, h => by
    cases b with
    | nil => cases h
    | cons y b =>
      have h : cnd (aveq x y) (aveqs a b) false = true := h
      simp only [cnd_eq] at h
      split at h <;> first | (cases h; done) | skip
      rename_i h1
      rw [aveq_eq _ _ h1, aveqs_eq _ _ h]
end

theorem detC_bits {μ : Mu} {X : AV} {u v : Value} (n : Nat) (hd : detC X = true) (hu : VR μ X u) (hv : VR μ X v) : Instr.sameBits n u v = true := by
  cases X <;> first | (cases hd; done) | skip
  · simp only [VR] at hu hv; subst hu hv; simp [Instr.sameBits]
  · simp only [VR] at hu hv; subst hu hv; simp [Instr.sameBits]
  · simp only [VR] at hu hv
    obtain ⟨x, rfl, h1⟩ := hu
    obtain ⟨y, rfl, h2⟩ := hv
    have : x = y := by
      cases x; cases y
      simp only [ByteArray.mk.injEq]
      apply Array.toList_inj.1
      exact map_inj (h1.trans h2.symm)
    subst this
    simp only [Instr.sameBits]
    show (x.data == x.data) = true
    simp
  · simp only [VR] at hu hv; subst hu hv; simp [Instr.sameBits]
  · simp only [VR] at hu hv
    obtain ⟨b, s, m, h1, _, rfl⟩ := hu
    obtain ⟨b', s', m', h2, _, rfl⟩ := hv
    rw [h1] at h2
    cases h2
    simp [Instr.sameBits]

theorem keyBits_sound {μ : Mu} {X Y : AV} {u v : Value} (hk : keyBits X Y = true) (hu : VR μ X u) (hv : VR μ Y v) : Instr.sameBits 10000 v u = true := by
  replace hk : cnd (aveq X Y) (cnd (detC X) true (asAgg X false allDet)) false = true := hk
  simp only [cnd_eq] at hk
  split at hk <;> first | (cases hk; done) | skip
  rename_i h1
  have := aveq_eq _ _ h1
  subst this
  split at hk
  · rename_i h2; exact detC_bits _ h2 hv hu
  · rcases (by cases X <;> first | exact .inl ⟨_, rfl⟩ | exact .inr (fun l h => by cases h) : (∃ l, X = .agg l) ∨ ∀ l, X ≠ .agg l) with ⟨l, rfl⟩ | hn
    · have hk : allDet l = true := hk
      simp only [VR] at hu hv
      obtain ⟨us, rfl, hu⟩ := hu
      obtain ⟨vs, rfl, hv⟩ := hv
      have key : ∀ (l : List AV) (us vs : List Value), allDet l = true → VRs μ l us → VRs μ l vs → us.length = vs.length ∧ ((vs.zip us).all fun (x, y) => Instr.sameBits 9999 x y) = true := by
        intro l
        induction l with
        | nil => intro us vs _ h1 h2; rw [h1.nil_inv, h2.nil_inv]; simp
        | cons a l ih =>
          intro us vs hd h1 h2
          obtain ⟨u, us, rfl, h1, h1'⟩ := h1.cons_inv
          obtain ⟨v, vs, rfl, h2, h2'⟩ := h2.cons_inv
          have hd : cnd (detC a) (allDet l) false = true := hd
          simp only [cnd_eq] at hd
          split at hd <;> first | (cases hd; done) | skip
          rename_i hd1
          obtain ⟨e1, e2⟩ := ih us vs hd h1' h2'
          refine ⟨by simp [e1], ?_⟩
          simp only [List.zip_cons_cons, List.all_cons, Bool.and_eq_true]
          exact ⟨detC_bits 9999 hd1 h2 h1, e2⟩
      obtain ⟨e1, e2⟩ := key l us.toList vs.toList hk hu hv
      show (vs.size == us.size && _) = true
      simp only [Bool.and_eq_true, beq_iff_eq]
      exact ⟨by simpa using e1.symm, e2⟩
    · exfalso
      have : asAgg X false allDet = false := by cases X <;> first | rfl | exact absurd rfl (hn _)
      rw [this] at hk; cases hk

section
variable {μ : Mu}
theorem EnsR.append : ∀ {es fs : List En} {xs ys : List MapEntry}, EnsR μ es xs → EnsR μ fs ys → EnsR μ (es ++ fs) (xs ++ ys)
  | [], fs, xs, ys, h, k => by simp only [EnsR] at h; subst h; exact k
  | e :: es, fs, xs, ys, h, k => by
    simp only [EnsR] at h
    obtain ⟨x, r, rfl, h1, h2⟩ := h
    show EnsR μ (e :: (es ++ fs)) (x :: (r ++ ys))
    simp only [EnsR]
    exact ⟨x, _, rfl, h1, h2.append k⟩
theorem EnsR.one {e : En} {x : MapEntry} (h : EnR μ e x) : EnsR μ [e] [x] := by
  simp only [EnsR]; exact ⟨x, [], rfl, h, rfl⟩
theorem EnsR.set : ∀ {es : List En} {xs : List MapEntry} (i : Nat) {e : En} {x : MapEntry}, EnsR μ es xs → EnR μ e x → EnsR μ (es.set i e) (xs.set i x)
  | [], xs, i, e, x, h, k => by simp only [EnsR] at h; subst h; simp [EnsR]
  | a :: es, xs, 0, e, x, h, k => by
    simp only [EnsR] at h
    obtain ⟨y, r, rfl, h1, h2⟩ := h
    simp only [List.set_cons_zero, EnsR]; exact ⟨x, r, rfl, k, h2⟩
  | a :: es, xs, i + 1, e, x, h, k => by
    simp only [EnsR] at h
    obtain ⟨y, r, rfl, h1, h2⟩ := h
    simp only [List.set_cons_succ, EnsR]; exact ⟨y, _, rfl, h1, h2.set i k⟩
theorem EnsR.erase : ∀ {es : List En} {xs : List MapEntry} (i : Nat), EnsR μ es xs → EnsR μ (es.eraseIdx i) (xs.eraseIdx i)
  | [], xs, i, h => by simp only [EnsR] at h; subst h; simp [EnsR]
  | a :: es, xs, 0, h => by
    simp only [EnsR] at h
    obtain ⟨y, r, rfl, h1, h2⟩ := h
    simpa using h2
  | a :: es, xs, i + 1, h => by
    simp only [EnsR] at h
    obtain ⟨y, r, rfl, h1, h2⟩ := h
    simp only [List.eraseIdx_cons_succ, EnsR]; exact ⟨y, _, rfl, h1, h2.erase i⟩
end
end Go.Ev


namespace Go.Ev
set_option linter.unusedVariables false
set_option linter.unusedSectionVars false
set_option linter.unusedSimpArgs false

theorem lenA_sound {P : Program} {μ : Mu} {X : AV} {v : Value} {n : Nat} (hx : VR μ X v) (hl : lenA X = some n) : ∀ w', (Builtin.lenOf v).run P w' = .ok n w' := by
  intro w'
  unfold lenA at hl
  split at hl
  · cases hl; simp only [VR] at hx; obtain ⟨b, s, m, x, c, _, rfl, _⟩ := hx; simp [Builtin.lenOf]
  · cases hl; simp only [VR] at hx; subst hx; simp [Builtin.lenOf]
  · cases hl; simp only [VR] at hx; obtain ⟨b, rfl, hb⟩ := hx; simp only [Builtin.lenOf, Sem.run_pure]; congr 1; rw [← hb]; simp
  · cases hl

section
variable {E : Env} {P : Program} (hE : EnvOk E P) {B : Nat} {μ : Mu} {h : Hp} {w : World} (hH : HR B μ h w) {nx : Key} (hB : B ≤ w.heap.size)
  {L : Lo} {ρ : Operand → Value} {q : Operand → Opd} (hq : ∀ x, VR μ (getO (q x) L) (ρ x))
variable {d : Option Tmp} {ty : TypeId} {pos : String} {af : Array Edge} {gd : Option (Nat × Bool)} {a : AV} {h' : Hp} {nx' : Key}

include hE hH hq in
theorem e_copy {xs : Array Operand} {ats : Array TypeId} {st el : TypeId} {ts : List TypeId} {x y : Operand} {l : List Operand} {k : Nat} (hx : xs.toList = x :: y :: l) (ht : ats.toList = st :: ts)
    (hu : E.und st = some (.slice el)) (hsz : E.size el = some (k + 1)) (hev : xCopy (k + 1) (q x) (q y) h nx L = some (Tn.mk a h' nx')) :
    Turns P ρ B μ h w ⟨d, .call { callee := .builtin .copy, args := xs, argTypes := ats }, ty, pos, af, gd⟩ a h' := by
  have a0 : (xs.map ρ)[0]? = some (ρ x) := by rw [← Array.getElem?_toList]; simp [hx]
  have a1 : (xs.map ρ)[1]? = some (ρ y) := by rw [← Array.getElem?_toList]; simp [hx]
  have t0 : ats[0]? = some st := by rw [← Array.getElem?_toList]; simp [ht]
  obtain ⟨m, hm1, hev⟩ := opt_inv hev
  obtain ⟨n, hn1, hev⟩ := opt_inv hev
  obtain ⟨rows, hrows, hev⟩ := opt_inv hev
  obtain ⟨hlen, hnl, hnr, vs, hvs, hfc⟩ := firstRows_sound (P := P) hH (hq y) hn1 (Nat.min_le_left _ _) hrows
  have hvl : vs.length = Nat.min n m * (k + 1) := by rw [← hvs.length, flat_length rows hnr, hnl]
  have runs : ∀ {base : Option Addr} {c : Nat} {w' : World}, ρ x = .slice base m c → (match base with | some a => storeCells a vs | none => pure () : Sem Unit).run P w = .ok () w' →
      (execOp ρ ⟨d, .call { callee := .builtin .copy, args := xs, argTypes := ats }, ty, pos, af, gd⟩).run P w = .ok (.value (.int .i64 ((Nat.min n m : Nat) : Int))) w' := by
    intro base c w' hxx hst
    refine run_builtin (s := Builtin.copy_ ats ty (xs.map ρ)) rfl ?_
    rw [hxx] at a0
    unfold Builtin.copy_
    simp only [t0, a0, a1, Sem.run_bind, hE.runUnd hu, Result.andThen_ok, Sem.run_pure, hlen, hE.runSize hsz, hfc w rfl]
    cases base with
    | none => simp only [Sem.run_pure, Result.ok.injEq, true_and] at hst; subst hst; simp [goInt]
    | some ad => simp only [Sem.run_bind, hst, Result.andThen_ok, Sem.run_pure, goInt]
  have hxv := hq x
  by_cases hk0 : Nat.min n m = 0
  · have hb : Nat.beq (Nat.min n m) 0 = true := by rw [hk0]; rfl
    rw [hb] at hev
    cases hev
    have hv0 : vs = [] := List.length_eq_zero_iff.1 (by rw [hvl, hk0]; simp)
    have hsl : ∃ base c, ρ x = .slice base m c := by
      unfold lenS at hm1
      split at hm1
      · rename_i e; cases hm1; rw [e] at hxv; simp only [VR] at hxv; obtain ⟨b, s, q1, xo, c, _, hxv, _⟩ := hxv; exact ⟨_, _, hxv⟩
      · rename_i e; cases hm1; rw [e] at hxv; simp only [VR] at hxv; exact ⟨_, _, hxv⟩
      · cases hm1
    obtain ⟨base, c, hxx⟩ := hsl
    refine turns_val (runs (w' := w) hxx (by rw [hv0]; cases base <;> simp [storeCells])) ?_ (Mu.le_refl _) hH (Ext.refl _ _) (Kp.refl _ _)
    rw [hk0]; simp only [VR]; rfl
  · have hb : Nat.beq (Nat.min n m) 0 = false := Bool.eq_false_iff.2 fun hh => hk0 (Nat.eq_of_beq_eq_true hh)
    rw [hb] at hev
    simp only [cnd_false] at hev
    split at hev
    · rename_i f g o ln cp sz' ex e
      rw [e] at hxv hm1; simp only [VR] at hxv
      cases hm1
      obtain ⟨b, s, mm, xo, c, hm, hxv, v1, v2, v3, hpl⟩ := hxv
      replace hev := cnd_inv hev
      have hs' := Nat.eq_of_beq_eq_true hev.1
      subst hs'
      replace hev := asCells_some hev.2
      obtain ⟨ro, gen, zz, dp, ext, t, ho, hev⟩ := hev
      replace hev := cnd_inv' hev
      obtain ⟨hro, hev⟩ := hev
      subst hro
      replace hev := cnd_inv hev
      have hg := Nat.eq_of_beq_eq_true hev.1
      subst hg
      replace hev := cnd_inv hev.2
      have hzz := Nat.eq_of_beq_eq_true hev.1
      subst hzz
      replace hev := cnd_inv hev.2
      obtain ⟨hmod, hev⟩ := hev
      have hmod : o % (k + 1) = 0 := Nat.eq_of_beq_eq_true hmod
      obtain ⟨hsc, hev⟩ := cnd_inv hev
      obtain ⟨c', hov, hev⟩ := opt_inv hev
      cases hev
      have e1 : o / (k + 1) * (k + 1) + o % (k + 1) = o := Nat.div_add_mod' o (k + 1)
      obtain ⟨hwf, hgen, hblk⟩ := hH.cells ho
      obtain ⟨hBb, hs0, cs, ce, fz, hheap, hfz, hcsz, hrws⟩ := hblk g b s mm hm
      rcases hpl with ⟨p1, p2, p3⟩ | ⟨p1, p2⟩
      · have hrp : 0 < rows.length := by rw [hnl]; exact Nat.pos_of_ne_zero hk0
        obtain ⟨r1, r2⟩ := overRows_HR hH ho hm (start_le hs0 p1) hov hnr hrp (Nat.succ_pos k) hvs hheap
        have hpos : o / (k + 1) * (k + 1) - s = xo := by omega
        rw [hpos] at r1 r2
        subst p2
        refine turns_val (runs hxv (run_storeCells' vs 0 (o - s) cs w hheap hfz (by omega) (rowsScalar_of hsc hvs))) ?_ (Mu.le_refl _) r2 (Ext.put (hBb rfl)) (Kp.set rfl)
        simp only [VR]; rfl
      · exfalso
        apply hk0
        rw [p1]; exact Nat.min_zero n
    · cases hev

/-! ## maps -/
include hH in
theorem HR.mapTurn {f : Key} {es : List En} {clock : Nat} (ho : hget f h = .map es clock) {b s n : Nat} (hm : μ f 0 = some (b, s, n)) {es' : List En} {xs' : Array MapEntry} {clock' : Nat} (hR : EnsR μ es' xs'.toList) :
    HR B μ (hset f (.map es' clock') h) (World.put w b (.map xs' clock')) ∧ Ext B w (World.put w b (.map xs' clock')) := by
  have hO := hH.obj f
  rw [ho] at hO
  obtain ⟨h1, h2⟩ := hO
  obtain ⟨hb, _⟩ := h2 b s n hm
  refine ⟨hH.turn hm rfl ⟨h1, fun b1 s1 n1 hm1 => ?_⟩, Ext.put hb⟩
  rw [hm] at hm1
  simp only [Option.some.injEq, Prod.mk.injEq] at hm1
  obtain ⟨rfl, rfl, rfl⟩ := hm1
  exact ⟨hb, xs', put_get (hH.lt _ _ _ _ _ hm), hR⟩

theorem kTy_inv {t kt : TypeId} {el : TypeId} {X : AV} {es : List En} {r : Option (Nat × En)} (hu : E.und t = some (.map kt el)) (hf : findK E (kTy E t) X es = some r) : kTy E t = tyOf E 8 kt ∧ keyTy (tyOf E 8 kt) = true := by
  unfold kTy at hf ⊢
  rw [hu] at hf ⊢
  simp only at hf ⊢
  cases hk : keyTy (tyOf E 8 kt) with
  | true => exact ⟨rfl, rfl⟩
  | false =>
    rw [hk] at hf
    obtain ⟨h1, _⟩ := cnd_inv hf
    cases h1
theorem kTy_und {t : TypeId} {X : AV} {es : List En} {r : Option (Nat × En)} (hf : findK E (kTy E t) X es = some r) : ∃ kt el, E.und t = some (.map kt el) := by
  unfold kTy at hf
  split at hf
  · rename_i kt el hu; exact ⟨kt, el, hu⟩
  · obtain ⟨h1, _⟩ := cnd_inv hf; cases h1

include hE hH hq in
theorem e_mapUp {t : TypeId} {m k v : Operand} {ins : Bool} (hev : xMapUp E (kTy E t) (q m) (q k) (q v) h nx L = some (Tn.mk a h' nx')) :
    Turns P ρ B μ h w ⟨d, (if ins then .insert t m k v else .mapUpdate t m k v), ty, pos, af, gd⟩ a h' := by
  obtain ⟨f, hfm, hev⟩ : ∃ f, getO (q m) L = .map f ∧ _ := asMap_some hev
  obtain ⟨b, s, n, hm, hx⟩ := q_map hq hfm
  obtain ⟨es, clock, ho, hev⟩ := asMapO_some hev
  obtain ⟨r, hf, hev⟩ := opt_inv hev
  obtain ⟨kt, el, hu⟩ := kTy_und hf
  obtain ⟨hkt, hk⟩ := kTy_inv hu hf
  rw [hkt] at hf
  obtain ⟨hBb, xs, hxs, hR⟩ := hH.mapOb ho hm
  obtain ⟨r', g1, g2⟩ := findKey_sound hE hH (hq k) hR hf
  have g0 := checkK hE (w := w) false hk (hq k) hf
  have runs : ∀ {w' : World}, (Instr.mapUpdate t (ρ m) (ρ k) (ρ v)).run P w = .ok () w' → (execOp ρ ⟨d, (if ins then .insert t m k v else .mapUpdate t m k v), ty, pos, af, gd⟩).run P w = .ok .skip w' := by
    intro w' hr
    cases ins <;> exact run_unit hr
  cases r with
  | none =>
    cases hev
    simp only [FoundR] at g2; subst g2
    obtain ⟨z1, z2⟩ := hH.mapTurn ho hm (es' := es ++ [.mk (getO (q k) L) (getO (q v) L) clock]) (xs' := xs.push { key := ρ k, val := ρ v, born := clock }) (clock' := clock + 1) (by
      rw [Array.toList_push]; exact hR.append (.one ⟨hq k, hq v, rfl⟩))
    refine turns_skip (runs ?_) z1 z2 (Kp.set rfl)
    rw [hx]
    simp only [Instr.mapUpdate, Sem.run_bind, hE.runUnd hu, Result.andThen_ok, MapKept.run_getObj_map hxs, g0, g1, MapKept.run_setObj_map _ hxs]
    rfl
  | some p =>
    obtain ⟨i, e⟩ := p
    obtain ⟨hbits, hev⟩ := cnd_inv (show cnd _ _ none = some _ from hev)
    cases hev
    obtain ⟨y, _, g3, g4, g5, rfl⟩ := g2
    have hyi : xs[i]? = some y := by rw [← Array.getElem?_toList]; simpa using g4
    have hsb := keyBits_sound hbits (hq k) g5.1
    obtain ⟨z1, z2⟩ := hH.mapTurn ho hm (es' := es.set i (.mk (getO (q k) L) (getO (q v) L) e.b)) (xs' := xs.modify i fun e => { e with key := ρ k, val := ρ v }) (clock' := clock) (by
      have : (xs.modify i fun e => { e with key := ρ k, val := ρ v }).toList = xs.toList.set i { key := ρ k, val := ρ v, born := y.born } := by
        apply List.ext_getElem?
        intro j
        rw [Array.getElem?_toList, Array.getElem?_modify, List.getElem?_set]
        by_cases hj : i = j
        · subst hj
          obtain ⟨hlt, hye⟩ := Array.getElem?_eq_some_iff.1 hyi
          simp [hye, hlt]
        · simp [hj]
      rw [this]; exact hR.set i ⟨hq k, hq v, g5.2.2⟩)
    refine turns_skip (runs ?_) z1 z2 (Kp.set rfl)
    rw [hx]
    simp only [Instr.mapUpdate, Sem.run_bind, hE.runUnd hu, Result.andThen_ok, MapKept.run_getObj_map hxs, g0, g1, hyi, Option.map_some, Option.getD_some, Instr.keyThatStays, hsb, if_true, Sem.run_pure, MapKept.run_setObj_map _ hxs]
    rfl


include hE hH hq in
theorem e_mapEn {t kt el : TypeId} {m k : Operand} {z : AV} (hu : E.und t = some (.map kt el)) (hz : zeroA E el = some z) (hev : xMapEn E (kTy E t) z (q m) (q k) h nx L = some (Tn.mk a h' nx')) :
    Turns P ρ B μ h w ⟨d, .mapEntry t m k, ty, pos, af, gd⟩ a h' := by
  obtain ⟨f, hfm, hev⟩ : ∃ f, getO (q m) L = .map f ∧ _ := asMap_some hev
  obtain ⟨b, s, n, hm, hx⟩ := q_map hq hfm
  obtain ⟨es, clock, ho, hev⟩ := asMapO_some hev
  obtain ⟨r, hf, hev⟩ := opt_inv hev
  obtain ⟨hkt, hk⟩ := kTy_inv hu hf
  rw [hkt] at hf
  obtain ⟨hBb, xs, hxs, hR⟩ := hH.mapOb ho hm
  obtain ⟨r', g1, g2⟩ := findKey_sound hE hH (hq k) hR hf
  have g0 := checkK hE (w := w) false hk (hq k) hf
  obtain ⟨zv, hzv, rfl⟩ := hE.runZero hz w
  have runs : ∀ {v : Value} {w' : World}, (Instr.mapEntry t (ρ m) (ρ k)).run P w = .ok v w' → (execOp ρ ⟨d, .mapEntry t m k, ty, pos, af, gd⟩).run P w = .ok (.value v) w' := fun hr => run_val hr
  cases r with
  | none =>
    cases hev
    simp only [FoundR] at g2; subst g2
    obtain ⟨z1, z2⟩ := hH.mapTurn ho hm (es' := es ++ [.mk (getO (q k) L) (ofV zv) clock]) (xs' := xs.push { key := ρ k, val := zv, born := clock }) (clock' := clock + 1) (by
      rw [Array.toList_push]; exact hR.append (.one ⟨hq k, ofV_sound μ zv, rfl⟩))
    refine turns_val (v := .tuple #[zv, goInt clock]) (runs ?_) ?_ (Mu.le_refl _) z1 z2 (Kp.set rfl)
    · rw [hx]
      simp only [Instr.mapEntry, Sem.run_bind, hE.runUnd hu, Result.andThen_ok, MapKept.run_getObj_map hxs, g0, g1, hzv, MapKept.run_setObj_map _ hxs, Sem.run_pure]
      rfl
    · simp only [VR]; exact ⟨_, rfl, .cons (ofV_sound μ zv) (.cons (by simp only [VR]; rfl) .nil)⟩
  | some p =>
    obtain ⟨i, e⟩ := p
    obtain ⟨hbits, hev⟩ := cnd_inv (show cnd _ _ none = some _ from hev)
    cases hev
    obtain ⟨y, _, g3, g4, g5, rfl⟩ := g2
    have hyi : xs[i]? = some y := by rw [← Array.getElem?_toList]; simpa using g4
    have hsb := keyBits_sound hbits (hq k) g5.1
    obtain ⟨z1, z2⟩ := hH.mapTurn ho hm (es' := es.set i (.mk (getO (q k) L) e.v e.b)) (xs' := xs.modify i fun e => { e with key := ρ k }) (clock' := clock) (by
      have : (xs.modify i fun e => { e with key := ρ k }).toList = xs.toList.set i { key := ρ k, val := y.val, born := y.born } := by
        apply List.ext_getElem?
        intro j
        rw [Array.getElem?_toList, Array.getElem?_modify, List.getElem?_set]
        by_cases hj : i = j
        · subst hj
          obtain ⟨hlt, hye⟩ := Array.getElem?_eq_some_iff.1 hyi
          simp [hye, hlt]
        · simp [hj]
      rw [this]; exact hR.set i ⟨hq k, g5.2.1, g5.2.2⟩)
    refine turns_val (v := .tuple #[y.val, goInt y.born]) (runs ?_) ?_ (Mu.le_refl _) z1 z2 (Kp.set rfl)
    · rw [hx]
      simp only [Instr.mapEntry, Sem.run_bind, hE.runUnd hu, Result.andThen_ok, MapKept.run_getObj_map hxs, g0, g1, hyi, Option.map_some, Option.getD_some, Instr.keyThatStays, hsb, if_true, Sem.run_pure, MapKept.run_setObj_map _ hxs]
      rfl
    · simp only [VR]; exact ⟨_, rfl, .cons g5.2.1 (.cons (by simp only [VR, goInt]; rw [← g5.2.2]; rfl) .nil)⟩

theorem setE_sound {b : Nat} {X : AV} {v : Value} (hv : VR μ X v) : ∀ (es : List En) (xs : List MapEntry) (l : List En), EnsR μ es xs → setE b X es = some l →
    ∃ i x, xs.findIdx? (fun e => (e.born : Int) == (b : Int)) = some i ∧ xs[i]? = some x ∧ EnsR μ l (xs.set i { x with val := v })
  | [], xs, l, hes, hs => by cases hs
  | .mk x y c :: es, xs, l, hes, hs => by
    simp only [EnsR] at hes
    obtain ⟨e, r, rfl, h1, h2⟩ := hes
    unfold setE at hs
    rw [cnd_eq] at hs
    split at hs
    · rename_i hb
      cases hs
      have hb := Nat.eq_of_beq_eq_true hb
      have hborn : e.born = c := h1.2.2.symm
      refine ⟨0, e, ?_, rfl, ?_⟩
      · rw [List.findIdx?_cons, if_pos]; simp [hborn, hb]
      · simp only [List.set_cons_zero, EnsR]
        exact ⟨_, r, rfl, ⟨h1.1, hv, h1.2.2⟩, h2⟩
    · rename_i hb
      split at hs
      · rename_i l' hl
        cases hs
        obtain ⟨i, x', g1, g2, g3⟩ := setE_sound hv es r l' h2 hl
        have hborn : e.born = c := h1.2.2.symm
        refine ⟨i + 1, x', ?_, by simpa using g2, ?_⟩
        · rw [List.findIdx?_cons, if_neg, g1]
          · rfl
          · simp only [hborn, beq_iff_eq]
            intro hh
            have : b = c := by omega
            rw [this] at hb; simp at hb
        · simp only [List.set_cons_succ, EnsR]
          exact ⟨e, _, rfl, h1, g3⟩
      · cases hs

include hE hH hq in
theorem e_enStore {t : TypeId} {m s v : Operand} (hev : xEnStore (q m) (q s) (q v) h nx L = some (Tn.mk a h' nx')) : Turns P ρ B μ h w ⟨d, .entryStore t m s v, ty, pos, af, gd⟩ a h' := by
  obtain ⟨f, hfm, hev⟩ : ∃ f, getO (q m) L = .map f ∧ _ := asMap_some hev
  obtain ⟨b, st, n, hm, hx⟩ := q_map hq hfm
  obtain ⟨kk, i0, hs, hev⟩ := idx_q hq hev
  obtain ⟨es, clock, ho, hev⟩ := asMapO_some hev
  obtain ⟨l, hl, hev⟩ := opt_inv hev
  cases hev
  obtain ⟨hBb, xs, hxs, hR⟩ := hH.mapOb ho hm
  obtain ⟨i, y, g1, g2, g3⟩ := setE_sound (hq v) es xs.toList l hR hl
  have hyi : xs[i]? = some y := by rw [← Array.getElem?_toList]; exact g2
  obtain ⟨z1, z2⟩ := hH.mapTurn ho hm (es' := l) (xs' := xs.modify i fun e => { e with val := ρ v }) (clock' := clock) (by
    have : (xs.modify i fun e => { e with val := ρ v }).toList = xs.toList.set i { y with val := ρ v } := by
      apply List.ext_getElem?
      intro j
      rw [Array.getElem?_toList, Array.getElem?_modify, List.getElem?_set]
      by_cases hj : i = j
      · subst hj
        obtain ⟨hlt, hye⟩ := Array.getElem?_eq_some_iff.1 hyi
        simp [hye, hlt]
      · simp [hj]
    rw [this]; exact g3)
  refine turns_skip (run_unit (s := Instr.entryStore t (ρ m) (ρ s) (ρ v)) ?_) z1 z2 (Kp.set rfl)
  rw [hx, hs]
  have hfi : xs.findIdx? (fun e => (e.born : Int) == (i0 : Int)) = some i := by obtain ⟨xl⟩ := xs; rw [List.findIdx?_toArray]; exact g1
  simp only [Instr.entryStore, Sem.run_bind, Result.andThen_ok, MapKept.run_getObj_map hxs, Go.asInt, asIntOf, Sem.run_pure, hfi, MapKept.run_setObj_map _ hxs]
  rfl

include hE hH hq in
theorem e_del {t : TypeId} {mv kv : AV} {m k : Value} (hm' : VR μ mv m) (hk' : VR μ kv k) {xs : Array Value} {ats : Array TypeId} (a0 : xs[0]? = some m) (a1 : xs[1]? = some k) (t0 : ats[0]? = some t)
    (hev : delM E (kTy E t) mv kv h nx = some (Tn.mk a h' nx')) : a = undefA ∧ ∃ w', (Builtin.delete_ ats ty xs).run P w = .ok (.tuple #[]) w' ∧ HR B μ h' w' ∧ Ext B w w' ∧ Kp h μ h' μ := by
  unfold delM at hev
  split at hev
  · obtain ⟨r, hf, hev⟩ := opt_inv hev
    cases hev
    simp only [VR] at hm'
    obtain ⟨kt, el, hu⟩ := kTy_und hf
    obtain ⟨hkt, hk⟩ := kTy_inv hu hf
    rw [hkt] at hf
    have g0 := checkK hE (w := w) true hk hk' hf
    refine ⟨rfl, w, ?_, hH, Ext.refl _ _, Kp.refl _ _⟩
    subst hm'
    simp only [Builtin.delete_, t0, a0, a1, Sem.run_bind, hE.runUnd hu, Result.andThen_ok, g0, Sem.run_pure]
  · rename_i f
    simp only [VR] at hm'
    obtain ⟨b, s, n, hm, rfl⟩ := hm'
    obtain ⟨es, clock, ho, hev⟩ := asMapO_some hev
    obtain ⟨r, hf, hev⟩ := opt_inv hev
    obtain ⟨kt, el, hu⟩ := kTy_und hf
    obtain ⟨hkt, hk⟩ := kTy_inv hu hf
    rw [hkt] at hf
    obtain ⟨hBb, xs', hxs, hR⟩ := hH.mapOb ho hm
    obtain ⟨r', g1, g2⟩ := findKey_sound hE hH hk' hR hf
    have g0 := checkK hE (w := w) xs'.isEmpty hk hk' hf
    cases r with
    | none =>
      cases hev
      simp only [FoundR] at g2; subst g2
      obtain ⟨z1, z2⟩ := hH.mapTurn ho hm (es' := es) (xs' := xs') (clock' := clock) hR
      refine ⟨rfl, World.put w b (.map xs' clock), ?_, ?_, z2, Kp.refl _ _⟩
      · simp only [Builtin.delete_, t0, a0, a1, Sem.run_bind, hE.runUnd hu, Result.andThen_ok, MapKept.run_getObj_map hxs, g0, g1, MapKept.run_setObj_map _ hxs, Sem.run_pure]
        rfl
      · refine hH.world ?_
        obtain ⟨hlt, he⟩ := Array.getElem?_eq_some_iff.1 hxs
        show w.heap.setIfInBounds b (.map xs' clock) = w.heap
        apply Array.ext_getElem?
        intro j
        rw [Array.getElem?_setIfInBounds]
        by_cases hj : b = j
        · subst hj; simp [hlt, he]
        · simp [hj]
    | some p =>
      obtain ⟨i, e⟩ := p
      cases hev
      obtain ⟨y, _, g3, g4, g5, rfl⟩ := g2
      have hyi : xs'[i]? = some y := by rw [← Array.getElem?_toList]; simpa using g4
      obtain ⟨hlt, hye⟩ := Array.getElem?_eq_some_iff.1 hyi
      obtain ⟨z1, z2⟩ := hH.mapTurn ho hm (es' := es.eraseIdx i) (xs' := xs'.eraseIdxIfInBounds i) (clock' := clock) (by
        have : (xs'.eraseIdxIfInBounds i).toList = xs'.toList.eraseIdx i := by
          rw [Array.eraseIdxIfInBounds, dif_pos hlt, Array.toList_eraseIdx]
        rw [this]; exact hR.erase i)
      refine ⟨rfl, World.put w b (.map (xs'.eraseIdxIfInBounds i) clock), ?_, z1, z2, Kp.set rfl⟩
      simp only [Builtin.delete_, t0, a0, a1, Sem.run_bind, hE.runUnd hu, Result.andThen_ok, MapKept.run_getObj_map hxs, g0, g1, MapKept.run_setObj_map _ hxs, Sem.run_pure]
      rfl
  · cases hev


include hE hH hq in
theorem e_delete {xs : Array Operand} {ats : Array TypeId} {t : TypeId} {ts : List TypeId} {x y : Operand} {l : List Operand} (hx : xs.toList = x :: y :: l) (ht : ats.toList = t :: ts)
    (hev : xDel E (kTy E t) (q x) (q y) h nx L = some (Tn.mk a h' nx')) : Turns P ρ B μ h w ⟨d, .call { callee := .builtin .delete, args := xs, argTypes := ats }, ty, pos, af, gd⟩ a h' := by
  have a0 : (xs.map ρ)[0]? = some (ρ x) := by rw [← Array.getElem?_toList]; simp [hx]
  have a1 : (xs.map ρ)[1]? = some (ρ y) := by rw [← Array.getElem?_toList]; simp [hx]
  have t0 : ats[0]? = some t := by rw [← Array.getElem?_toList]; simp [ht]
  obtain ⟨rfl, w', r1, r2, r3, r4⟩ := e_del (P := P) (ty := ty) hE hH hq (hq x) (hq y) a0 a1 t0 hev
  refine turns_val (v := .tuple #[]) (run_builtin (s := Builtin.delete_ ats ty (xs.map ρ)) rfl ?_) vr_undef (Mu.le_refl _) r2 r3 r4
  have : (Builtin.delete_ ats ty (xs.map ρ)).run P w = .ok (.tuple #[]) w' := r1
  exact this

include hE hH hq in
theorem e_clearM {xs : Array Operand} {ats : Array TypeId} {t kt el : TypeId} {ts : List TypeId} {x : Operand} {l : List Operand} (hx : xs.toList = x :: l) (ht : ats.toList = t :: ts)
    (hu : E.und t = some (.map kt el)) (hev : xClearM (q x) h nx L = some (Tn.mk a h' nx')) : Turns P ρ B μ h w ⟨d, .call { callee := .builtin .clear, args := xs, argTypes := ats }, ty, pos, af, gd⟩ a h' := by
  have a0 : (xs.map ρ)[0]? = some (ρ x) := head_args hx
  have t0 : ats[0]? = some t := head_types ht
  have hxv := hq x
  unfold xClearM at hev
  split at hev
  · rename_i e
    rw [e] at hxv; simp only [VR] at hxv
    cases hev
    refine turns_val (v := .tuple #[]) (run_builtin (s := Builtin.clear_ ats ty (xs.map ρ)) rfl (w' := w) ?_) vr_undef (Mu.le_refl _) hH (Ext.refl _ _) (Kp.refl _ _)
    simp [Builtin.clear_, t0, a0, hE.runUnd hu, hxv]
  · rename_i f e
    rw [e] at hxv; simp only [VR] at hxv
    obtain ⟨b, s, n, hm, hxv⟩ := hxv
    obtain ⟨es, clock, ho, hev⟩ := asMapO_some hev
    cases hev
    obtain ⟨hBb, xs', hxs, hR⟩ := hH.mapOb ho hm
    obtain ⟨z1, z2⟩ := hH.mapTurn ho hm (es' := []) (xs' := #[]) (clock' := clock) (by simp [EnsR])
    refine turns_val (v := .tuple #[]) (run_builtin (s := Builtin.clear_ ats ty (xs.map ρ)) rfl (w' := World.put w b (.map #[] clock)) ?_) vr_undef (Mu.le_refl _) z1 z2 (Kp.set rfl)
    simp only [Builtin.clear_, t0, a0, Sem.run_bind, hE.runUnd hu, Result.andThen_ok, hxv, MapKept.run_getObj_map hxs, MapKept.run_setObj_map _ hxs, Sem.run_pure]
    rfl
  · cases hev

include hE hH hq in
theorem e_clearS {xs : Array Operand} {ats : Array TypeId} {t el : TypeId} {ts : List TypeId} {x : Operand} {l : List Operand} {z : AV} (hx : xs.toList = x :: l) (ht : ats.toList = t :: ts)
    (hu : E.und t = some (.slice el)) (hz : zeroA E el = some z) (hev : xClearS z.cells (q x) h nx L = some (Tn.mk a h' nx')) : Turns P ρ B μ h w ⟨d, .call { callee := .builtin .clear, args := xs, argTypes := ats }, ty, pos, af, gd⟩ a h' := by
  have a0 : (xs.map ρ)[0]? = some (ρ x) := head_args hx
  have t0 : ats[0]? = some t := head_types ht
  have hxv := hq x
  obtain ⟨zv, hzv, rfl⟩ := hE.runZero hz w
  unfold xClearS at hev
  split at hev
  · rename_i e
    rw [e] at hxv; simp only [VR] at hxv
    cases hev
    refine turns_val (v := .tuple #[]) (run_builtin (s := Builtin.clear_ ats ty (xs.map ρ)) rfl (w' := w) ?_) vr_undef (Mu.le_refl _) hH (Ext.refl _ _) (Kp.refl _ _)
    simp [Builtin.clear_, t0, a0, hE.runUnd hu, hxv]
  · rename_i f g o n cp sz ex e
    rw [e] at hxv; simp only [VR] at hxv
    obtain ⟨b, s, mm, xo, c, hm, hxv, v1, v2, v3, hpl⟩ := hxv
    by_cases hn0 : n = 0
    · subst hn0
      cases hev
      refine turns_val (v := .tuple #[]) (run_builtin (s := Builtin.clear_ ats ty (xs.map ρ)) rfl (w' := w) ?_) vr_undef (Mu.le_refl _) hH (Ext.refl _ _) (Kp.refl _ _)
      simp [Builtin.clear_, t0, a0, hE.runUnd hu, hxv]
    · have hb : Nat.beq n 0 = false := Bool.eq_false_iff.2 fun hh => hn0 (Nat.eq_of_beq_eq_true hh)
      rw [hb] at hev
      obtain ⟨hzl, hev⟩ := cnd_inv (show cnd _ _ none = some _ from hev)
      have hzl := Nat.eq_of_beq_eq_true hzl
      obtain ⟨h2, hst, hev⟩ := opt_inv hev
      cases hev
      have hzc := ofV_cells (μ := μ) zv
      have hzs : (ofV zv).cells.length = zv.cells.size := by have := hzc.length; simpa using this
      rcases hpl with ⟨p1, rfl, p3⟩ | ⟨p1, _⟩
      · unfold storeTo at hst
        have hz0 : n * (ofV zv).cells.length ≠ 0 ∨ n * (ofV zv).cells.length = 0 := by omega
        rcases hz0 with hz0 | hz0
        · have hvs := zeros_sound hzc n hz0
          have hnb : Nat.beq (repL (ofV zv).cells n).length 0 = false := Bool.eq_false_iff.2 fun hh => hz0 (by rw [← repL_length]; exact Nat.eq_of_beq_eq_true hh)
          rw [hnb] at hst
          obtain ⟨hsc, hst⟩ := cnd_inv (show cnd _ _ none = some _ from hst)
          obtain ⟨w', r1, r2, r3, r4⟩ := storeC_sound (P := P) hH hm p1 hst rfl (by rw [repL_length]; omega) hvs (allScalar_of hsc hvs)
          refine turns_val (v := .tuple #[]) (run_builtin (s := Builtin.clear_ ats ty (xs.map ρ)) rfl (w' := w') ?_) vr_undef (Mu.le_refl _) r2 r3 r4
          obtain ⟨k, rfl⟩ : ∃ k, n = k + 1 := ⟨n - 1, by omega⟩
          have e5 : (Builtin.zeroCells zv.cells (k + 1)).toList = ((Array.range ((k + 1) * (ofV zv).cells.length)).map (zv.cells[· % zv.cells.size]!)).toList := by rw [hzs]; rfl
          simp only [Builtin.clear_, t0, a0, Sem.run_bind, hE.runUnd hu, Result.andThen_ok, hxv, hzv, e5, r1, Sem.run_pure]
        · have hnb : Nat.beq (repL (ofV zv).cells n).length 0 = true := by rw [repL_length, hz0]; rfl
          rw [hnb] at hst
          cases hst
          refine turns_val (v := .tuple #[]) (run_builtin (s := Builtin.clear_ ats ty (xs.map ρ)) rfl (w' := w) ?_) vr_undef (Mu.le_refl _) hH (Ext.refl _ _) (Kp.refl _ _)
          obtain ⟨k, rfl⟩ : ∃ k, n = k + 1 := ⟨n - 1, by omega⟩
          have e5 : (Builtin.zeroCells zv.cells (k + 1)).toList = [] := by
            have : (Builtin.zeroCells zv.cells (k + 1)).size = 0 := by simp only [Builtin.zeroCells, Array.size_map, Array.size_range]; rw [← hzs]; exact hz0
            exact List.length_eq_zero_iff.1 (by simpa using this)
          simp only [Builtin.clear_, t0, a0, Sem.run_bind, hE.runUnd hu, Result.andThen_ok, hxv, hzv, e5, storeCells, Sem.run_pure]
      · omega
  · cases hev

end
end Go.Ev


namespace Go.Ev
set_option linter.unusedVariables false
set_option linter.unusedSectionVars false
set_option linter.unusedSimpArgs false

theorem clone_next : Extern.allNextRows.lookup "maps.clone" = none := by kernel_rfl
theorem clone_next0 : Extern.allNextRows.lookup "" = none := by kernel_rfl
theorem clone_typed : Extern.allTypedRows.lookup "maps.clone" = none := by kernel_rfl
theorem clone_gen : Extern.allGenericRows.lookup "maps.clone" = none := by kernel_rfl
theorem clone_is : Extern.allRows.lookup "maps.clone" = some Extern.MapsClone.clone := by kernel_rfl

section
variable {E : Env} {P : Program} (hE : EnvOk E P) {B : Nat} {μ : Mu} {h : Hp} {w : World} (hH : HR B μ h w) {nx : Key} (hB : B ≤ w.heap.size)
  {L : Lo} {ρ : Operand → Value} {q : Operand → Opd} (hq : ∀ x, VR μ (getO (q x) L) (ρ x)) (hF : ∀ f, ρ (.func f) = .func (.func f) #[] #[])
variable {d : Option Tmp} {ty : TypeId} {pos : String} {af : Array Edge} {gd : Option (Nat × Bool)} {a : AV} {h' : Hp} {nx' : Key}

include hE hF in
theorem run_extern_clone {f : Operand} {xs : Array Operand} {ats : Array TypeId} (hc : isClone E f = true) :
    ∀ w, (execOp ρ ⟨d, .call { callee := .value f, args := xs, argTypes := ats }, ty, pos, af, gd⟩).run P w = (do pure (Next.value (← Extern.MapsClone.clone (xs.map ρ))) : Sem Next).run P w := by
  intro w
  unfold isClone at hc
  split at hc
  · rename_i g
    split at hc
    · rename_i fn hfn
      simp only [Bool.and_eq_true, Option.isNone_iff_eq_none, decide_eq_true_eq, Bool.or_eq_true] at hc
      obtain ⟨⟨hb, hn⟩, ho⟩ := hc
      have hf := hE.fs _ _ hfn
      have h1 : Extern.findNext fn = none := by
        unfold Extern.findNext
        simp only [hn, clone_next, Option.map_none]
        rcases ho with ho | ho <;> simp [ho, clone_next, clone_next0]
      have h2 : Extern.find fn = some Extern.MapsClone.clone := by
        unfold Extern.find
        simp only [hn, clone_typed, clone_gen, clone_is, Option.map_none]
        rfl
      show (do let d ← resolve ρ { callee := .value (.func g), args := xs, argTypes := ats } ty; invoke d.target d.args).run P w = _
      have hr : resolve ρ { callee := .value (.func g), args := xs, argTypes := ats } ty = pure { target := .fn (.func g) #[], args := xs.map ρ } := by
        simp only [resolve, hF, Deferred.ofValue]
        simp
      rw [hr]
      simp only [Sem.run_bind, Sem.run_pure, Result.andThen_ok, invoke, callFunc, run_program, hf]
      have hnm : (fn.name == "runtime.NumGoroutine") = false := by rw [hn]; decide
      simp only [hnm, Bool.false_eq_true, if_false, hb, Option.isNone_none, if_true, Sem.run_bind, run_mark, Result.andThen_ok, h1, h2, Array.append_empty, Sem.run_pure]
    · cases hc
  · cases hc

include hE hH hB hq hF in
theorem e_clone {f : Operand} {xs : Array Operand} {ats : Array TypeId} {x : Operand} (hx : xs.toList = [x]) (hc : isClone E f = true) (hev : xClone (q x) h nx L = some (Tn.mk a h' nx')) :
    Turns P ρ B μ h w ⟨d, .call { callee := .value f, args := xs, argTypes := ats }, ty, pos, af, gd⟩ a h' := by
  obtain ⟨t, v, e1, hev⟩ := asIface_some hev
  obtain ⟨m, e2, hev⟩ := asMap_some hev
  obtain ⟨es, clock, ho, hev⟩ := asMapO_some hev
  obtain ⟨hfree, hev⟩ := fresh_inv hev
  cases hev
  obtain ⟨y, hxx, hv⟩ := q_iface hq e1
  rw [e2] at hv
  simp only [VR] at hv
  obtain ⟨b, s, n, hm, rfl⟩ := hv
  obtain ⟨hBb, xs', hxs, hR⟩ := hH.mapOb ho hm
  have hargs : xs.map ρ = #[.iface t (.map (some b))] := by
    have : xs = #[x] := by apply Array.toList_inj.1; rw [hx]
    subst this; simp [hxx]
  have hrun : (execOp ρ ⟨d, .call { callee := .value f, args := xs, argTypes := ats }, ty, pos, af, gd⟩).run P w = .ok (.value (.iface t (.map (some w.heap.size)))) (w.alloc (.map xs' clock)) := by
    rw [run_extern_clone hE hF hc, hargs]
    refine run_val ?_
    have e3 : Extern.MapsClone.clone #[.iface t (.map (some b))] = (do
        let .map entries clock ← getObj b | stuck "maps.clone: a map expected"
        pure (.iface t (.map (some (← newObj (.map entries clock))))) : Sem Value) := rfl
    rw [e3]
    simp only [Sem.run_bind, MapKept.run_getObj_map hxs, Result.andThen_ok, run_newObj_alloc, Sem.run_pure]
  have hno := hH.noneAt hfree
  obtain ⟨r1, r2⟩ := hH.alloc (gen := 0) (n := 0) hfree (w' := w.alloc (.map xs' clock)) rfl (ob := .map es clock) ⟨fun g hg => by rw [Mu.ins_other _ (.inr (by omega))]; exact hno g, fun b1 s1 n1 hm1 => by
    rcases Mu.ins_inv hm1 with ⟨_, _, e3⟩ | k1
    · cases e3
      exact ⟨hB, xs', heap_new, hR.mono (Mu.ins_le (hno 0) _)⟩
    · rw [hno 0] at k1; cases k1⟩
  refine turns_val hrun ?_ r2 r1 ⟨rfl, rfl, rfl, by show w.heap.size ≤ (w.heap.push _).size; simp, fun kk hkk => by show (w.heap.push _)[kk]? = _; rw [Array.getElem?_push, if_neg (by omega)]⟩ (Kp.new hfree)
  simp only [VR]
  exact ⟨_, rfl, _, _, _, Mu.ins_same _ _ _ _, rfl⟩

include hE hH hB hq hF in
/-- WHAT AN INSTRUCTION THAT TURNS MEMORY COMES TO IS WHAT ITS OPERATION COMES TO -/
theorem eff_sound {op : Op} (hev : (effI q E op).ev E h nx L = some (Tn.mk a h' nx')) : Turns P ρ B μ h w ⟨d, op, ty, pos, af, gd⟩ a h' := by
  unfold effI at hev
  split at hev
  · rename_i x
    obtain ⟨v, hv, hev⟩ := opt_inv (show opt (getO (q x) L).some none (fun v => some (Tn.mk v h nx)) = some (Tn.mk a h' nx') from hev)
    rw [AV.some_eq] at hv
    cases hv; cases hev
    exact turns_val (v := ρ x) rfl (hq x) (Mu.le_refl _) hH (Ext.refl _ _) (Kp.refl _ _)
  · split at hev
    · rename_i n hn; exact e_store hE hH hq hn hev
    · cases hev
  · exact e_mapUp hE hH hq (ins := false) hev
  · exact e_mapUp hE hH hq (ins := true) hev
  · split at hev
    · rename_i kt el hu
      split at hev
      · rename_i z hz; exact e_mapEn hE hH hq hu hz hev
      · cases hev
    · cases hev
  · exact e_enStore hE hH hq hev
  · rename_i c
    obtain ⟨callee, args, ats⟩ := c
    simp only at hev
    split at hev
    · rename_i st xt ts x y l h2 h3
      split at hev
      · cases hev
      · rename_i el dx hn hu hxt
        split at hev
        · rename_i n z hsz hz
          cases hb : Nat.beq z.cells.length (n + 1) && Nat.ble (bytesO E el) 1000000 with
          | false => rw [hb] at hev; cases hev
          | true =>
            rw [hb] at hev
            simp only [Bool.and_eq_true] at hb
            exact e_append hE hH hB hq h3 h2 hu hxt (fun kk hk => by subst hk; exact hn _ rfl) hsz hz hb.1 hb.2 hev
        · cases hev
      · cases hev
    · rename_i st ts x y l h2 h3
      split at hev
      · rename_i el hu
        split at hev
        · rename_i n hn; exact e_copy hE hH hq h3 h2 hu hn hev
        · cases hev
      · cases hev
    · rename_i t ts m k l h2 h3
      exact e_delete hE hH hq h3 h2 hev
    · rename_i t ts x l h2 h3
      split at hev
      · rename_i kt el hu; exact e_clearM hE hH hq h3 h2 hu hev
      · rename_i el hu
        split at hev
        · rename_i z hz; exact e_clearS hE hH hq h3 h2 hu hz hev
        · cases hev
      · cases hev
    · rename_i f x h3
      cases hc : isClone E f with
      | false => rw [hc] at hev; cases hev
      | true => rw [hc] at hev; exact e_clone hE hH hB hq hF h3 hc hev
    · cases hev
  · cases hev

end
end Go.Ev


namespace Go.Ev
set_option linter.unusedVariables false
set_option linter.unusedSectionVars false
set_option linter.unusedSimpArgs false

/-! ## steps of the machine, of frames of any kind -/
def Frame.to (fr : Frame) (k : List Item) : Frame := { fr with todo := k }
abbrev gor (fr : Frame) (cs : List Frame) : Goroutine := { frame := fr, callers := cs, status := .running, dying := none }

section
variable {P : Program} {fr : Frame} {cs : List Frame} {w : World} {k : List Item}

theorem s_skip (hm : fr.mode = .run) (ht : fr.todo = .code .skip :: k) : Go.step P (lone fr cs w) = Stepped.next (lone (Frame.to fr k) cs w) := by
  obtain ⟨fn, tmps, todo, ds, md, kd, rnd⟩ := fr; simp only at hm ht; subst hm ht
  exact step_lone_go (by simp [stepG, stepG.exec, Frame.to])
theorem s_label {l : Nat} (hm : fr.mode = .run) (ht : fr.todo = .code (.label l) :: k) : Go.step P (lone fr cs w) = Stepped.next (lone (Frame.to fr k) cs w) := by
  obtain ⟨fn, tmps, todo, ds, md, kd, rnd⟩ := fr; simp only at hm ht; subst hm ht
  exact step_lone_go (by simp [stepG, stepG.exec, Frame.to])
theorem s_inBlock {id : Nat} (hm : fr.mode = .run) (ht : fr.todo = .inBlock id :: k) : Go.step P (lone fr cs w) = Stepped.next (lone (Frame.to fr k) cs w) := by
  obtain ⟨fn, tmps, todo, ds, md, kd, rnd⟩ := fr; simp only at hm ht; subst hm ht
  exact step_lone_go (by simp [stepG, stepG.exec, Frame.to])
theorem s_inScope {c : Code} (hm : fr.mode = .run) (ht : fr.todo = .inScope c :: k) : Go.step P (lone fr cs w) = Stepped.next (lone (Frame.to fr k) cs w) := by
  obtain ⟨fn, tmps, todo, ds, md, kd, rnd⟩ := fr; simp only at hm ht; subst hm ht
  exact step_lone_go (by simp [stepG, stepG.exec, Frame.to])
theorem s_seq {x y : Code} (hm : fr.mode = .run) (ht : fr.todo = .code (.seq x y) :: k) : Go.step P (lone fr cs w) = Stepped.next (lone (Frame.to fr (.code x :: .code y :: k)) cs w) := by
  obtain ⟨fn, tmps, todo, ds, md, kd, rnd⟩ := fr; simp only at hm ht; subst hm ht
  exact step_lone_go (by simp [stepG, stepG.exec, Frame.to])
theorem s_cond {c : Operand} {x y : Code} {t : Bool} (hm : fr.mode = .run) (ht : fr.todo = .code (.cond c x y) :: k) (hc : fr.eval c = .bool t) :
    Go.step P (lone fr cs w) = Stepped.next (lone (Frame.to fr (.code (if t then x else y) :: k)) cs w) := by
  obtain ⟨fn, tmps, todo, ds, md, kd, rnd⟩ := fr; simp only at hm ht; subst hm ht
  exact step_lone_go (by simp [stepG, stepG.exec, Frame.to, hc])
theorem s_block {id : Nat} {c : Code} (hm : fr.mode = .run) (ht : fr.todo = .code (.block id c) :: k) : Go.step P (lone fr cs w) = Stepped.next (lone (Frame.to fr (.code c :: .inBlock id :: k)) cs w) := by
  obtain ⟨fn, tmps, todo, ds, md, kd, rnd⟩ := fr; simp only at hm ht; subst hm ht
  exact step_lone_go (by simp [stepG, stepG.exec, Frame.to])
theorem s_loop {c : Code} (hm : fr.mode = .run) (ht : fr.todo = .code (.loop c) :: k) : Go.step P (lone fr cs w) = Stepped.next (lone (Frame.to fr (.code c :: .inLoop c :: k)) cs w) := by
  obtain ⟨fn, tmps, todo, ds, md, kd, rnd⟩ := fr; simp only at hm ht; subst hm ht
  exact step_lone_go (by simp [stepG, stepG.exec, Frame.to])
theorem s_inLoop {c : Code} (hm : fr.mode = .run) (ht : fr.todo = .inLoop c :: k) : Go.step P (lone fr cs w) = Stepped.next (lone (Frame.to fr (.code c :: .inLoop c :: k)) cs w) := by
  obtain ⟨fn, tmps, todo, ds, md, kd, rnd⟩ := fr; simp only at hm ht; subst hm ht
  exact step_lone_go (by simp [stepG, stepG.exec, Frame.to])
theorem s_scope {c : Code} (hm : fr.mode = .run) (ht : fr.todo = .code (.scope c) :: k) : Go.step P (lone fr cs w) = Stepped.next (lone (Frame.to fr (.code c :: .inScope c :: k)) cs w) := by
  obtain ⟨fn, tmps, todo, ds, md, kd, rnd⟩ := fr; simp only at hm ht; subst hm ht
  exact step_lone_go (by simp [stepG, stepG.exec, Frame.to])
theorem s_exit {id : Nat} {k' : List Item} (hm : fr.mode = .run) (ht : fr.todo = .code (.exit id) :: k) (he : exitTo id k = some k') : Go.step P (lone fr cs w) = Stepped.next (lone (Frame.to fr k') cs w) := by
  obtain ⟨fn, tmps, todo, ds, md, kd, rnd⟩ := fr; simp only at hm ht; subst hm ht
  exact step_lone_go (by simp [stepG, stepG.exec, Frame.to, he])
theorem s_goto {l : Nat} {k' : List Item} (hm : fr.mode = .run) (ht : fr.todo = .code (.goto l) :: k) (he : gotoIn l k = some k') : Go.step P (lone fr cs w) = Stepped.next (lone (Frame.to fr k') cs w) := by
  obtain ⟨fn, tmps, todo, ds, md, kd, rnd⟩ := fr; simp only at hm ht; subst hm ht
  exact step_lone_go (by simp [stepG, stepG.exec, Frame.to, he])
theorem s_ret (hm : fr.mode = .run) (hr : fr.roundOf = none) (ht : fr.todo = [] ∨ fr.todo = .code .ret :: k) : Go.step P (lone fr cs w) = Stepped.next (lone { fr with mode := .returning } cs w) := by
  obtain ⟨fn, tmps, todo, ds, md, kd, rnd⟩ := fr; simp only at hm hr ht; subst hm hr
  rcases ht with ht | ht <;> subst ht <;> exact step_lone_go (by simp [stepG, stepG.exec])
theorem s_region {id : Nat} {ops : Array Oper} (hm : fr.mode = .run) (ht : fr.todo = .code (.region id ops false) :: k) :
    Go.step P (lone fr cs w) = Stepped.next (lone (Frame.to fr (.inRegion ops (List.range ops.size) :: k)) cs w) := by
  obtain ⟨fn, tmps, todo, ds, md, kd, rnd⟩ := fr; simp only at hm ht; subst hm ht
  exact step_lone_go (by simp [stepG, stepG.exec, Frame.to])
theorem s_regionDraw {id : Nat} {ops : Array Oper} (hm : fr.mode = .run) (ht : fr.todo = .code (.region id ops true) :: k) :
    ∃ t, Go.step P (lone fr cs w) = Stepped.next (lone (Frame.to fr (.inRegion ops (Region.schedule (P.follows .mixedOrders) ops t) :: k)) cs { w with drawn := w.drawn + 1 }) := by
  obtain ⟨fn, tmps, todo, ds, md, kd, rnd⟩ := fr; simp only at hm ht; subst hm ht
  exact ⟨w.tape w.drawn (.order fn id), step_lone_go (by simp [stepG, stepG.exec, choose, Sem.run, Question.forced, Question.cut, Frame.to])⟩
theorem s_regionEnd {ops : Array Oper} (hm : fr.mode = .run) (ht : fr.todo = .inRegion ops [] :: k) : Go.step P (lone fr cs w) = Stepped.next (lone (Frame.to fr k) cs w) := by
  obtain ⟨fn, tmps, todo, ds, md, kd, rnd⟩ := fr; simp only at hm ht; subst hm ht
  exact step_lone_go (by simp [stepG, stepG.exec, Frame.to])

variable {ops : Array Oper} {i : Nat} {is : List Nat} {o : Oper}
theorem s_opSkip (hm : fr.mode = .run) (ht : fr.todo = .inRegion ops (i :: is) :: k) (ho : ops[i]? = some o) (hw : Region.wanted o (yielded ops fr.tmps) = false) :
    Go.step P (lone fr cs w) = Stepped.next (lone (fr.finish undef) cs w) := by
  obtain ⟨fn, tmps, todo, ds, md, kd, rnd⟩ := fr; simp only at hm ht hw; subst hm ht
  exact step_lone_go (by simp [stepG, stepG.exec, ho, hw])
/-- an operation is done where it stands -/
theorem stepG_oper (hm : fr.mode = .run) (ht : fr.todo = .inRegion ops (i :: is) :: k) (ho : ops[i]? = some o) (hw : Region.wanted o (yielded ops fr.tmps) = true)
    (hd : fr.roundOf = none ∨ ∀ c, o.op ≠ .defer c) : stepG P true (gor fr cs) w = stepG.apply P true fr cs none (execOp fr.eval o) w := by
  obtain ⟨fn, tmps, todo, ds, md, kd, rnd⟩ := fr; simp only at hm ht hw hd; subst hm ht
  simp only [gor, stepG, stepG.exec, ho, Option.map_some, hw, Option.getD_some, if_true, stepG.oper, Frame.oper?]
  rcases hd with rfl | hd
  · rfl
  · cases rnd with
    | none => rfl
    | some l =>
      obtain ⟨dst, op, ty, pos, af, gd⟩ := o
      simp only at hd
      cases op <;> first | rfl | exact absurd rfl (hd _)
theorem stepG_operRound {l : Nat} {c : Call} (hm : fr.mode = .run) (ht : fr.todo = .inRegion ops (i :: is) :: k) (ho : ops[i]? = some o) (hw : Region.wanted o (yielded ops fr.tmps) = true)
    (hr : fr.roundOf = some l) (hop : o.op = .defer c) : stepG P true (gor fr cs) w = stepG.apply P true fr cs none (do Instr.deferInRound l (← resolve fr.eval c o.type); pure .skip) w := by
  obtain ⟨fn, tmps, todo, ds, md, kd, rnd⟩ := fr; simp only at hm ht hw hr; subst hm ht hr
  obtain ⟨dst, op, ty, pos, af, gd⟩ := o
  simp only at hop; subst hop
  simp only [gor, stepG, stepG.exec, ho, Option.map_some, hw, Option.getD_some, if_true, stepG.oper, Frame.oper?]

theorem apply_value {s : Sem Next} {v : Value} {w' : World} (hr : s.run P w = .ok (.value v) w') : (stepG.apply P true fr cs none s w).bare = .go (gor (fr.finish v) cs) w' := by
  simp [stepG.apply, Sem.runT_eq, hr]
theorem apply_skip {s : Sem Next} {w' : World} (hr : s.run P w = .ok .skip w') : (stepG.apply P true fr cs none s w).bare = .go (gor (fr.finish undef) cs) w' := by
  simp [stepG.apply, Sem.runT_eq, hr]
theorem apply_defer {s : Sem Next} {d : Deferred} {w' : World} (hr : s.run P w = .ok (.defer d) w') : (stepG.apply P true fr cs none s w).bare = .go (gor ({ fr with defers := d :: fr.defers }.finish undef) cs) w' := by
  simp [stepG.apply, Sem.runT_eq, hr]
theorem apply_panic {s : Sem Next} {v : Value} {w' : World} (hr : s.run P w = .halt (.panic v) w') : (stepG.apply P true fr cs none s w).bare = .go (gor (fr.raise [{ v, recovered := false }]) cs) w' := by
  simp [stepG.apply, Sem.runT_eq, hr]
/-- is no call waiting on top? -/
def plainTop (k : List Item) : Prop := ∀ d b r s k', k ≠ .call d b r s :: k'
theorem apply_enter {s : Sem Next} {f : FuncId} {args : Array Value} {w' : World} (hp : plainTop fr.todo) (hr : s.run P w = .ok (.enter f args) w') :
    (stepG.apply P true fr cs none s w).bare = .go (gor (Frame.enter P f args .normal) (fr :: cs)) w' := by
  obtain ⟨fn, tmps, todo, ds, md, kd, rnd⟩ := fr
  cases todo with
  | nil => simp [stepG.apply, Sem.runT_eq, hr]
  | cons x k => cases x <;> first | exact absurd rfl (hp _ _ _ _ _) | simp [stepG.apply, Sem.runT_eq, hr]
theorem apply_round {s : Sem Next} {l : Nat} {f : FuncId} {tmps : Array Value} {a b : Code} {w' : World} (hr : s.run P w = .ok (.round l f tmps a b) w') :
    (stepG.apply P true fr cs none s w).bare = .go (gor (Frame.round l f tmps a b .normal) (fr :: cs)) w' := by
  simp [stepG.apply, Sem.runT_eq, hr]
theorem apply_recover {s : Sem Next} {w' : World} (hn : fr.roundOf = none) (hr : s.run P w = .ok .recover w') :
    (stepG.apply P true fr cs none s w).bare = (match tryRecover fr cs with | some (v, cs') => .go (gor (fr.finish v) cs') w' | none => .go (gor (fr.finish .nilIface) cs) w') := by
  simp only [stepG.apply, Sem.runT_eq, hr, hn, GStep.bare_after, if_true]
  cases tryRecover fr cs with
  | none => rfl
  | some p => rfl
theorem next_of {g : Frame} {cs' : List Frame} {w' : World} (h : (stepG P true (gor fr cs) w).bare = .go (gor g cs') w') : Go.step P (lone fr cs w) = Stepped.next (lone g cs' w') := step_lone_go h

/-! rounds of a range over a function -/
theorem s_rangeFunc {f : Operand} {ps : Array Tmp} {a b : Code} {l : Nat} {mark : List Deferred} {w' : World} (hm : fr.mode = .run) (ht : fr.todo = .code (.rangeFunc f ps a b) :: k)
    (hr : (Instr.enterLoop fr.fn fr.tmps ps a b fr.roundOf).run P w = .ok (l, mark) w') :
    (stepG P true (gor fr cs) w).bare = (stepG.apply P true { fr with todo := .inRangeFunc l :: k, defers := mark ++ fr.defers } cs none
      (do let d ← resolve ({ fr with todo := .inRangeFunc l :: k, defers := mark ++ fr.defers } : Frame).eval { callee := .value f, args := #[.const (.func (.yield l) #[] #[])], argTypes := #[] } 0; invoke d.target d.args) w').bare := by
  obtain ⟨fn, tmps, todo, ds, md, kd, rnd⟩ := fr; simp only at hm ht hr; subst hm ht
  simp only [gor, stepG, stepG.exec, Sem.runT_eq, hr, GStep.bare_after]
theorem s_endRange {l : Nat} {jump : Option Code} {w' : World} (hm : fr.mode = .run) (ht : fr.todo = .endRangeFunc l :: k) (hr : (Instr.endLoop l).run P w = .ok jump w') :
    Go.step P (lone fr cs w) = Stepped.next (lone (Frame.to fr ((jump.map Item.code).toList ++ k)) cs w') := by
  obtain ⟨fn, tmps, todo, ds, md, kd, rnd⟩ := fr; simp only at hm ht; subst hm ht
  exact step_lone_go (by simp only [stepG, stepG.exec, Sem.runT_eq, hr, GStep.bare_after]; rfl)
theorem s_beginRound {l : Nat} {w' : World} (hm : fr.mode = .run) (hrd : fr.roundOf = some l) (ht : fr.todo = .beginRound :: k) (hr : (Instr.beginRound l).run P w = .ok () w') :
    Go.step P (lone fr cs w) = Stepped.next (lone (Frame.to fr k) cs w') := by
  obtain ⟨fn, tmps, todo, ds, md, kd, rnd⟩ := fr; simp only at hm ht hrd; subst hm ht hrd
  refine step_lone_go ?_
  have h1 : (do (some l).elim (stuck "beginRound: no round") Instr.beginRound; pure Next.skip : Sem Next).run P w = .ok .skip w' := by
    simp only [Option.elim_some, Sem.run_bind, hr, Result.andThen_ok, Sem.run_pure]
  have := apply_skip (P := P) (fr := { fn, tmps, todo := .beginRound :: k, defers := ds, mode := .run, kind := kd, roundOf := some l }) (cs := cs) h1
  simp only [stepG, stepG.exec]
  exact this
theorem s_leaveRound {l : Nat} {jump : Option Code} {v : Value} {w' : World} (hm : fr.mode = .run) (hrd : fr.roundOf = some l)
    (ht : (jump = none ∧ fr.todo = []) ∨ (jump = some .ret ∧ ∃ k, fr.todo = .code .ret :: k) ∨ (∃ id k, jump = some (.exit id) ∧ fr.todo = .code (.exit id) :: k ∧ exitTo id k = none) ∨
      (∃ l k, jump = some (.goto l) ∧ fr.todo = .code (.goto l) :: k ∧ gotoIn l k = none))
    (hr : (Instr.endRound l jump).run P w = .ok v w') : (stepG P true (gor fr cs) w).bare = (doReturn P true fr cs none v w').bare := by
  obtain ⟨fn, tmps, todo, ds, md, kd, rnd⟩ := fr; simp only at hm hrd ht; subst hm hrd
  rcases ht with ⟨rfl, rfl⟩ | ⟨rfl, k, rfl⟩ | ⟨id, k, rfl, rfl, he⟩ | ⟨l', k, rfl, rfl, he⟩
  · simp only [gor, stepG, stepG.exec, Sem.runT_eq, hr, GStep.bare_after]
  · simp only [gor, stepG, stepG.exec, Sem.runT_eq, hr, GStep.bare_after]
  · simp only [gor, stepG, stepG.exec, he, Option.elim_none, Sem.runT_eq, hr, GStep.bare_after]
  · simp only [gor, stepG, stepG.exec, he, Option.elim_none, Sem.runT_eq, hr, GStep.bare_after]

/-! the end of frames -/
theorem doReturn_normal {c : Frame} {v : Value} {w : World} (hk : fr.kind = .normal) : doReturn P true fr (c :: cs) none v w = .go (gor (c.finish v) cs) w := by
  simp [doReturn, hk]
theorem doReturn_caught {c : Frame} {v x : Value} {older : List PanicEntry} {w : World} {g : Bool} (hk : fr.kind = .deferred) (hc : c.mode = .panicking ({ v := x, recovered := true, goexit := g } :: older)) (ho : ∀ e ∈ older, e.goexit = false) :
    doReturn P true fr (c :: cs) none v w = .go (gor { c with mode := .returning } cs) w := by
  have hd : older.dropWhile (fun x => !x.goexit) = [] := by
    clear hc
    induction older with
    | nil => rfl
    | cons e l ih =>
      rw [List.dropWhile_cons, ho e (by simp)]
      exact ih (fun e he => ho e (by simp [he]))
  simp [doReturn, hk, hc, hd]
theorem doReturn_uncaught {c : Frame} {v : Value} {w : World} (hk : fr.kind = .deferred) (hc : ∀ x g older, c.mode ≠ .panicking ({ v := x, recovered := true, goexit := g } :: older)) :
    doReturn P true fr (c :: cs) none v w = .go (gor c cs) w := by
  obtain ⟨fn, tmps, todo, ds, md, kd, rnd⟩ := c
  simp only at hc
  cases md with
  | run => simp [doReturn, hk]
  | returning => simp [doReturn, hk]
  | panicking ch =>
    cases ch with
    | nil => simp [doReturn, hk]
    | cons e older =>
      obtain ⟨x, r, g⟩ := e
      cases r with
      | true => exact absurd rfl (hc _ _ _)
      | false => simp [doReturn, hk]
theorem u_results {fn : Func} {v : Value} (hm : fr.mode = .returning) (hd : fr.defers = []) (hf : P.funcs[fr.fn]? = some fn) (hr : (Go.results fn fr.tmps).run P w = .ok v w) :
    (stepG P true (gor fr cs) w).bare = (doReturn P true fr cs none v w).bare := by
  simp only [gor, stepG, hm, Go.unwind, hd, hf, Sem.runT_eq, hr, GStep.bare_after]
theorem u_raise {c : Frame} {chain : List PanicEntry} {fn : Func} (hm : fr.mode = .panicking chain) (hd : fr.defers = []) (hf : P.funcs[fr.fn]? = some fn) :
    Go.step P (lone fr (c :: cs) w) = Stepped.next (lone (c.raise chain) cs w) :=
  step_lone_go (by simp [stepG, Go.unwind, Frame.catches, hm, hd, hf])
theorem u_collected {r : Nat} {args : Array Value} {ds calls : List Deferred} {w' : World} (hm : fr.mode = .returning ∨ ∃ c, fr.mode = .panicking c) (hd : fr.defers = { target := .collected r, args := args } :: ds)
    (hr : (Instr.takeDeferred r).run P w = .ok calls w') : Go.step P (lone fr cs w) = Stepped.next (lone { fr with defers := calls ++ ds } cs w') := by
  refine step_lone_go ?_
  rcases hm with hm | ⟨c, hm⟩ <;> simp only [stepG, hm, Go.unwind, hd, Sem.runT_eq, hr, GStep.bare_after] <;> rfl
theorem u_defer {d : Deferred} {ds : List Deferred} (hm : fr.mode = .returning ∨ ∃ c, fr.mode = .panicking c) (hd : fr.defers = d :: ds) (hn : ∀ r, d.target ≠ .collected r) :
    stepG P true (gor fr cs) w = callDeferred P { fr with defers := ds } cs none d w := by
  have h1 : Go.unwind P true fr cs none w = callDeferred P { fr with defers := ds } cs none d w := by
    unfold Go.unwind
    rw [hd]
    obtain ⟨tg, args⟩ := d
    cases tg <;> first | rfl | exact absurd rfl (hn _)
  rcases hm with hm | ⟨c, hm⟩ <;> simp only [gor, stepG, hm, h1]
theorem callDeferred_enter {d : Deferred} {f : FuncId} {args : Array Value} {w' : World} (hn : d.target ≠ .nil) (hr : (invoke d.target d.args).run P w = .ok (.enter f args) w') :
    (callDeferred P fr cs none d w).bare = .go (gor (Frame.enter P f args .deferred) (fr :: cs)) w' := by
  have h1 : (d.target matches .nil) = false := by cases ht : d.target <;> first | rfl | exact absurd ht hn
  simp only [callDeferred, h1, Bool.false_and, Bool.false_eq_true, if_false, Sem.runT_eq, hr, GStep.bare_after]; rfl
theorem callDeferred_value {d : Deferred} {v : Value} {w' : World} (hn : d.target ≠ .nil) (hr : (invoke d.target d.args).run P w = .ok (.value v) w') :
    (callDeferred P fr cs none d w).bare = .go (gor fr cs) w' := by
  have h1 : (d.target matches .nil) = false := by cases ht : d.target <;> first | rfl | exact absurd ht hn
  simp only [callDeferred, h1, Bool.false_and, Bool.false_eq_true, if_false, Sem.runT_eq, hr, GStep.bare_after]; rfl

end
end Go.Ev


namespace Go.Ev
set_option linter.unusedVariables false
set_option linter.unusedSectionVars false
set_option linter.unusedSimpArgs false

noncomputable section
def evT (tmps : Array Value) : Operand → Value
  | .tmp t => tmps.getD t undef
  | .const v => v
  | .global g => .pointer (some ⟨g, 0, none⟩)
  | .func f => .func (.func f) #[] #[]
theorem eval_evT (fr : Frame) : fr.eval = evT fr.tmps := by funext x; cases x <;> rfl

theorem D.ofNat_inj {m n : Nat} (hm : m < 8) (hn : n < 8) (h : D.ofNat m = D.ofNat n) : m = n := by
  match m, n, hm, hn with
  | 0, 0, _, _ => rfl
  | 1, 1, _, _ => rfl
  | 2, 2, _, _ => rfl
  | 3, 3, _, _ => rfl
  | 4, 4, _, _ => rfl
  | 5, 5, _, _ => rfl
  | 6, 6, _, _ => rfl
  | 7, 7, _, _ => rfl
  | 0, 1, _, _ => cases h
  | 0, 2, _, _ => cases h
  | 0, 3, _, _ => cases h
  | 0, 4, _, _ => cases h
  | 0, 5, _, _ => cases h
  | 0, 6, _, _ => cases h
  | 0, 7, _, _ => cases h
  | 1, 0, _, _ => cases h
  | 1, 2, _, _ => cases h
  | 1, 3, _, _ => cases h
  | 1, 4, _, _ => cases h
  | 1, 5, _, _ => cases h
  | 1, 6, _, _ => cases h
  | 1, 7, _, _ => cases h
  | 2, 0, _, _ => cases h
  | 2, 1, _, _ => cases h
  | 2, 3, _, _ => cases h
  | 2, 4, _, _ => cases h
  | 2, 5, _, _ => cases h
  | 2, 6, _, _ => cases h
  | 2, 7, _, _ => cases h
  | 3, 0, _, _ => cases h
  | 3, 1, _, _ => cases h
  | 3, 2, _, _ => cases h
  | 3, 4, _, _ => cases h
  | 3, 5, _, _ => cases h
  | 3, 6, _, _ => cases h
  | 3, 7, _, _ => cases h
  | 4, 0, _, _ => cases h
  | 4, 1, _, _ => cases h
  | 4, 2, _, _ => cases h
  | 4, 3, _, _ => cases h
  | 4, 5, _, _ => cases h
  | 4, 6, _, _ => cases h
  | 4, 7, _, _ => cases h
  | 5, 0, _, _ => cases h
  | 5, 1, _, _ => cases h
  | 5, 2, _, _ => cases h
  | 5, 3, _, _ => cases h
  | 5, 4, _, _ => cases h
  | 5, 6, _, _ => cases h
  | 5, 7, _, _ => cases h
  | 6, 0, _, _ => cases h
  | 6, 1, _, _ => cases h
  | 6, 2, _, _ => cases h
  | 6, 3, _, _ => cases h
  | 6, 4, _, _ => cases h
  | 6, 5, _, _ => cases h
  | 6, 7, _, _ => cases h
  | 7, 0, _, _ => cases h
  | 7, 1, _, _ => cases h
  | 7, 2, _, _ => cases h
  | 7, 3, _, _ => cases h
  | 7, 4, _, _ => cases h
  | 7, 5, _, _ => cases h
  | 7, 6, _, _ => cases h
theorem digits_inj {t u : Nat} (ht : t < 512) (hu : u < 512)
    (h : D.ofNat (t / 64 % 8) = D.ofNat (u / 64 % 8) ∧ D.ofNat (t / 8 % 8) = D.ofNat (u / 8 % 8) ∧ D.ofNat (t % 8) = D.ofNat (u % 8)) : t = u := by
  obtain ⟨h1, h2, h3⟩ := h
  have h1 := D.ofNat_inj (Nat.mod_lt _ (by omega)) (Nat.mod_lt _ (by omega)) h1
  have h2 := D.ofNat_inj (Nat.mod_lt _ (by omega)) (Nat.mod_lt _ (by omega)) h2
  have h3 := D.ofNat_inj (Nat.mod_lt _ (by omega)) (Nat.mod_lt _ (by omega)) h3
  omega
theorem getT_setT (t : Nat) (v : AV) (tm : Tm) : getT t (setT t v tm) = v := tget_tset _ _ _ _ _
theorem getT_setT_ne {t u : Nat} (ht : t < 512) (hu : u < 512) (h : t ≠ u) (v : AV) (tm : Tm) : getT u (setT t v tm) = getT u tm :=
  tget_tset_ne (fun hh => h (digits_inj ht hu hh)) _ _

theorem put_s (t : Nat) (v : AV) (L : Lo) : put (slot t .s) v L = .mk (setT t v L.tm) v (getO .w0 L) (getO .w1 L) := by cases L; rfl
theorem put_o (t : Nat) (v : AV) (L : Lo) : put (slot t .o) v L = .mk (setT t v L.tm) (getO .w0 L) (getO .w1 L) (getO .w2 L) := by cases L; rfl
theorem put_w (v : AV) (L : Lo) : put .w v L = .mk L.tm v (getO .w0 L) (getO .w1 L) := by cases L; rfl
theorem put_no (v : AV) (L : Lo) : put .no v L = L := by cases L; rfl
theorem tm_mk (tm : Tm) (a b c : AV) : (Lo.mk tm a b c).tm = tm := rfl
theorem getO_t (a b c : D) (L : Lo) : getO (.t a b c) L = tget a b c L.tm := by cases L; rfl
theorem getO_c (v : AV) (L : Lo) : getO (.c v) L = v := by cases L; rfl

theorem inNd_lt {nd t : Nat} (h : inNd nd t = true) : t < 512 := by
  unfold inNd at h
  cases hb : Nat.blt t 512 with
  | true => exact Nat.le_of_ble_eq_true hb
  | false => rw [hb] at h; cases h

def CleOk (nd : Nat) : Cle → Prop
  | .mk _ dep x => ∀ a b c, x = .t a b c → ∃ d, dep = some d ∧ inNd nd d = true ∧ slot d Opd.t = .t a b c
def ClOk (nd : Nat) (cl : Cl) : Prop := ∀ e, e ∈ cl → CleOk nd e
def ClR (μ : Mu) (cl : Cl) (L : Lo) (tmps : Array Value) : Prop := ∀ u d x, Cle.mk u d x ∈ cl → VR μ (getO x L) (tmps.getD u undef)
/-- what is known of a frame -/
structure KnR (nd : Nat) (μ : Mu) (cl : Cl) (L : Lo) (tmps : Array Value) : Prop where
  need : NeedR nd NoX μ L.tm tmps
  cok : ClOk nd cl
  cr : ClR μ cl L tmps

theorem KnR.mono {nd : Nat} {μ ν : Mu} (h : μ.le ν) {cl : Cl} {L : Lo} {tmps : Array Value} (k : KnR nd μ cl L tmps) : KnR nd ν cl L tmps :=
  ⟨k.need.mono h, k.cok, fun u d x hm => VR.mono h _ _ (k.cr u d x hm)⟩
theorem KnR.forget {nd : Nat} {μ : Mu} {cl : Cl} {L : Lo} {tmps : Array Value} (k : KnR nd μ cl L tmps) : KnR nd μ [] L tmps :=
  ⟨k.need, (fun e he => by cases he), fun u d x hm => by cases hm⟩

theorem clGet_mem : ∀ {cl : Cl} {t : Nat} {e : Cle}, clGet t cl = some e → e ∈ cl ∧ ∃ d x, e = .mk t d x
  | [], t, e, h => by cases h
  | .mk u d x :: l, t, e, h => by
    unfold clGet at h
    cases hb : Nat.beq t u with
    | true =>
      rw [hb] at h
      have := Nat.eq_of_beq_eq_true hb; subst this
      cases h
      exact ⟨by simp, d, x, rfl⟩
    | false =>
      rw [hb] at h
      obtain ⟨h1, h2⟩ := clGet_mem (cl := l) (t := t) (e := e) h
      exact ⟨by simp [h1], h2⟩

section
variable {E : Env} {μ : Mu} (hG : GR E μ) {nd : Nat} {cl : Cl} {L : Lo} {tmps : Array Value}

theorem slotX_getO {t : Nat} (L : Lo) : getO (slotX nd t) L = if inNd nd t = true then getT t L.tm else .top := by
  unfold slotX
  cases inNd nd t with
  | true => simp only [cond_true, if_true]; exact getO_t _ _ _ _
  | false => simp only [cond_false, Bool.false_eq_true, if_false]; exact getO_c _ _

include hG in
/-- what an operand's place holds says what the operand is, where X is left out -/
theorem need_q {X : Nat → Prop} (hk : NeedR nd X μ L.tm tmps) (hX : ∀ t, X t → False) (hc : ClR μ cl L tmps) : ∀ x, VR μ (getO (opdW nd (gl E) cl x) L) (evT tmps x)
  | .tmp t => by
    show VR μ (getO (match clGet t cl with | some (.mk _ _ x) => x | none => slotX nd t) L) (tmps.getD t undef)
    cases hg : clGet t cl with
    | none =>
      simp only
      rw [slotX_getO]
      split
      · rename_i h; exact hk t h (fun hx => hX t hx)
      · simp only [VR]
    | some e =>
      obtain ⟨h1, d, x, rfl⟩ := clGet_mem hg
      exact hc t d x h1
  | .const v => by
    show VR μ (getO (.c (ofV v)) L) v
    rw [getO_c]; exact ofV_sound μ v
  | .global g => by
    show VR μ (getO (bif inM (gl E) g then .c (.ptr (Key.ofNat g) 0 0) else .c .top) L) (.pointer (some ⟨g, 0, none⟩))
    cases hg : inM (gl E) g with
    | true =>
      simp only [cond_true]
      rw [getO_c]
      obtain ⟨n, hn⟩ := hG g hg
      simp only [VR]
      exact ⟨g, 0, n, hn, Nat.le_refl _, rfl⟩
    | false => simp only [cond_false]; rw [getO_c]; simp only [VR]
  | .func f => by
    show VR μ (getO (.c (.func (.fn (.func f)) [] [])) L) (.func (.func f) #[] #[])
    rw [getO_c]; simp only [VR]; exact ⟨_, _, _, rfl, rfl, .nil, .nil⟩
include hG in
theorem KnR.q (hk : KnR nd μ cl L tmps) : ∀ x, VR μ (getO (opdW nd (gl E) cl x) L) (evT tmps x) := need_q hG hk.need (fun _ h => h) hk.cr

theorem mem_kill {t : Nat} : ∀ {cl : Cl} {u : Nat} {d : Option Nat} {x : Opd}, Cle.mk u d x ∈ kill t cl → Cle.mk u d x ∈ cl ∧ u ≠ t ∧ d ≠ some t
  | [], u, d, x, h => by cases h
  | .mk u0 d0 x0 :: l, u, d, x, h => by
    unfold kill at h
    cases hb : Nat.beq t u0 || depN t d0 with
    | true =>
      rw [hb] at h
      obtain ⟨h1, h2⟩ := mem_kill (t := t) (cl := l) (show Cle.mk u d x ∈ kill t l from h)
      exact ⟨List.mem_cons_of_mem _ h1, h2⟩
    | false =>
      rw [hb] at h
      rcases List.mem_cons.1 (show Cle.mk u d x ∈ Cle.mk u0 d0 x0 :: kill t l from h) with h1 | h1
      · cases h1
        simp only [Bool.or_eq_false_iff] at hb
        refine ⟨by simp, fun hh => by subst hh; simp at hb, fun hh => ?_⟩
        subst hh
        simp [depN] at hb
      · obtain ⟨h1, h2⟩ := mem_kill (t := t) (cl := l) h1
        exact ⟨List.mem_cons_of_mem _ h1, h2⟩
theorem mem_shift : ∀ {cl : Cl} {u : Nat} {d : Option Nat} {y : Opd}, Cle.mk u d y ∈ shiftL cl → ∃ x, Cle.mk u d x ∈ cl ∧ shiftO x = some y
  | [], u, d, y, h => by cases h
  | .mk u0 d0 x0 :: l, u, d, y, h => by
    unfold shiftL at h
    split at h
    · rename_i y0 hy
      rcases List.mem_cons.1 h with h1 | h1
      · cases h1; exact ⟨x0, by simp, hy⟩
      · obtain ⟨x, h2, h3⟩ := mem_shift h1; exact ⟨x, List.mem_cons_of_mem _ h2, h3⟩
    · obtain ⟨x, h2, h3⟩ := mem_shift h; exact ⟨x, List.mem_cons_of_mem _ h2, h3⟩

theorem getD_set {tmps : Array Value} {t u : Nat} {v : Value} (ht : t < tmps.size) : (tmps.setIfInBounds t v).getD u undef = if t = u then v else tmps.getD u undef := by
  simp only [Array.getD_eq_getD_getElem?, Array.getElem?_setIfInBounds]
  split
  · rename_i h; subst h; simp [ht]
  · rfl

/-- a value that is put down -/
theorem KnR.put (hk : KnR nd μ cl L tmps) {t n : Nat} {a : AV} {v : Value} (hok : okD n (some t) = true) (hn : n ≤ tmps.size) (hv : VR μ a v) :
    KnR nd μ (pushCl (some t) cl) (put (dstN nd (some t)) a L) (tmps.setIfInBounds t v) := by
  have hok' : t < n ∧ t < 512 := by
    simp only [okD, Bool.and_eq_true] at hok
    exact ⟨Nat.le_of_ble_eq_true hok.1, Nat.le_of_ble_eq_true hok.2⟩
  obtain ⟨htn, ht⟩ := hok'
  have hts : t < tmps.size := by omega
  have hcok : ClOk nd (pushCl (some t) cl) := by
    intro e he
    rcases List.mem_cons.1 (show e ∈ Cle.mk t none .w0 :: shiftL (kill t cl) from he) with h1 | h1
    · subst h1; intro a b c hh; cases hh
    · obtain ⟨u, d, y⟩ := e
      obtain ⟨x, h2, h3⟩ := mem_shift h1
      obtain ⟨h4, _, _⟩ := mem_kill h2
      have := hk.cok _ h4
      intro a b c hh
      subst hh
      have hx : x = .t a b c := by cases x <;> simp [shiftO] at h3 <;> simp [h3]
      exact this a b c hx
  -- the tree and the last values
  have key : ∀ tm', (∀ u, inNd nd u = true → VR μ (getT u tm') ((tmps.setIfInBounds t v).getD u undef)) → (∀ u, u < 512 → u ≠ t → getT u tm' = getT u L.tm) →
      KnR nd μ (pushCl (some t) cl) (.mk tm' a (getO .w0 L) (getO .w1 L)) (tmps.setIfInBounds t v) := by
    intro tm' h1 h2
    refine ⟨fun u hu _ => h1 u hu, hcok, fun u d y hm => ?_⟩
    rcases List.mem_cons.1 (show Cle.mk u d y ∈ Cle.mk t none .w0 :: shiftL (kill t cl) from hm) with h3 | h3
    · cases h3
      rw [getD_set hts, if_pos rfl]; exact hv
    · obtain ⟨x, h4, h5⟩ := mem_shift h3
      obtain ⟨h6, h7, h8⟩ := mem_kill h4
      rw [getD_set hts, if_neg (Ne.symm h7)]
      have h9 := hk.cr u d x h6
      cases x with
      | w0 => cases h5; exact h9
      | w1 => cases h5; exact h9
      | w2 => cases h5
      | c av => cases h5; rw [getO_c] at h9 ⊢; exact h9
      | t p q r =>
        cases h5
        obtain ⟨d', e1, e2, e3⟩ := hk.cok _ h6 p q r rfl
        rw [getO_t] at h9 ⊢
        have e4 : tget p q r tm' = getT d' tm' := by
          have : slot d' Opd.t = .t (D.ofNat (d' / 64 % 8)) (D.ofNat (d' / 8 % 8)) (D.ofNat (d' % 8)) := rfl
          rw [this] at e3; cases e3; rfl
        have e5 : tget p q r L.tm = getT d' L.tm := by
          have : slot d' Opd.t = .t (D.ofNat (d' / 64 % 8)) (D.ofNat (d' / 8 % 8)) (D.ofNat (d' % 8)) := rfl
          rw [this] at e3; cases e3; rfl
        rw [tm_mk, e4, h2 d' (inNd_lt e2) (fun hh => h8 (by rw [e1, hh])), ← e5]
        exact h9
  show KnR nd μ (pushCl (some t) cl) (Go.Ev.put (bif inNd nd t then slot t .s else .w) a L) (tmps.setIfInBounds t v)
  cases hnd : inNd nd t with
  | true =>
    simp only [hnd, cond_true]
    rw [put_s]
    refine key _ (fun u hu => ?_) (fun u hu hne => getT_setT_ne ht hu (Ne.symm hne) _ _)
    rw [getD_set hts]
    by_cases htu : t = u
    · subst htu; rw [if_pos rfl, getT_setT]; exact hv
    · rw [if_neg htu, getT_setT_ne ht (inNd_lt hu) htu]; exact hk.need u hu (fun h => h)
  | false =>
    simp only [hnd, cond_false]
    rw [put_w]
    refine key _ (fun u hu => ?_) (fun _ _ _ => rfl)
    have htu : t ≠ u := fun hh => by subst hh; rw [hnd] at hu; cases hu
    rw [getD_set hts, if_neg htu]; exact hk.need u hu (fun h => h)

theorem KnR.putNone (hk : KnR nd μ cl L tmps) (a : AV) : KnR nd μ (pushCl none cl) (Go.Ev.put (dstN nd none) a L) tmps := by
  rw [show dstN nd none = .no from rfl, put_no]; exact hk

include hG in
/-- a slot that is another's likeness -/
theorem KnR.alias (hk : KnR nd μ cl L tmps) {t n : Nat} {x : Operand} (hok : okD n (some t) = true) (hn : n ≤ tmps.size) :
    KnR nd μ (aliasCl nd t x cl) (bif inNd nd t then Go.Ev.put (slot t .o) (getO (opdW nd (gl E) cl x) L) L else L) (tmps.setIfInBounds t (evT tmps x)) := by
  have hok' : t < n ∧ t < 512 := by
    simp only [okD, Bool.and_eq_true] at hok
    exact ⟨Nat.le_of_ble_eq_true hok.1, Nat.le_of_ble_eq_true hok.2⟩
  obtain ⟨htn, ht⟩ := hok'
  have hts : t < tmps.size := by omega
  have hq := hk.q hG x
  -- the frame behind it
  have hL : ∃ tm', (bif inNd nd t then Go.Ev.put (slot t .o) (getO (opdW nd (gl E) cl x) L) L else L) = .mk tm' (getO .w0 L) (getO .w1 L) (getO .w2 L) ∧
      (∀ u, inNd nd u = true → VR μ (getT u tm') ((tmps.setIfInBounds t (evT tmps x)).getD u undef)) ∧ (∀ u, u < 512 → u ≠ t → getT u tm' = getT u L.tm) := by
    cases hnd : inNd nd t with
    | true =>
      refine ⟨setT t (getO (opdW nd (gl E) cl x) L) L.tm, by simp only [cond_true]; rw [put_o], fun u hu => ?_, fun u hu hne => getT_setT_ne ht hu (Ne.symm hne) _ _⟩
      rw [getD_set hts]
      by_cases htu : t = u
      · subst htu; rw [if_pos rfl, getT_setT]; exact hq
      · rw [if_neg htu, getT_setT_ne ht (inNd_lt hu) htu]; exact hk.need u hu (fun h => h)
    | false =>
      refine ⟨L.tm, by simp only [cond_false]; cases L; rfl, fun u hu => ?_, fun _ _ _ => rfl⟩
      have htu : t ≠ u := fun hh => by subst hh; rw [hnd] at hu; cases hu
      rw [getD_set hts, if_neg htu]; exact hk.need u hu (fun h => h)
  obtain ⟨tm', e0, h1, h2⟩ := hL
  rw [e0]
  -- an old place still holds what it held, but for slot t
  have old : ∀ d y, (∀ a b c, y = .t a b c → ∃ d', d = some d' ∧ inNd nd d' = true ∧ slot d' Opd.t = .t a b c) → d ≠ some t → getO y (.mk tm' (getO .w0 L) (getO .w1 L) (getO .w2 L)) = getO y L := by
    intro d y hc hd
    cases y with
    | w0 => rfl
    | w1 => rfl
    | w2 => rfl
    | c av => rw [getO_c, getO_c]
    | t p q r =>
      obtain ⟨d', e1, e2, e3⟩ := hc p q r rfl
      have hs : slot d' Opd.t = .t (D.ofNat (d' / 64 % 8)) (D.ofNat (d' / 8 % 8)) (D.ofNat (d' % 8)) := rfl
      rw [hs] at e3; cases e3
      rw [getO_t, getO_t]
      exact h2 d' (inNd_lt e2) (fun hh => hd (by rw [e1, hh]))
  -- entries that stay
  have stay : ∀ u d y, Cle.mk u d y ∈ kill t cl → CleOk nd (.mk u d y) ∧ VR μ (getO y (.mk tm' (getO .w0 L) (getO .w1 L) (getO .w2 L))) ((tmps.setIfInBounds t (evT tmps x)).getD u undef) := by
    intro u d y hm
    obtain ⟨h6, h7, h8⟩ := mem_kill hm
    refine ⟨hk.cok _ h6, ?_⟩
    rw [old d y (hk.cok _ h6) h8, getD_set hts, if_neg (Ne.symm h7)]
    exact hk.cr u d y h6
  have fin : ∀ (new : List Cle), (∀ e ∈ new, ∃ d y, e = .mk t d y ∧ CleOk nd e ∧ VR μ (getO y (.mk tm' (getO .w0 L) (getO .w1 L) (getO .w2 L))) (evT tmps x)) →
      KnR nd μ (new ++ kill t cl) (.mk tm' (getO .w0 L) (getO .w1 L) (getO .w2 L)) (tmps.setIfInBounds t (evT tmps x)) := by
    intro new hnew
    refine ⟨fun u hu _ => h1 u hu, fun e he => ?_, fun u d y hm => ?_⟩
    · rcases List.mem_append.1 he with h3 | h3
      · obtain ⟨d, y, rfl, h4, _⟩ := hnew e h3; exact h4
      · obtain ⟨u, d, y⟩ := e; exact (stay u d y h3).1
    · rcases List.mem_append.1 hm with h3 | h3
      · obtain ⟨d', y', e3, _, h5⟩ := hnew _ h3
        cases e3
        rw [getD_set hts, if_pos rfl]; exact h5
      · exact (stay u d y h3).2
  cases x with
  | tmp v =>
    show KnR nd μ (match clGet v cl with | some (.mk _ d y) => bif depN t d then kill t cl else .mk t d y :: kill t cl | none => bif Nat.beq t v then cl else bif inNd nd v then .mk t (some v) (slotX nd v) :: kill t cl else kill t cl) _ _
    cases hg : clGet v cl with
    | none =>
      simp only
      cases htv : Nat.beq t v with
      | true =>
        have := Nat.eq_of_beq_eq_true htv; subst this
        simp only [cond_true]
        -- nothing is turned
        have hsame : tmps.setIfInBounds t (evT tmps (.tmp t)) = tmps := by
          apply Array.ext_getElem?
          intro j
          rw [Array.getElem?_setIfInBounds]
          by_cases hj : t = j
          · subst hj; simp [hts, evT, Array.getD_eq_getD_getElem?]
          · simp [hj]
        rw [hsame] at h1 ⊢
        refine ⟨fun u hu _ => h1 u hu, hk.cok, fun u d y hm => ?_⟩
        have h9 := hk.cr u d y hm
        cases y with
        | w0 => exact h9
        | w1 => exact h9
        | w2 => exact h9
        | c av => rw [getO_c] at h9 ⊢; exact h9
        | t p q r =>
          obtain ⟨d', e1, e2, e3⟩ := hk.cok _ hm p q r rfl
          have hs : slot d' Opd.t = .t (D.ofNat (d' / 64 % 8)) (D.ofNat (d' / 8 % 8)) (D.ofNat (d' % 8)) := rfl
          rw [hs] at e3; cases e3
          rw [getO_t] at h9 ⊢
          by_cases hdt : d' = t
          · subst hdt
            -- the slot holds what it held
            show VR μ (getT d' tm') _
            have e5 : getT d' tm' = getT d' L.tm := by
              have e6 : (bif inNd nd d' then Go.Ev.put (slot d' .o) (getO (opdW nd (gl E) cl (.tmp d')) L) L else L) = .mk (setT d' (getO (opdW nd (gl E) cl (.tmp d')) L) L.tm) (getO .w0 L) (getO .w1 L) (getO .w2 L) := by rw [e2]; simp only [cond_true]; rw [put_o]
              rw [e6] at e0
              cases e0
              rw [getT_setT]
              show getO (match clGet d' cl with | some (.mk _ _ x) => x | none => slotX nd d') L = _
              rw [hg]
              simp only
              rw [slotX_getO, if_pos e2]
            rw [e5]; exact h9
          · have := h2 d' (inNd_lt e2) hdt
            show VR μ (getT d' tm') _
            rw [this]; exact h9
      | false =>
        simp only [cond_false]
        have htv' : t ≠ v := fun hh => by subst hh; simp at htv
        cases hnv : inNd nd v with
        | false => simp only [cond_false]; exact fin [] (by simp)
        | true =>
          simp only [cond_true]
          refine fin [.mk t (some v) (slotX nd v)] (fun e he => ?_)
          simp only [List.mem_singleton] at he
          subst he
          have hsx : slotX nd v = slot v Opd.t := by unfold slotX; rw [hnv]; rfl
          refine ⟨_, _, rfl, fun a b c hh => ⟨v, rfl, hnv, by rw [← hh, hsx]⟩, ?_⟩
          rw [old (some v) (slotX nd v) (fun a b c hh => ⟨v, rfl, hnv, by rw [← hh, hsx]⟩) (fun hh => htv' (Option.some.inj hh).symm), slotX_getO, if_pos hnv]
          exact hk.need v hnv (fun h => h)
    | some e =>
      obtain ⟨h3, d, y, rfl⟩ := clGet_mem hg
      simp only
      cases hd : depN t d with
      | true => simp only [cond_true]; exact fin [] (by simp)
      | false =>
        simp only [cond_false]
        refine fin [.mk t d y] (fun e he => ?_)
        simp only [List.mem_singleton] at he
        subst he
        refine ⟨_, _, rfl, (fun a b c hh => hk.cok _ h3 a b c hh), ?_⟩
        rw [old d y (hk.cok _ h3) (fun hh => by subst hh; simp [depN] at hd)]
        exact hk.cr v d y h3
  | const v =>
    refine fin [.mk t none (.c (ofV v))] (fun e he => ?_)
    simp only [List.mem_singleton] at he
    subst he
    exact ⟨_, _, rfl, (fun a b c hh => by cases hh), by rw [getO_c]; exact ofV_sound μ v⟩
  | global g => exact fin [] (by simp)
  | func f =>
    refine fin [.mk t none (.c (.func (.fn (.func f)) [] []))] (fun e he => ?_)
    simp only [List.mem_singleton] at he
    subst he
    exact ⟨_, _, rfl, (fun a b c hh => by cases hh), by rw [getO_c]; simp only [VR]; exact ⟨_, _, _, rfl, rfl, .nil, .nil⟩⟩

end
end
end Go.Ev


namespace Go.Ev
set_option linter.unusedVariables false
set_option linter.unusedSectionVars false
set_option linter.unusedSimpArgs false
noncomputable section

theorem ciAppend_eq (l k : List Ci) : ciAppend l k = l ++ k := by induction l with | nil => rfl | cons a l ih => show a :: ciAppend l k = _; rw [ih]; rfl

/-- a loop's or a block's place -/
def AtR (μ : Mu) (l : Key) (b : Nat) : Prop := ∃ s n, μ l 0 = some (b, s, n)

/-- what is left to do, against the machine's own list; cl: what is known of the frame when it goes on -/
inductive TodoR (E : Env) (x : Cx) (μ : Mu) : Cl → List Ci → List Item → Prop where
  | nil (cl) : TodoR E x μ cl [] []
  | forget {cl l k} : TodoR E x μ [] l k → TodoR E x μ cl l k
  | code {cl c l k} : TodoR E x μ (aft x.nd cl c) l k → TodoR E x μ cl (compC E x cl c ++ l) (.code c :: k)
  | inBlock {cl id l k} : TodoR E x μ [] l k → TodoR E x μ cl (.inBlock id :: l) (.inBlock id :: k)
  | inLoop {cl b l k} : TodoR E x μ [] l k → TodoR E x μ cl (.inLoop (compC E x [] b) :: l) (.inLoop b :: k)
  | inScope {cl c l k} : TodoR E x μ [] l k → TodoR E x μ cl (.inScope c :: l) (.inScope c :: k)
  | mid {cl arr i n l k} : i + n = arr.size → TodoR E x μ (aftOs x.nd cl (arr.toList.drop i)) l k → TodoR E x μ cl (.mid (compOs E arr x cl (arr.toList.drop i)) :: l) (.inRegion arr (List.range' i n) :: k)
  | endRF {cl l b rest k} : AtR μ l b → TodoR E x μ [] rest k → TodoR E x μ cl (.endRF l :: rest) (.endRangeFunc b :: k)
  | beginRound {cl l k} : TodoR E x μ [] l k → TodoR E x μ cl (.beginRound :: l) (.beginRound :: k)

theorem AtR.mono {μ ν : Mu} (h : μ.le ν) {l : Key} {b : Nat} : AtR μ l b → AtR ν l b := fun ⟨s, n, k⟩ => ⟨s, n, h _ _ _ k⟩
theorem TodoR.mono {E : Env} {x : Cx} {μ ν : Mu} (h : μ.le ν) {cl : Cl} {l : List Ci} {k : List Item} (t : TodoR E x μ cl l k) : TodoR E x ν cl l k := by
  induction t with
  | nil cl => exact .nil cl
  | forget _ ih => exact .forget ih
  | code _ ih => exact .code ih
  | inBlock _ ih => exact .inBlock ih
  | inLoop _ ih => exact .inLoop ih
  | inScope _ ih => exact .inScope ih
  | mid h1 _ ih => exact .mid h1 ih
  | endRF h1 _ ih => exact .endRF (h1.mono h) ih
  | beginRound _ ih => exact .beginRound ih

/-! jumps -/
theorem exitA_comp (E : Env) (x : Cx) (id : Nat) : ∀ (c : Code) (cl : Cl) (l : List Ci), exitA id (compC E x cl c ++ l) = exitA id l := by
  intro c
  induction c with
  | skip => intro cl l; rfl
  | region _ _ _ => intro cl l; rfl
  | seq a b iha ihb => intro cl l; simp only [compC, List.append_assoc]; rw [iha, ihb]
  | cond _ _ _ _ _ => intro cl l; rfl
  | block _ _ _ => intro cl l; rfl
  | loop _ _ => intro cl l; rfl
  | rangeFunc _ _ _ _ _ _ => intro cl l; rfl
  | exit _ => intro cl l; rfl
  | scope _ _ => intro cl l; rfl
  | label _ => intro cl l; rfl
  | goto _ => intro cl l; rfl
  | ret => intro cl l; rfl
  | refuse _ => intro cl l; rfl
theorem gotoA_comp (E : Env) (x y : Cx) (t : Nat) : ∀ (c : Code) (cl : Cl) (l : List Ci), gotoA E y t (compC E x cl c ++ l) = gotoA E y t l := by
  intro c
  induction c with
  | skip => intro cl l; rfl
  | region _ _ _ => intro cl l; rfl
  | seq a b iha ihb => intro cl l; simp only [compC, List.append_assoc]; rw [iha, ihb]
  | cond _ _ _ _ _ => intro cl l; rfl
  | block _ _ _ => intro cl l; rfl
  | loop _ _ => intro cl l; rfl
  | rangeFunc _ _ _ _ _ _ => intro cl l; rfl
  | exit _ => intro cl l; rfl
  | scope _ _ => intro cl l; rfl
  | label _ => intro cl l; rfl
  | goto _ => intro cl l; rfl
  | ret => intro cl l; rfl
  | refuse _ => intro cl l; rfl

section
variable {E : Env} {x : Cx} {μ : Mu}
theorem TodoR.exit {id : Nat} {cl : Cl} {l : List Ci} {k : List Item} (t : TodoR E x μ cl l k) :
    match exitA id l with
    | some l' => ∃ k', exitTo id k = some k' ∧ TodoR E x μ [] l' k'
    | none => exitTo id k = none := by
  induction t with
  | nil cl => rfl
  | forget _ ih => exact ih
  | @code cl c l k t ih => rw [exitA_comp]; exact ih
  | @inBlock cl id' l k t ih =>
    simp only [exitA]
    cases hb : Nat.beq id' id with
    | true =>
      have := Nat.eq_of_beq_eq_true hb; subst this
      simp only [cond_true, exitTo, beq_self_eq_true, if_true]
      exact ⟨k, rfl, t⟩
    | false =>
      have hne : id' ≠ id := fun hh => by subst hh; simp at hb
      simp only [cond_false, exitTo, beq_iff_eq, hne, if_false]
      exact ih
  | inLoop _ ih => exact ih
  | inScope _ ih => exact ih
  | mid _ _ ih => exact ih
  | endRF _ _ ih => exact ih
  | beginRound _ ih => exact ih
theorem TodoR.goto {t : Nat} {cl : Cl} {l : List Ci} {k : List Item} (h : TodoR E x μ cl l k) :
    match gotoA E x t l with
    | some l' => ∃ k', gotoIn t k = some k' ∧ TodoR E x μ [] l' k'
    | none => gotoIn t k = none := by
  induction h with
  | nil cl => rfl
  | forget _ ih => exact ih
  | @code cl c l k _ ih => rw [gotoA_comp]; exact ih
  | inBlock _ ih => exact ih
  | inLoop _ ih => exact ih
  | @inScope cl c l k h ih =>
    simp only [gotoA, gotoIn]
    cases hf : findLabel c t with
    | some rest =>
      simp only
      refine ⟨_, rfl, ?_⟩
      rw [ciAppend_eq]
      exact .code (.forget (.inScope h))
    | none => simp only; exact ih
  | mid _ _ ih => exact ih
  | endRF _ _ ih => exact ih
  | beginRound _ ih => exact ih

/-! the head of what is left to do -/
inductive HeadR (E : Env) (x : Cx) (μ : Mu) : Cl → List Ci → List Item → Prop where
  | nil (cl) : HeadR E x μ cl [] []
  | reg {cl id ops dr l k} : TodoR E x μ (aft x.nd cl (.region id ops dr)) l k → HeadR E x μ cl (.reg (regIns E ops dr x cl) :: l) (.code (.region id ops dr) :: k)
  | cond {cl y a b l k} : TodoR E x μ [] l k → HeadR E x μ cl (.cond (opdW x.nd (gl E) cl y) (compC E x cl a) (compC E x cl b) :: l) (.code (.cond y a b) :: k)
  | block {cl id b l k} : TodoR E x μ [] l k → HeadR E x μ cl (.block id (compC E x cl b) :: l) (.code (.block id b) :: k)
  | inBlock {cl id l k} : TodoR E x μ [] l k → HeadR E x μ cl (.inBlock id :: l) (.inBlock id :: k)
  | loop {cl b l k} : TodoR E x μ [] l k → HeadR E x μ cl (.loop (compC E x [] b) :: l) (.code (.loop b) :: k)
  | inLoop {cl b l k} : TodoR E x μ [] l k → HeadR E x μ cl (.inLoop (compC E x [] b) :: l) (.inLoop b :: k)
  | scope {cl c l k} : TodoR E x μ [] l k → HeadR E x μ cl (.scope c :: l) (.code (.scope c) :: k)
  | inScope {cl c l k} : TodoR E x μ [] l k → HeadR E x μ cl (.inScope c :: l) (.inScope c :: k)
  | exit {cl id l k} : TodoR E x μ [] l k → HeadR E x μ cl (.exit id :: l) (.code (.exit id) :: k)
  | goto {cl t l k} : TodoR E x μ [] l k → HeadR E x μ cl (.goto t :: l) (.code (.goto t) :: k)
  | ret {cl l k} : TodoR E x μ [] l k → HeadR E x μ cl (.ret :: l) (.code .ret :: k)
  | rangeF {cl f ps a b l k} : TodoR E x μ [] l k → HeadR E x μ cl (.rangeF (opdW x.nd (gl E) cl f) ps.toList a b :: l) (.code (.rangeFunc f ps a b) :: k)
  | refuse {cl l k} : HeadR E x μ cl (.bad :: l) k
  | mid {cl arr i n l k} : i + n = arr.size → TodoR E x μ (aftOs x.nd cl (arr.toList.drop i)) l k → HeadR E x μ cl (.mid (compOs E arr x cl (arr.toList.drop i)) :: l) (.inRegion arr (List.range' i n) :: k)
  | endRF {cl l b rest k} : AtR μ l b → TodoR E x μ [] rest k → HeadR E x μ cl (.endRF l :: rest) (.endRangeFunc b :: k)
  | beginRound {cl l k} : TodoR E x μ [] l k → HeadR E x μ cl (.beginRound :: l) (.beginRound :: k)

def csize : Code → Nat
  | .seq a b => csize a + csize b + 1
  | _ => 1
def isize : List Item → Nat
  | [] => 0
  | .code c :: k => csize c + isize k
  | _ :: k => isize k

/-- the machine goes on till what stands ahead is what the evaluator has ahead -/
theorem TodoR.head {P : Program} : ∀ (n : Nat) {cl : Cl} {l : List Ci} {k : List Item}, isize k ≤ n → TodoR E x μ cl l k → ∃ cl' k', (cl' = cl ∨ cl' = []) ∧ HeadR E x μ cl' l k' ∧
    ∀ (fr : Frame) (cs : List Frame) (w : World), fr.mode = .run → fr.todo = k → Steps P (lone fr cs w) (lone (Frame.to fr k') cs w) := by
  intro n
  induction n using Nat.strongRecOn with
  | ind n ihn =>
    intro cl l k hk t
    have same : ∀ {cl' : Cl} {k : List Item}, (cl' = cl ∨ cl' = []) → HeadR E x μ cl' l k → ∃ cl' k', (cl' = cl ∨ cl' = []) ∧ HeadR E x μ cl' l k' ∧
        ∀ (fr : Frame) (cs : List Frame) (w : World), fr.mode = .run → fr.todo = k → Steps P (lone fr cs w) (lone (Frame.to fr k') cs w) := by
      intro cl' k h1 h2
      refine ⟨cl', k, h1, h2, fun fr cs w _ ht => ?_⟩
      subst ht
      exact .refl _ _
    induction t with
    | nil cl => exact same (.inl rfl) (.nil cl)
    | forget t ih =>
      obtain ⟨cl', k', h1, h2, h3⟩ := ih hk (fun {cl'} {k} h1 h2 => by
        refine ⟨cl', k, h1, h2, fun fr cs w _ ht => ?_⟩
        subst ht
        exact .refl _ _)
      exact ⟨cl', k', .inr (by rcases h1 with h | h <;> exact h), h2, h3⟩
    | @code cl c l k t ih =>
      cases c with
      | skip =>
        obtain ⟨cl', k', h1, h2, h3⟩ := ihn (isize k) (by simp only [isize, csize] at hk; omega) (Nat.le_refl _) (show TodoR E x μ cl l k from t)
        exact ⟨cl', k', h1, h2, fun fr cs w hm ht => .head (s_skip hm ht) (h3 (Frame.to fr k) cs w hm rfl)⟩
      | label t' =>
        obtain ⟨cl', k', h1, h2, h3⟩ := ihn (isize k) (by simp only [isize, csize] at hk; omega) (Nat.le_refl _) (show TodoR E x μ [] l k from t)
        exact ⟨cl', k', .inr (by rcases h1 with h | h <;> exact h), h2, fun fr cs w hm ht => .head (s_label hm ht) (h3 (Frame.to fr k) cs w hm rfl)⟩
      | seq a b =>
        have t' : TodoR E x μ cl (compC E x cl a ++ (compC E x (aft x.nd cl a) b ++ l)) (.code a :: .code b :: k) := .code (.code t)
        obtain ⟨cl', k', h1, h2, h3⟩ := ihn (isize (.code a :: .code b :: k)) (by simp only [isize, csize] at hk ⊢; omega) (Nat.le_refl _) t'
        refine ⟨cl', k', h1, by simp only [compC, List.append_assoc]; exact h2, fun fr cs w hm ht => .head (s_seq hm ht) (h3 (Frame.to fr _) cs w hm rfl)⟩
      | region id ops dr => exact same (.inl rfl) (.reg t)
      | cond y a b => exact same (.inl rfl) (.cond t)
      | block id b => exact same (.inl rfl) (.block t)
      | loop b => exact same (.inl rfl) (.loop t)
      | rangeFunc f ps a b => exact same (.inl rfl) (.rangeF t)
      | exit id => exact same (.inl rfl) (.exit t)
      | scope b => exact same (.inl rfl) (.scope t)
      | goto t' => exact same (.inl rfl) (.goto t)
      | ret => exact same (.inl rfl) (.ret t)
      | refuse w => exact same (.inl rfl) .refuse
    | inBlock t ih => exact same (.inl rfl) (.inBlock t)
    | inLoop t ih => exact same (.inl rfl) (.inLoop t)
    | inScope t ih => exact same (.inl rfl) (.inScope t)
    | mid h1 t ih => exact same (.inl rfl) (.mid h1 t)
    | endRF h1 t ih => exact same (.inl rfl) (.endRF h1 t)
    | beginRound t ih => exact same (.inl rfl) (.beginRound t)

end
end
end Go.Ev


namespace Go.Ev
set_option linter.unusedVariables false
set_option linter.unusedSectionVars false
set_option linter.unusedSimpArgs false
noncomputable section

/-! ## regions that draw: what may not be done yet -/
def qOf (E : Env) (x : Cx) : Operand → Opd := opdW x.nd (gl E) []
def pre (arr : Array Oper) (i : Nat) : Nat := (Region.before arr).getD i 0
/-- every order of what is left that the edges let -/
structure LinR (arr : Array Oper) (idxs : List Nat) : Prop where
  lt : ∀ i ∈ idxs, i < arr.size
  nodup : idxs.Nodup
  ord : ∀ a j b, idxs = a ++ j :: b → ∀ p, inM (pre arr j) p = true → p < arr.size ∧ p ∉ j :: b
def guardOf (arr : Array Oper) (o : Oper) : Option (Operand × Bool) :=
  match o.guard with
  | none => none
  | some (j, want) => match arr[j]? with
    | some p => match p.dst with
      | some t => some (.tmp t, want)
      | none => none
    | none => none
def GOn (E : Env) (x : Cx) (arr : Array Oper) (o : Oper) (L : Lo) : Prop :=
  o.guard = none ∨ ∃ y want, guardOf arr o = some (y, want) ∧ getO (qOf E x y) L = .bool want
def GOff (E : Env) (x : Cx) (arr : Array Oper) (o : Oper) (L : Lo) : Prop :=
  ∃ y want, guardOf arr o = some (y, want) ∧ (getO (qOf E x y) L = .bool (!want) ∨ ∃ vs, getO (qOf E x y) L = .tuple vs)
def tgtV (L : Lo) (o : Oper) : AV := match o.dst with | some t => getT t L.tm | none => undefA
def keyOfA : AV → Option Key
  | .ptr f _ _ => some f
  | .slice f _ _ _ _ _ _ => some f
  | .map f => some f
  | _ => none
/-- the key of an object that the evaluator has made already, and the machine not yet -/
def pk (E : Env) (x : Cx) (arr : Array Oper) (d : Nat) (L : Lo) (i : Nat) : Option Key :=
  match arr[i]? with
  | some o => bif inM d i then (match insU (qOf E x) E .no o with | .al _ _ => keyOfA (tgtV L o) | _ => none) else none
  | none => none
/-- the same operands in two places -/
def Agr (E : Env) (x : Cx) (o : Oper) (L0 L : Lo) : Prop := ∀ y ∈ o.op.operands.toList, getO (qOf E x y) L0 = getO (qOf E x y) L
def PendL (E : Env) (x : Cx) (arr : Array Oper) (o : Oper) (L : Lo) : Prop :=
  (GOff E x arr o L ∧ ∀ t, o.dst = some t → getT t L.tm = undefA) ∨
  (GOn E x arr o L ∧ match insU (qOf E x) E .no o with
    | .pu _ p => memP p = true ∨ ∃ L0, Agr E x o L0 L ∧ ∀ h, ∃ v, p.ev E h L0 = some v ∧ ∀ t, o.dst = some t → v = getT t L.tm
    | .al _ _ => True
    | _ => False)
/-- of what the evaluator has done already, memory still says so -/
def PendH (E : Env) (x : Cx) (arr : Array Oper) (h : Hp) (o : Oper) (L : Lo) : Prop :=
  GOff E x arr o L ∨ match insU (qOf E x) E .no o with
    | .pu _ p => memP p = true → ∃ L0, Agr E x o L0 L ∧ ∃ v, p.ev E h L0 = some v ∧ ∀ t, o.dst = some t → v = getT t L.tm
    | .al _ p => ∃ L0 f, Agr E x o L0 L ∧ keyOfA (tgtV L o) = some f ∧ (hget f h).isNone = false ∧ p.ev h f L0 = some (hget f h, tgtV L o)
    | _ => False
structure DrSt (E : Env) (x : Cx) (arr : Array Oper) : Prop where
  ops : (arr.toList.all fun o => okD x.n o.dst && (resOk E x.res o && dstOk E (opdW x.nd (gl E) []) o)) = true
  order : orderOk E arr (marked arr) = true
/-- d: what the evaluator has done; qs: the quiet ones among it that may be left; idxs: what the machine has still to do -/
structure DrI (E : Env) (x : Cx) (arr : Array Oper) (d : Nat) (qs : List (Nat × Oper × Nat)) (idxs : List Nat) (μ : Mu) (L : Lo) (tmps : Array Value) : Prop where
  lin : LinR arr idxs
  cd : ∀ i, i < arr.size → i ∉ idxs → inM d i = true
  dcl : ∀ i p, i < arr.size → inM d i = true → inM (pre arr i) p = true → inM d p = true
  hqs : ∀ i ∈ idxs, inM d i = true → ∃ o m, (i, o, m) ∈ qs
  qsm : ∀ e ∈ qs, e ∈ marked arr ∧ isQ E e.2.1 = true
  need : NeedR x.nd (fun t => ∃ i ∈ idxs, inM d i = true ∧ ∃ o, arr[i]? = some o ∧ o.dst = some t) μ L.tm tmps
  pl : ∀ i o, i ∈ idxs → inM d i = true → arr[i]? = some o → PendL E x arr o L

/-! ## frames -/
def PEsR (μ : Mu) : List PE → List PanicEntry → Prop
  | [], l => l = []
  | .mk v r :: es, l => ∃ u l', l = { v := u, recovered := r, goexit := false } :: l' ∧ VR μ v u ∧ PEsR μ es l'
def MdR (μ : Mu) : Md → FrameMode → Prop
  | .run, m => m = .run
  | .returning, m => m = .returning
  | .panicking ch, m => ∃ ch', m = .panicking ch' ∧ PEsR μ ch ch'
def RndR (μ : Mu) : Option Key → Option Nat → Prop
  | none, r => r = none
  | some l, r => ∃ b, AtR μ l b ∧ r = some b
inductive FiR (E : Env) (μ : Mu) : FI → Frame → Prop where
  | mk {fn ds md dd rnd fr} : fr.fn = fn → DfsR μ ds fr.defers → MdR μ md fr.mode → fr.kind = (if dd then .deferred else .normal) → RndR μ rnd fr.roundOf → nOf E fn ≤ fr.tmps.size →
      (∃ f, E.fs.get fn = some f) → FiR E μ (.mk fn ds md dd rnd) fr

/-- what the evaluator has not done -/
def Left (arr : Array Oper) (d : Nat) (td : List (Nat × Oper × Nat)) : Prop := td.Nodup ∧ ∀ e, e ∈ td ↔ e ∈ marked arr ∧ inM d e.1 = false
/-- a region that draws, on the way: it waits for an effect, or has just had it -/
inductive DrawnB (E : Env) (x : Cx) (μ : Mu) (L : Lo) (tmps : Array Value) : List Ci → List Item → List Key → Prop where
  | wait {arr i o idxs fuel d qs td rest k} : DrSt E x arr → TodoR E x μ [] rest k → arr[i]? = some o → isQ E o = false → inM d i = false → Left arr (Nat.lor d (Nat.pow 2 i)) td →
      DrI E x arr d qs (i :: idxs) μ L tmps →
      DrawnB E x μ L tmps (.wait (dst o.dst) (.chk (pend E (qOf E x) arr (pre arr i) qs) :: plan E (qOf E x) arr fuel (Nat.lor d (Nat.pow 2 i)) (qs.filter fun e => !inM (pre arr i) e.1) td) :: rest)
        (.inRegion arr (i :: idxs) :: k) (idxs.filterMap (pk E x arr d L))
  | mid {arr i idxs fuel d qs td rest k} : DrSt E x arr → TodoR E x μ [] rest k → Left arr d td →
      DrI E x arr d qs idxs μ L tmps → (∀ p, inM (pre arr i) p = true → p ∉ idxs) →
      DrawnB E x μ L tmps (.mid (.chk (pend E (qOf E x) arr (pre arr i) qs) :: plan E (qOf E x) arr fuel d (qs.filter fun e => !inM (pre arr i) e.1) td) :: rest)
        (.inRegion arr idxs :: k) (idxs.filterMap (pk E x arr d L))

inductive BodyR (E : Env) (fn : Nat) (μ : Mu) (L : Lo) (tmps : Array Value) : Md → List Ci → List Item → List Key → Prop where
  | plain {cl l k} : KnR (cxOf E fn).nd μ cl L tmps → TodoR E (cxOf E fn) μ cl l k → BodyR E fn μ L tmps .run l k []
  | waitP {cl : Cl} {arr : Array Oper} {i n l k} {o : Oper} : KnR (cxOf E fn).nd μ cl L tmps → i + 1 + n = arr.size → arr[i]? = some o → okD (cxOf E fn).n o.dst = true →
      TodoR E (cxOf E fn) μ (aftOs (cxOf E fn).nd (pushCl o.dst cl) (arr.toList.drop (i + 1))) l k →
      BodyR E fn μ L tmps .run (.wait (dstN (cxOf E fn).nd o.dst) (compOs E arr (cxOf E fn) (pushCl o.dst cl) (arr.toList.drop (i + 1))) :: l) (.inRegion arr (List.range' i (n + 1)) :: k) []
  | inRFP {l b rest k} : KnR (cxOf E fn).nd μ [] L tmps → AtR μ l b → TodoR E (cxOf E fn) μ [] rest k → BodyR E fn μ L tmps .run (.inRF l :: rest) (.inRangeFunc b :: k) []
  | drawn {l k F} : DrawnB E (cxOf E fn) μ L tmps l k F → BodyR E fn μ L tmps .run l k F
  | out {md l k X} : (match md with | .run => False | _ => True) → NeedR (cxOf E fn).nd X μ L.tm tmps → (∀ t, inM (cxOf E fn).res t = true → ¬ X t) → BodyR E fn μ L tmps md l k []
inductive FrR (E : Env) (μ : Mu) : Lo → List Ci → FI → Frame → List Key → Prop where
  | mk {L todo fn ds md dd rnd fr F} : FiR E μ (.mk fn ds md dd rnd) fr → BodyR E fn μ L fr.tmps md todo fr.todo F → FrR E μ L todo (.mk fn ds md dd rnd) fr F
inductive StR (E : Env) (μ : Mu) : List Fr → List Frame → List Key → Prop where
  | nil : StR E μ [] [] []
  | cons {L todo fi fr cs frs F Fs} : FrR E μ L todo fi fr F → StR E μ cs frs Fs → StR E μ (.mk L todo fi :: cs) (fr :: frs) (F ++ Fs)

/-- keys whose objects the evaluator has made, and the machine not yet -/
def Kept1 (μ : Mu) (h : Hp) (F : List Key) : Prop := F.Nodup ∧ ∀ f ∈ F, (hget f h).isNone = false ∧ ∀ g, μ f g = none

/-- what the call began with: the callers behind it, the world -/
structure Call0 where
  cs0 : List Frame
  W : World

/-- THE SIMULATION: the evaluator's configuration speaks of the machine's -/
inductive Sim (E : Env) (P : Program) (C : Call0) : Cfg → Machine → Prop where
  | mk {L todo fi cs h nx μ fr frs F Fs w} : HR C.W.heap.size μ h w → GR E μ → Ext C.W.heap.size C.W w → FrR E μ L todo fi fr F → StR E μ cs frs Fs → Kept1 μ h (F ++ Fs) →
      Sim E P C (.mk L todo fi cs h nx) (lone fr (frs ++ C.cs0) w)

/-- the call has come to a value -/
def Done (E : Env) (P : Program) (C : Call0) (a : AV) (m : Machine) : Prop := ∃ fr w v μ, Steps P m (lone fr C.cs0 w) ∧ fr.leaving P w (.returned v) ∧ VR μ a v ∧ Ext C.W.heap.size C.W w ∧ fr.fn = E.root
/-- what the evaluator says of a machine holds -/
def Good (E : Env) (P : Program) (C : Call0) : Sp → Machine → Prop
  | .go c, m => ∃ m', Steps P m m' ∧ Sim E P C c m'
  | .br l, m => ∃ c ∈ l, ∃ m', Steps P m m' ∧ Sim E P C c m'
  | .done a, m => Done E P C a m
  | .fail, _ => True

theorem Good.of_steps {E : Env} {P : Program} {C : Call0} {s : Sp} {m m' : Machine} (h : Steps P m m') (g : Good E P C s m') : Good E P C s m := by
  cases s with
  | go c => obtain ⟨m2, h1, h2⟩ := g; exact ⟨m2, h.trans h1, h2⟩
  | br l => obtain ⟨c, hc, m2, h1, h2⟩ := g; exact ⟨c, hc, m2, h.trans h1, h2⟩
  | done a => obtain ⟨fr, w, v, μ, h1, h2⟩ := g; exact ⟨fr, w, v, μ, h.trans h1, h2⟩
  | fail => trivial

/-! mono -/
theorem PEsR.mono {μ ν : Mu} (h : μ.le ν) : ∀ {a : List PE} {b : List PanicEntry}, PEsR μ a b → PEsR ν a b
  | [], b, k => k
  | .mk v r :: a, b, k => by obtain ⟨u, l', e, h1, h2⟩ := k; exact ⟨u, l', e, VR.mono h _ _ h1, PEsR.mono h h2⟩
theorem MdR.mono {μ ν : Mu} (h : μ.le ν) : ∀ {a : Md} {b : FrameMode}, MdR μ a b → MdR ν a b
  | .run, b, k => k
  | .returning, b, k => k
  | .panicking ch, b, k => by obtain ⟨ch', e, h1⟩ := k; exact ⟨ch', e, h1.mono h⟩
theorem RndR.mono {μ ν : Mu} (h : μ.le ν) : ∀ {a : Option Key} {b : Option Nat}, RndR μ a b → RndR ν a b
  | none, b, k => k
  | some l, b, k => by obtain ⟨b', h1, h2⟩ := k; exact ⟨b', h1.mono h, h2⟩
theorem FiR.mono {E : Env} {μ ν : Mu} (h : μ.le ν) {fi : FI} {fr : Frame} (k : FiR E μ fi fr) : FiR E ν fi fr := by
  cases k with
  | mk h1 h2 h3 h4 h5 h6 h7 => exact .mk h1 (h2.mono h) (h3.mono h) h4 (h5.mono h) h6 h7
theorem DrI.mono {E : Env} {x : Cx} {arr : Array Oper} {d : Nat} {qs : List (Nat × Oper × Nat)} {idxs : List Nat} {μ ν : Mu} {L : Lo} {tmps : Array Value} (h : μ.le ν) (k : DrI E x arr d qs idxs μ L tmps) :
    DrI E x arr d qs idxs ν L tmps := ⟨k.lin, k.cd, k.dcl, k.hqs, k.qsm, k.need.mono h, k.pl⟩
theorem DrawnB.mono {E : Env} {x : Cx} {μ ν : Mu} (h : μ.le ν) {L : Lo} {tmps : Array Value} {l : List Ci} {k : List Item} {F : List Key} (b : DrawnB E x μ L tmps l k F) : DrawnB E x ν L tmps l k F := by
  cases b with
  | wait h1 h2 h3 h4 h5 h6 h7 => exact .wait h1 (h2.mono h) h3 h4 h5 h6 (h7.mono h)
  | mid h1 h2 h3 h4 h5 => exact .mid h1 (h2.mono h) h3 (h4.mono h) h5
theorem BodyR.mono {E : Env} {fn : Nat} {μ ν : Mu} (h : μ.le ν) {L : Lo} {tmps : Array Value} {md : Md} {l : List Ci} {k : List Item} {F : List Key} (b : BodyR E fn μ L tmps md l k F) : BodyR E fn ν L tmps md l k F := by
  cases b with
  | plain h1 h2 => exact .plain (h1.mono h) (h2.mono h)
  | waitP h1 h2 h3 h4 h5 => exact .waitP (h1.mono h) h2 h3 h4 (h5.mono h)
  | inRFP h1 h2 h3 => exact .inRFP (h1.mono h) (h2.mono h) (h3.mono h)
  | drawn h1 => exact .drawn (h1.mono h)
  | out h0 h1 h2 => exact .out h0 (h1.mono h) h2
theorem FrR.mono {E : Env} {μ ν : Mu} (h : μ.le ν) {L : Lo} {l : List Ci} {fi : FI} {fr : Frame} {F : List Key} (b : FrR E μ L l fi fr F) : FrR E ν L l fi fr F := by
  cases b with
  | mk h1 h2 => exact .mk (h1.mono h) (h2.mono h)
theorem StR.mono {E : Env} {μ ν : Mu} (h : μ.le ν) {cs : List Fr} {frs : List Frame} {F : List Key} (b : StR E μ cs frs F) : StR E ν cs frs F := by
  induction b with
  | nil => exact .nil
  | cons h1 _ ih => exact .cons (h1.mono h) ih
theorem GR.mono {E : Env} {μ ν : Mu} (h : μ.le ν) (k : GR E μ) : GR E ν := fun g hg => by obtain ⟨n, hn⟩ := k g hg; exact ⟨n, h _ _ _ hn⟩
theorem Kept1.kp {μ ν : Mu} {h h' : Hp} {F : List Key} (k : Kept1 μ h F) (hk : Kp h μ h' ν) : Kept1 ν h' F := ⟨k.1, fun f hf => by
  obtain ⟨h1, h2⟩ := k.2 f hf
  obtain ⟨h3, h4⟩ := hk f h1
  exact ⟨h3, h4 h2⟩⟩

end
end Go.Ev
